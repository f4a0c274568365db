/- Walks of Addr laws. -/
import Derived.Test.YtamiodnbinhmhaaDoorAdrW1
set_option linter.unusedSimpArgs false
set_option linter.unusedVariables false
set_option linter.unusedSectionVars false
namespace Go.Wk
open Go.HL
open Go.Proofs hiding encI
variable [DM]

def strconv_FormatUint_W (i : Int) (base : Int) (Q : Str → Prop) : Prop :=
  internal_strconv_FormatUint_W i base (fun r_2 => Q r_2)
set_option maxHeartbeats 40000000 in
set_option maxRecDepth 100000 in
theorem strconv_FormatUint_walk {F : Fz} {fr : List Ow} {h0 : Heap} (i : Int) (base : Int) (hS : St F (fr) h0) (hG_7 : RoF (Ow.box 7 136 (arrCells tab64).toArray) F h0) {Q : Str → Prop} (hM : strconv_FormatUint_W i base Q) :
    HC Tryd.prog 64 #[.int .u64 i, .int .i64 base] h0 fun u h' => ∃ (F' : Fz) (r_1 : Str), u = .string (bs r_1) ∧ Kp F h0 F' h' ∧ St F' (fr) h' ∧ (RoF (Ow.box 7 136 (arrCells tab64).toArray) F' h') ∧ Q r_1 := by
  unfold strconv_FormatUint_W at hM
  have hK := Kp.refl F h0
  refine HC.of_HW (n := 8) Tryd.func64 rfl rfl (Nat.le_of_ble_eq_true rfl) ?_
  refine HW.seq ?_
  refine HW.region ?_
  refine HO.val (v := .string (bs [])) (want_none) rfl (q_assign rfl) ?_
  refine HO.nil (thenQ_normal (?_))
  refine HW.seq ?_
  refine HW.region ?_
  refine HO.val (v := .int .u64 i) (want_none) rfl (q_move rfl) ?_
  refine HO.val (v := .int .i64 base) (want_none) rfl (q_move rfl) ?_
  refine HO.call (want_none) rfl (ec en_85 rfl rfl) (internal_strconv_FormatUint_walk (fr := (fr)) i base hS hG_7 hM) ?_
  rintro _ h_1 ⟨F_1, r_2, rfl, hk, hS, _, hM⟩
  replace hK := hK.trans hk
  replace hG_7 := hG_7.kp hk
  refine HO.val (v := .string (bs r_2)) (want_none) rfl (q_assign rfl) ?_
  refine HO.nil (thenQ_normal (?_))
  refine HW.ret (?_)
  refine ⟨.inr rfl, .string (bs r_2), res1 rfl (rt rfl), ?_⟩
  exact ⟨F_1, r_2, rfl, hK, hS, hG_7, hM⟩

def addr_list_l2 (a : T_api_Addr) (to1 : Int) (Q : Str → Prop) (K_1 : (List Str) → Int → Prop) (l_1 : List Str) (i_1 : Int) : Prop :=
  (i_1 < to1 → addr_word_W a i_1 (fun r_2 => strconv_FormatUint_W r_2 16 (fun r_3 => ((l_1.length + ([r_3] : List Str).length) * 16 ≤ 140737488355328) ∧ ((I64 (i_1 + 1)) ∧ (K_1 (l_1 ++ ([r_3] : List Str)) (i_1 + 1)))))) ∧ (¬ (i_1 < to1) → ((l_1).length ≤ 140737488355328 ∧ (joinS l_1 ([58] : Str)).length ≤ 140737488355328) ∧ (Q (joinS l_1 ([58] : Str))))
def addr_list_W (a : T_api_Addr) (from1 : Int) (to1 : Int) (Q : Str → Prop) : Prop :=
  loopW (fun (K_1 : (List Str × Int) → Prop) (s : List Str × Int) => addr_list_l2 a to1 Q (fun l_1 i_1 => K_1 (l_1, i_1)) s.1 s.2) ([], from1)
set_option maxHeartbeats 40000000 in
set_option maxRecDepth 100000 in
theorem addr_list_walk {F : Fz} {fr : List Ow} {h0 : Heap} (a : T_api_Addr) (from1 : Int) (to1 : Int) (hS : St F (fr) h0) (hG_7 : RoF (Ow.box 7 136 (arrCells tab64).toArray) F h0) (hD : DM.on = false) {Q : Str → Prop} (hM : addr_list_W a from1 to1 Q) :
    HC Tryd.prog 46 #[.agg (e_api_Addr a).toArray, .int .i64 from1, .int .i64 to1] h0 fun u h' => ∃ (F' : Fz) (r_1 : Str), u = .string (bs r_1) ∧ Kp F h0 F' h' ∧ St F' (fr) h' ∧ (RoF (Ow.box 7 136 (arrCells tab64).toArray) F' h') ∧ Q r_1 := by
  unfold addr_list_W at hM
  have hK := Kp.refl F h0
  refine HC.of_HW (n := 24) Tryd.func46 rfl rfl (Nat.le_of_ble_eq_true rfl) ?_
  refine HW.seq ?_
  refine HW.region ?_
  refine HO.eff (want_none) rfl (st_box (c := (e_api_Addr a).toArray) (k' := 17) hS rfl rfl) ?_
  rintro _ h_1 ⟨b_1, rfl, hS, hk⟩
  replace hK := hK.trans hk
  replace hG_7 := hG_7.kp hk
  refine HO.val (v := .string (bs [])) (want_none) rfl (q_assign rfl) ?_
  refine HO.nil (thenQ_normal (?_))
  refine HW.seq ?_
  refine HW.region ?_
  refine HO.val (v := .slice none 0 0) (want_none) rfl (q_assign rfl) ?_
  refine HO.nil (thenQ_normal (?_))
  refine HW.seq ?_
  refine HW.seq ?_
  refine HW.region ?_
  refine HO.val (v := .int .i64 from1) (want_none) rfl (q_move rfl) ?_
  refine HO.val (v := .int .i64 from1) (want_none) rfl (q_assign rfl) ?_
  refine HO.nil (thenQ_normal (?_))
  refine HW.block ?_
  obtain ⟨I_1, m_1, hI_1, hR_1⟩ := hM
  replace hS := hS.nilOwn 9 1 encT
  replace hS : St F (Ow.box b_1 25 (e_api_Addr a).toArray :: Ow.own 9 1 encT (.slice none 0 0) ([] : List Str) :: fr) h_1 := hS.perm2 [1, 0] 2 rfl rfl
  refine HW.loop (S := List Str × Int) (fun s f h => match s with | (l_1, i_1) => ∃ (F' : Fz) (vl_1 : Value), f 2 = .int .i64 to1 ∧ f 3 = .pointer (some ⟨b_1, 0, none⟩) ∧ f 6 = .string (bs []) ∧ f 7 = vl_1 ∧ f 8 = .int .i64 i_1 ∧ Kp F h0 F' h ∧ St F' (Ow.box b_1 25 (e_api_Addr a).toArray :: Ow.own 9 1 encT vl_1 l_1 :: fr) h ∧ (RoF (Ow.box 7 136 (arrCells tab64).toArray) F' h) ∧ I_1 (l_1, i_1)) m_1 ([], from1) ⟨F, .slice none 0 0, rfl, rfl, rfl, rfl, rfl, hK, hS, hG_7, hI_1⟩ ?_
  rintro ⟨l_1, i_1⟩ f_1 h_2 ⟨F_1, vl_1, e2, e3, e6, e7, e8, hK, hS, hG_7, hI0⟩
  obtain ⟨K_1, hKe_1⟩ : ∃ K : (List Str) → Int → Prop, K = fun l_1' i_1' => I_1 (l_1', i_1') ∧ m_1 (l_1', i_1') < m_1 (l_1, i_1) := ⟨_, rfl⟩
  have hM : addr_list_l2 a to1 Q K_1 l_1 i_1 := by rw [hKe_1]; exact hR_1 (l_1, i_1) hI0
  unfold addr_list_l2 at hM
  refine HW.fr [(2, .int .i64 to1), (3, .pointer (some ⟨b_1, 0, none⟩)), (6, .string (bs [])), (7, vl_1), (8, .int .i64 i_1)] ⟨e2, e3, e6, e7, e8, trivial⟩ ?_
  refine HW.seq ?_
  refine HW.seq ?_
  refine HW.region ?_
  refine HO.val (v := .int .i64 i_1) (want_none) rfl (q_move rfl) ?_
  refine HO.val (v := .int .i64 to1) (want_none) rfl (q_move rfl) ?_
  refine HO.val (v := .bool (decide (i_1 < to1))) (want_none) rfl (q_lss rfl rfl) ?_
  refine HO.nil (thenQ_normal (?_))
  refine HW.cond (decide (i_1 < to1)) rfl (fun c_1 => ?_) (fun c_1 => ?_)
  · replace hM := hM.1 (of_decide_eq_true c_1)
    refine HW.skip (thenQ_normal (?_))
    refine HW.seq ?_
    refine HW.block ?_
    refine HW.region ?_
    refine HO.val (v := vl_1) (want_none) rfl (q_move rfl) ?_
    refine HO.val (v := .agg (e_api_Addr a).toArray) (want_none) rfl (q_loadAgg (cs := (e_api_Addr a)) ta_25 rfl rfl (Blk.cells (k := 17) (hS.box 0 rfl) rfl)) ?_
    refine HO.val (v := .int .i64 i_1) (want_none) rfl (q_move rfl) ?_
    refine HO.call (want_none) rfl (ec en_63 rfl rfl) (addr_word_walk (fr := (Ow.box b_1 25 (e_api_Addr a).toArray :: Ow.own 9 1 encT vl_1 l_1 :: fr)) a i_1 hS hM) ?_
    rintro _ h_3 ⟨F_2, r_2, rfl, hk, hS, hM⟩
    replace hK := hK.trans hk
    replace hG_7 := hG_7.kp hk
    refine HO.call (want_none) rfl (ec en_64 rfl rfl) (strconv_FormatUint_walk (fr := (Ow.box b_1 25 (e_api_Addr a).toArray :: Ow.own 9 1 encT vl_1 l_1 :: fr)) r_2 16 hS hG_7 hM) ?_
    rintro _ h_4 ⟨F_3, r_3, rfl, hk, hS, _, hM⟩
    replace hK := hK.trans hk
    replace hG_7 := hG_7.kp hk
    refine HO.eff (want_none) rfl (st_lit (enc := encT) (cells := #[.string (bs r_3)]) #[.string (bs [])] ([r_3] : List Str) hS tl_58 (by decide) (by decide) (by kernel_rfl) (by kernel_rfl) rfl (by intro x hx; rfl) rfl) ?_
    rintro _ h_5 ⟨b_2, rfl, hS, hk⟩
    replace hK := hK.trans hk
    replace hG_7 := hG_7.kp hk
    obtain ⟨ho_1, hM⟩ := hM
    refine HO.eff (want_none) rfl (st_append te_58 hS (i := 2) rfl (hS.own 0 rfl).slice rfl rfl rfl (by intro a _ u hu; simp [encT, encI, encN, encB, encT] at hu; subst hu; rfl) ho_1 (by omega)) ?_
    rintro v_1 h_6 ⟨hS, hk⟩
    replace hS : St F_3 (Ow.own 9 1 encT (.slice (some ⟨b_2, 0, none⟩) 1 1) ([r_3] : List Str) :: Ow.box b_1 25 (e_api_Addr a).toArray :: Ow.own 9 1 encT v_1 (l_1 ++ ([r_3] : List Str)) :: fr) h_6 := hS
    replace hK := hK.trans hk
    replace hG_7 := hG_7.kp hk
    refine HO.val (v := v_1) (want_none) rfl (q_assign rfl) ?_
    refine HO.nil (blockQ_normal (thenQ_normal (?_)))
    refine HW.region ?_
    refine HO.val (v := .int .i64 i_1) (want_none) rfl (q_move rfl) ?_
    obtain ⟨ho_2, hM⟩ := hM
    refine HO.val (v := .int .i64 (i_1 + 1)) (want_none) rfl (q_addN _ rfl rfl rfl ho_2.1 ho_2.2) ?_
    refine HO.val (v := .int .i64 (i_1 + 1)) (want_none) rfl (q_assign rfl) ?_
    refine HO.nil (thenQ_normal (?_))
    replace hS : St F_3 (Ow.box b_1 25 (e_api_Addr a).toArray :: Ow.own 9 1 encT v_1 (l_1 ++ ([r_3] : List Str)) :: fr) h_6 := hS.perm2 [1, 2] 3 rfl rfl
    rw [hKe_1] at hM
    exact ⟨(l_1 ++ ([r_3] : List Str), i_1 + 1), ⟨F_3, v_1, rfl, rfl, rfl, rfl, rfl, hK, hS, hG_7, hM.1⟩, hM.2⟩
  · replace hM := hM.2 (of_decide_eq_false c_1)
    refine HW.exit (thenQ_exit (thenQ_exit (blockQ_exit (thenQ_normal (?_)))))
    refine HW.seq ?_
    refine HW.region ?_
    refine HO.val (v := vl_1) (want_none) rfl (q_move rfl) ?_
    obtain ⟨ho_3, hM⟩ := hM
    refine HO.call (want_none) rfl (ec en_35 rfl rfl) (strJoin_hc hD Tryd.join Tryd.joinX ([58] : Str) hS (hS.own 1 rfl).slice ho_3.1 ho_3.2) ?_
    rintro _ h_7 ⟨rfl, hS, hk⟩
    replace hK := hK.trans hk
    replace hG_7 := hG_7.kp hk
    refine HO.val (v := .string (bs (joinS l_1 ([58] : Str)))) (want_none) rfl (q_assign rfl) ?_
    refine HO.nil (thenQ_normal (?_))
    refine HW.ret (?_)
    refine ⟨.inr rfl, .string (bs (joinS l_1 ([58] : Str))), res1 rfl (rt rfl), ?_⟩
    replace hS : St F_1 (fr) h_7 := hS.perm2 [] 2 rfl rfl
    exact ⟨F_1, joinS l_1 ([58] : Str), rfl, hK, hS, hG_7, hM⟩

def addr_text_l2 (a : T_api_Addr) (Q : Str → Prop) (K_1 : (List Str) → Int → Prop) (l_1 : List Str) (n_1 : Int) : Prop :=
  (n_1 < ((cut a.2.1 0 4).length : Int) → ((0 : Int) ≤ n_1 ∧ n_1 < ((cut a.2.1 0 4).length : Int)) ∧ ((I64 ((gi (cut a.2.1 0 4) n_1).toNat : Int)) ∧ (((l_1.length + ([itoaS ((gi (cut a.2.1 0 4) n_1).toNat : Int)] : List Str).length) * 16 ≤ 140737488355328) ∧ ((I64 (n_1 + 1)) ∧ (K_1 (l_1 ++ ([itoaS ((gi (cut a.2.1 0 4) n_1).toNat : Int)] : List Str)) (n_1 + 1)))))) ∧ (¬ (n_1 < ((cut a.2.1 0 4).length : Int)) → ((l_1).length ≤ 140737488355328 ∧ (joinS l_1 ([46] : Str)).length ≤ 140737488355328) ∧ (Q (joinS l_1 ([46] : Str))))
def addr_text_W (a : T_api_Addr) (Q : Str → Prop) : Prop :=
  ((!a.1) = true → loopW (fun (K_1 : (List Str × Int) → Prop) (s : List Str × Int) => addr_text_l2 a Q (fun l_1 n_1 => K_1 (l_1, n_1)) s.1 s.2) ([], 0)) ∧ ((!a.1) = false → addr_row_W a (fun r0_1 r1_1 => (r1_1 < 2 → addr_list_W a 0 8 (fun r_2 => Q r_2)) ∧ (¬ (r1_1 < 2) → (I64 (r0_1 + r1_1)) ∧ (addr_list_W a 0 r0_1 (fun r_3 => ((r_3.length : Int) + ((([58, 58] : Str)).length : Int) ≤ 9223372036854775807) ∧ (addr_list_W a (r0_1 + r1_1) 8 (fun r_4 => (((r_3 ++ ([58, 58] : Str)).length : Int) + (r_4.length : Int) ≤ 9223372036854775807) ∧ (Q ((r_3 ++ ([58, 58] : Str)) ++ r_4)))))))))
set_option maxHeartbeats 40000000 in
set_option maxRecDepth 100000 in
theorem addr_text_walk {F : Fz} {fr : List Ow} {h0 : Heap} (a : T_api_Addr) (hS : St F (fr) h0) (hG_5 : RoF (Ow.box 5 130 (tab10 ()).toArray) F h0) (hG_7 : RoF (Ow.box 7 136 (arrCells tab64).toArray) F h0) (hD : DM.on = false) {Q : Str → Prop} (hM : addr_text_W a Q) :
    HC Tryd.prog 29 #[.agg (e_api_Addr a).toArray] h0 fun u h' => ∃ (F' : Fz) (r_1 : Str), u = .string (bs r_1) ∧ Kp F h0 F' h' ∧ St F' (fr) h' ∧ (RoF (Ow.box 5 130 (tab10 ()).toArray) F' h') ∧ (RoF (Ow.box 7 136 (arrCells tab64).toArray) F' h') ∧ Q r_1 := by
  unfold addr_text_W at hM
  have hK := Kp.refl F h0
  refine HC.of_HW (n := 46) Tryd.func29 rfl rfl (Nat.le_of_ble_eq_true rfl) ?_
  refine HW.seq ?_
  refine HW.region ?_
  refine HO.eff (want_none) rfl (st_box (c := (e_api_Addr a).toArray) (k' := 17) hS rfl rfl) ?_
  rintro _ h_1 ⟨b_1, rfl, hS, hk⟩
  replace hK := hK.trans hk
  replace hG_5 := hG_5.kp hk
  replace hG_7 := hG_7.kp hk
  refine HO.val (v := .string (bs [])) (want_none) rfl (q_assign rfl) ?_
  refine HO.nil (thenQ_normal (?_))
  refine HW.seq ?_
  refine HW.seq ?_
  refine HW.region ?_
  refine HO.val (v := .pointer (some ⟨b_1, 0, none⟩)) (want_none) rfl (q_fieldAddr fa_25_0 rfl rfl) ?_
  refine HO.val (v := .bool a.1) (want_none) rfl (q_load to_4 rfl (Blk.cell (hS.box 0 rfl) rfl)) ?_
  refine HO.val (v := .bool (!a.1)) (want_none) rfl (q_not rfl) ?_
  refine HO.nil (thenQ_normal (?_))
  refine HW.cond (!a.1) rfl (fun c_1 => ?_) (fun c_1 => ?_)
  · replace hM := hM.1 c_1
    refine HW.seq ?_
    refine HW.region ?_
    refine HO.val (v := .slice none 0 0) (want_none) rfl (q_assign rfl) ?_
    refine HO.nil (thenQ_normal (?_))
    refine HW.seq ?_
    refine HW.seq ?_
    refine HW.region ?_
    refine HO.val (v := .pointer (some ⟨b_1, 1, none⟩)) (want_none) rfl (q_fieldAddr fa_25_1 rfl rfl) ?_
    refine HO.val (v := arrV b_1 1 16 0 4) (want_none) rfl (q_sliceA (o := 1) (lo := 0) (hi := 4) (kl := .i64) tr_23 rfl (.inl ⟨rfl, rfl⟩) (.inr ⟨_, rfl, rfl⟩) ⟨by decide, by decide, by decide⟩) ?_
    refine HO.val (v := .int .i64 ((cut a.2.1 0 4).length : Int)) (want_none) rfl (q_len ts_44 (shp (arrSl (o := 1) (n := 16) (X := a.2) (lo := 0) (hi := 4) (hS.box 0 rfl) rfl ⟨by decide, by decide, by decide⟩ (by decide))) rfl rfl) ?_
    refine HO.val (v := .int .i64 0) (want_none) rfl (q_move rfl) ?_
    refine HO.nil (thenQ_normal (?_))
    refine HW.block ?_
    obtain ⟨I_1, m_1, hI_1, hR_1⟩ := hM
    replace hS := hS.nilOwn 9 1 encT
    replace hS : St F (Ow.box b_1 25 (e_api_Addr a).toArray :: Ow.own 9 1 encT (.slice none 0 0) ([] : List Str) :: fr) h_1 := hS.perm2 [1, 0] 2 rfl rfl
    refine HW.loop (S := List Str × Int) (fun s f h => match s with | (l_1, n_1) => ∃ (F' : Fz) (vl_1 : Value), f 1 = .pointer (some ⟨b_1, 0, none⟩) ∧ f 2 = .string (bs []) ∧ f 3 = vl_1 ∧ f 12 = arrV b_1 1 16 0 4 ∧ f 13 = .int .i64 ((cut a.2.1 0 4).length : Int) ∧ f 14 = .int .i64 n_1 ∧ Kp F h0 F' h ∧ St F' (Ow.box b_1 25 (e_api_Addr a).toArray :: Ow.own 9 1 encT vl_1 l_1 :: fr) h ∧ (RoF (Ow.box 5 130 (tab10 ()).toArray) F' h) ∧ (RoF (Ow.box 7 136 (arrCells tab64).toArray) F' h) ∧ I_1 (l_1, n_1)) m_1 ([], 0) ⟨F, .slice none 0 0, rfl, rfl, rfl, rfl, rfl, rfl, hK, hS, hG_5, hG_7, hI_1⟩ ?_
    rintro ⟨l_1, n_1⟩ f_1 h_2 ⟨F_1, vl_1, e1, e2, e3, e12, e13, e14, hK, hS, hG_5, hG_7, hI0⟩
    obtain ⟨K_1, hKe_1⟩ : ∃ K : (List Str) → Int → Prop, K = fun l_1' n_1' => I_1 (l_1', n_1') ∧ m_1 (l_1', n_1') < m_1 (l_1, n_1) := ⟨_, rfl⟩
    have hM : addr_text_l2 a Q K_1 l_1 n_1 := by rw [hKe_1]; exact hR_1 (l_1, n_1) hI0
    unfold addr_text_l2 at hM
    refine HW.fr [(1, .pointer (some ⟨b_1, 0, none⟩)), (2, .string (bs [])), (3, vl_1), (12, arrV b_1 1 16 0 4), (13, .int .i64 ((cut a.2.1 0 4).length : Int)), (14, .int .i64 n_1)] ⟨e1, e2, e3, e12, e13, e14, trivial⟩ ?_
    refine HW.seq ?_
    refine HW.region ?_
    refine HO.val (v := .bool (decide (n_1 < ((cut a.2.1 0 4).length : Int)))) (want_none) rfl (q_lss rfl rfl) ?_
    refine HO.nil (thenQ_normal (?_))
    refine HW.seq ?_
    refine HW.cond (decide (n_1 < ((cut a.2.1 0 4).length : Int))) rfl (fun c_2 => ?_) (fun c_2 => ?_)
    · replace hM := hM.1 (of_decide_eq_true c_2)
      refine HW.skip (thenQ_normal (?_))
      refine HW.seq ?_
      refine HW.block ?_
      refine HW.seq ?_
      refine HW.region ?_
      obtain ⟨ho_1, hM⟩ := hM
      refine HO.val (v := elemPtr 1 (arrV b_1 1 16 0 4) (n_1).toNat) (want_none) rfl (q_idx ts_44 (arrSl (o := 1) (n := 16) (X := a.2) (lo := 0) (hi := 4) (hS.box 0 rfl) rfl ⟨by decide, by decide, by decide⟩ (by decide)) rfl rfl ho_1) ?_
      refine HO.val (v := .int .u8 ((gi (cut a.2.1 0 4) n_1).toNat : Int)) (want_none) rfl (q_ldElem to_5 (arrSl (o := 1) (n := 16) (X := a.2) (lo := 0) (hi := 4) (hS.box 0 rfl) rfl ⟨by decide, by decide, by decide⟩ (by decide)) rfl ho_1 rfl) ?_
      refine HO.val (v := .int .u8 ((gi (cut a.2.1 0 4) n_1).toNat : Int)) (want_none) rfl (q_assign rfl) ?_
      refine HO.nil (thenQ_normal (?_))
      refine HW.region ?_
      refine HO.val (v := vl_1) (want_none) rfl (q_move rfl) ?_
      refine HO.val (v := .int .u8 ((gi (cut a.2.1 0 4) n_1).toNat : Int)) (want_none) rfl (q_move rfl) ?_
      obtain ⟨ho_2, hM⟩ := hM
      refine HO.val (v := .int .i64 ((gi (cut a.2.1 0 4) n_1).toNat : Int)) (want_none) rfl (q_convInt Tryd.underlying5 Tryd.underlying3 rfl (wrap_i64 ho_2.1 ho_2.2)) ?_
      refine HO.call (want_none) rfl (ec en_44 rfl rfl) (itoaF_hc hD Tryd.itoa (by kernel_rfl) hG_5 hS ((gi (cut a.2.1 0 4) n_1).toNat : Int) ho_2) ?_
      rintro _ h_3 ⟨rfl, hS, hk⟩
      replace hK := hK.trans hk
      replace hG_5 := hG_5.kp hk
      replace hG_7 := hG_7.kp hk
      refine HO.eff (want_none) rfl (st_lit (enc := encT) (cells := #[.string (bs (itoaS ((gi (cut a.2.1 0 4) n_1).toNat : Int)))]) #[.string (bs [])] ([itoaS ((gi (cut a.2.1 0 4) n_1).toNat : Int)] : List Str) hS tl_58 (by decide) (by decide) (by kernel_rfl) (by kernel_rfl) rfl (by intro x hx; rfl) rfl) ?_
      rintro _ h_4 ⟨b_2, rfl, hS, hk⟩
      replace hK := hK.trans hk
      replace hG_5 := hG_5.kp hk
      replace hG_7 := hG_7.kp hk
      obtain ⟨ho_3, hM⟩ := hM
      refine HO.eff (want_none) rfl (st_append te_58 hS (i := 2) rfl (hS.own 0 rfl).slice rfl rfl rfl (by intro a _ u hu; simp [encT, encI, encN, encB, encT] at hu; subst hu; rfl) ho_3 (by omega)) ?_
      rintro v_1 h_5 ⟨hS, hk⟩
      replace hS : St F_1 (Ow.own 9 1 encT (.slice (some ⟨b_2, 0, none⟩) 1 1) ([itoaS ((gi (cut a.2.1 0 4) n_1).toNat : Int)] : List Str) :: Ow.box b_1 25 (e_api_Addr a).toArray :: Ow.own 9 1 encT v_1 (l_1 ++ ([itoaS ((gi (cut a.2.1 0 4) n_1).toNat : Int)] : List Str)) :: fr) h_5 := hS
      replace hK := hK.trans hk
      replace hG_5 := hG_5.kp hk
      replace hG_7 := hG_7.kp hk
      refine HO.val (v := v_1) (want_none) rfl (q_assign rfl) ?_
      refine HO.nil (blockQ_normal (thenQ_normal (?_)))
      refine HW.region ?_
      obtain ⟨ho_4, hM⟩ := hM
      refine HO.val (v := .int .i64 (n_1 + 1)) (want_none) rfl (q_addN _ rfl rfl rfl ho_4.1 ho_4.2) ?_
      refine HO.val (v := .int .i64 (n_1 + 1)) (want_none) rfl (q_move rfl) ?_
      refine HO.nil (thenQ_normal (?_))
      replace hS : St F_1 (Ow.box b_1 25 (e_api_Addr a).toArray :: Ow.own 9 1 encT v_1 (l_1 ++ ([itoaS ((gi (cut a.2.1 0 4) n_1).toNat : Int)] : List Str)) :: fr) h_5 := hS.perm2 [1, 2] 3 rfl rfl
      rw [hKe_1] at hM
      exact ⟨(l_1 ++ ([itoaS ((gi (cut a.2.1 0 4) n_1).toNat : Int)] : List Str), n_1 + 1), ⟨F_1, v_1, rfl, rfl, rfl, rfl, rfl, rfl, hK, hS, hG_5, hG_7, hM.1⟩, hM.2⟩
    · replace hM := hM.2 (of_decide_eq_false c_2)
      refine HW.exit (thenQ_exit (thenQ_exit (blockQ_exit (thenQ_normal (?_)))))
      refine HW.seq ?_
      refine HW.region ?_
      refine HO.val (v := vl_1) (want_none) rfl (q_move rfl) ?_
      obtain ⟨ho_5, hM⟩ := hM
      refine HO.call (want_none) rfl (ec en_35 rfl rfl) (strJoin_hc hD Tryd.join Tryd.joinX ([46] : Str) hS (hS.own 1 rfl).slice ho_5.1 ho_5.2) ?_
      rintro _ h_6 ⟨rfl, hS, hk⟩
      replace hK := hK.trans hk
      replace hG_5 := hG_5.kp hk
      replace hG_7 := hG_7.kp hk
      refine HO.val (v := .string (bs (joinS l_1 ([46] : Str)))) (want_none) rfl (q_assign rfl) ?_
      refine HO.nil (thenQ_normal (?_))
      refine HW.ret (thenQ_ret (?_))
      refine ⟨.inr rfl, .string (bs (joinS l_1 ([46] : Str))), res1 rfl (rt rfl), ?_⟩
      replace hS : St F_1 (fr) h_6 := hS.perm2 [] 2 rfl rfl
      exact ⟨F_1, joinS l_1 ([46] : Str), rfl, hK, hS, hG_5, hG_7, hM⟩
  · replace hM := hM.2 c_1
    refine HW.skip (thenQ_normal (?_))
    refine HW.seq ?_
    refine HW.region ?_
    refine HO.val (v := .agg (e_api_Addr a).toArray) (want_none) rfl (q_loadAgg (cs := (e_api_Addr a)) ta_25 rfl rfl (Blk.cells (k := 17) (hS.box 0 rfl) rfl)) ?_
    refine HO.call (want_none) rfl (ec en_45 rfl rfl) (addr_row_walk (fr := (Ow.box b_1 25 (e_api_Addr a).toArray :: fr)) a hS hM) ?_
    rintro _ h_7 ⟨F_2, r0_1, r1_1, rfl, hk, hS, hM⟩
    replace hK := hK.trans hk
    replace hG_5 := hG_5.kp hk
    replace hG_7 := hG_7.kp hk
    refine HO.val (v := .tuple #[.int .i64 r0_1, .int .i64 r1_1]) (want_none) rfl (q_move rfl) ?_
    refine HO.val (v := .int .i64 r0_1) (want_none) rfl (q_extract rfl rfl) ?_
    refine HO.val (v := .int .i64 r1_1) (want_none) rfl (q_extract rfl rfl) ?_
    refine HO.val (v := .int .i64 r0_1) (want_none) rfl (q_assign rfl) ?_
    refine HO.val (v := .int .i64 r1_1) (want_none) rfl (q_assign rfl) ?_
    refine HO.nil (thenQ_normal (?_))
    refine HW.seq ?_
    refine HW.seq ?_
    refine HW.region ?_
    refine HO.val (v := .int .i64 r1_1) (want_none) rfl (q_move rfl) ?_
    refine HO.val (v := .bool (decide (r1_1 < 2))) (want_none) rfl (q_lss rfl rfl) ?_
    refine HO.nil (thenQ_normal (?_))
    refine HW.cond (decide (r1_1 < 2)) rfl (fun c_3 => ?_) (fun c_3 => ?_)
    · replace hM := hM.1 (of_decide_eq_true c_3)
      refine HW.seq ?_
      refine HW.region ?_
      refine HO.val (v := .agg (e_api_Addr a).toArray) (want_none) rfl (q_loadAgg (cs := (e_api_Addr a)) ta_25 rfl rfl (Blk.cells (k := 17) (hS.box 0 rfl) rfl)) ?_
      refine HO.call (want_none) rfl (ec en_46 rfl rfl) (addr_list_walk (fr := (Ow.box b_1 25 (e_api_Addr a).toArray :: fr)) a 0 8 hS hG_7 hD hM) ?_
      rintro _ h_8 ⟨F_3, r_2, rfl, hk, hS, _, hM⟩
      replace hK := hK.trans hk
      replace hG_5 := hG_5.kp hk
      replace hG_7 := hG_7.kp hk
      refine HO.val (v := .string (bs r_2)) (want_none) rfl (q_assign rfl) ?_
      refine HO.nil (thenQ_normal (?_))
      refine HW.ret (thenQ_ret (?_))
      refine ⟨.inr rfl, .string (bs r_2), res1 rfl (rt rfl), ?_⟩
      replace hS : St F_3 (fr) h_8 := hS.perm2 [] 1 rfl rfl
      exact ⟨F_3, r_2, rfl, hK, hS, hG_5, hG_7, hM⟩
    · replace hM := hM.2 (of_decide_eq_false c_3)
      refine HW.skip (thenQ_normal (?_))
      refine HW.seq ?_
      refine HW.regionA 11 mixed (fun h => (Blk h b_1 (.cells (e_api_Addr a).toArray 25 (0, 0)))) [] (by kernel_rfl) ?_
      refine HA.val (k := 0) (v := .agg (e_api_Addr a).toArray) rfl rfl (by kernel_rfl) (by kernel_rfl) (want_none) rfl (fun _ c201 => q_loadAgg (cs := (e_api_Addr a)) ta_25 rfl rfl (Blk.cells (k := 17) c201 rfl)) ?_
      refine HA.val (k := 1) (v := .int .i64 r0_1) rfl rfl (by kernel_rfl) (by kernel_rfl) (want_none) rfl (fun _ c201 => q_move rfl) ?_
      refine HA.val (k := 4) (v := .agg (e_api_Addr a).toArray) rfl rfl (by kernel_rfl) (by kernel_rfl) (want_none) rfl (fun _ c201 => q_loadAgg (cs := (e_api_Addr a)) ta_25 rfl rfl (Blk.cells (k := 17) c201 rfl)) ?_
      refine HA.val (k := 5) (v := .int .i64 r0_1) rfl rfl (by kernel_rfl) (by kernel_rfl) (want_none) rfl (fun _ c201 => q_move rfl) ?_
      refine HA.val (k := 6) (v := .int .i64 r1_1) rfl rfl (by kernel_rfl) (by kernel_rfl) (want_none) rfl (fun _ c201 => q_move rfl) ?_
      obtain ⟨ho_6, hM⟩ := hM
      refine HA.val (k := 7) (v := .int .i64 (r0_1 + r1_1)) rfl rfl (by kernel_rfl) (by kernel_rfl) (want_none) rfl (fun _ c201 => q_addN _ rfl rfl rfl ho_6.1 ho_6.2) ?_
      refine HA.one (k := 2) ⟨(hS.box 0 rfl), (Go.Wk.at_nil _ _)⟩ (by kernel_rfl) ?_
      refine HS.call rfl (want_none) rfl (ec en_46 rfl rfl) (addr_list_walk (fr := (Ow.box b_1 25 (e_api_Addr a).toArray :: fr)) a 0 r0_1 hS hG_7 hD hM) ?_
      rintro _ h_9 ⟨F_4, r_3, rfl, hk, hS, _, hM⟩
      replace hK := hK.trans hk
      replace hG_5 := hG_5.kp hk
      replace hG_7 := hG_7.kp hk
      obtain ⟨ho_7, hM⟩ := hM
      refine HA.val (k := 3) (v := .string (bs (r_3 ++ ([58, 58] : Str)))) rfl rfl (by kernel_rfl) (by kernel_rfl) (want_none) rfl (fun _ c201 => q_addT rfl rfl ho_7) ?_
      refine HA.one (k := 8) ⟨(hS.box 0 rfl), (Go.Wk.at_nil _ _)⟩ (by kernel_rfl) ?_
      refine HS.call rfl (want_none) rfl (ec en_46 rfl rfl) (addr_list_walk (fr := (Ow.box b_1 25 (e_api_Addr a).toArray :: fr)) a (r0_1 + r1_1) 8 hS hG_7 hD hM) ?_
      rintro _ h_10 ⟨F_5, r_4, rfl, hk, hS, _, hM⟩
      replace hK := hK.trans hk
      replace hG_5 := hG_5.kp hk
      replace hG_7 := hG_7.kp hk
      obtain ⟨ho_8, hM⟩ := hM
      refine HA.val (k := 9) (v := .string (bs ((r_3 ++ ([58, 58] : Str)) ++ r_4))) rfl rfl (by kernel_rfl) (by kernel_rfl) (want_none) rfl (fun _ c201 => q_addT rfl rfl ho_8) ?_
      refine HA.val (k := 10) (v := .string (bs ((r_3 ++ ([58, 58] : Str)) ++ r_4))) rfl rfl (by kernel_rfl) (by kernel_rfl) (want_none) rfl (fun _ c201 => q_assign rfl) ?_
      refine HA.nil ⟨(hS.box 0 rfl), (Go.Wk.at_nil _ _)⟩ (by kernel_rfl) (thenQ_normal (?_))
      refine HW.ret (?_)
      refine ⟨.inr rfl, .string (bs ((r_3 ++ ([58, 58] : Str)) ++ r_4)), res1 rfl (rt rfl), ?_⟩
      replace hS : St F_5 (fr) h_10 := hS.perm2 [] 1 rfl rfl
      exact ⟨F_5, (r_3 ++ ([58, 58] : Str)) ++ r_4, rfl, hK, hS, hG_5, hG_7, hM⟩

def addr_Parse_j2 (Q : T_api_Addr → Int → Prop) (r0_4 : T_api_Addr) (b_4 : Bool) : Prop :=
  (b_4 = true → Q (false, (default : Ba 16)) 2) ∧ (b_4 = false → Q r0_4 0)
def addr_Parse_j1 (s1 : Str) (Q : T_api_Addr → Int → Prop) (b_2 : Str) (ok_1 : Bool) : Prop :=
  addr_Read_W b_2 (fun r0_4 r1_4 => ((!ok_1) = true → addr_Parse_j2 Q r0_4 true) ∧ ((!ok_1) = false → (¬ (r1_4 = 0) → addr_Parse_j2 Q r0_4 true) ∧ (r1_4 = 0 → addr_text_W r0_4 (fun r_1 => addr_Parse_j2 Q r0_4 (!decide ((r_1 : Str) = s1))))))
def addr_Parse_W (s1 : Str) (Q : T_api_Addr → Int → Prop) : Prop :=
  addr_numbers_W s1 [46] 10 1 (fun r0_2 r1_2 => ((s1.length : Int) < 4294967281) ∧ (((hasS s1 ([58] : Str)) = true → addr_parse6_W s1 (fun r0_3 r1_3 => addr_Parse_j1 s1 Q r0_3 r1_3)) ∧ ((hasS s1 ([58] : Str)) = false → addr_Parse_j1 s1 Q r0_2 r1_2)))
set_option maxHeartbeats 40000000 in
set_option maxRecDepth 100000 in
theorem addr_Parse_walk {F : Fz} {fr : List Ow} {h0 : Heap} (s1 : Str) (gm : Int) (gvS : Value) (gbS : Bool) (gvR : Value) (gbR : Bool) (hS : St F (fr) h0) (hG_0 : RoF (Ow.box 0 3 #[.int .i64 gm]) F h0) (hG_1 : RoF (Ow.box 1 64 #[gvS]) F h0) (hE_gvS : ErrF gbS gvS F h0) (hG_2 : RoF (Ow.box 2 64 #[gvR]) F h0) (hE_gvR : ErrF gbR gvR F h0) (hG_5 : RoF (Ow.box 5 130 (tab10 ()).toArray) F h0) (hG_7 : RoF (Ow.box 7 136 (arrCells tab64).toArray) F h0) (hD : DM.on = false) {Q : T_api_Addr → Int → Prop} (hM : addr_Parse_W s1 Q) :
    HC Tryd.prog 15 #[.string (bs s1)] h0 fun u h' => ∃ (F' : Fz) (r0_1 : T_api_Addr) (r1_1 : Int), u = .tuple #[.agg (e_api_Addr r0_1).toArray, .int .i64 r1_1] ∧ Kp F h0 F' h' ∧ St F' (fr) h' ∧ (RoF (Ow.box 0 3 #[.int .i64 gm]) F' h') ∧ (RoF (Ow.box 1 64 #[gvS]) F' h') ∧ (ErrF gbS gvS F' h') ∧ (RoF (Ow.box 2 64 #[gvR]) F' h') ∧ (ErrF gbR gvR F' h') ∧ (RoF (Ow.box 5 130 (tab10 ()).toArray) F' h') ∧ (RoF (Ow.box 7 136 (arrCells tab64).toArray) F' h') ∧ Q r0_1 r1_1 := by
  unfold addr_Parse_W at hM
  have hK := Kp.refl F h0
  refine HC.of_HW (n := 39) Tryd.func15 rfl rfl (Nat.le_of_ble_eq_true rfl) ?_
  refine HW.seq ?_
  refine HW.region ?_
  refine HO.eff (want_none) rfl (st_alloc (c := (e_api_Addr (false, (default : Ba 16))).toArray) hS tz_25 rfl) ?_
  rintro _ h_1 ⟨b_1, rfl, hS, hk⟩
  replace hK := hK.trans hk
  replace hG_0 := hG_0.kp hk
  replace hG_1 := hG_1.kp hk
  replace hE_gvS := hE_gvS.kp hk
  replace hG_2 := hG_2.kp hk
  replace hE_gvR := hE_gvR.kp hk
  replace hG_5 := hG_5.kp hk
  replace hG_7 := hG_7.kp hk
  refine HO.val (v := .int .i64 0) (want_none) rfl (q_assign rfl) ?_
  refine HO.nil (thenQ_normal (?_))
  refine HW.seq ?_
  refine HW.region ?_
  refine HO.val (v := .string (bs s1)) (want_none) rfl (q_move rfl) ?_
  refine HO.call (want_none) rfl (ec en_26 rfl rfl) (addr_numbers_walk (fr := (Ow.box b_1 25 (e_api_Addr (false, (default : Ba 16))).toArray :: fr)) s1 [46] 10 1 gm gvS gbS gvR gbR hS hG_0 hG_1 hE_gvS hG_2 hE_gvR hD hM) ?_
  rintro _ h_2 ⟨F_1, r0_2, r1_2, rfl, hk, hS, _, _, _, _, _, hM⟩
  replace hK := hK.trans hk
  replace hG_0 := hG_0.kp hk
  replace hG_1 := hG_1.kp hk
  replace hE_gvS := hE_gvS.kp hk
  replace hG_2 := hG_2.kp hk
  replace hE_gvR := hE_gvR.kp hk
  replace hG_5 := hG_5.kp hk
  replace hG_7 := hG_7.kp hk
  refine HO.val (v := .tuple #[.string (bs r0_2), .bool r1_2]) (want_none) rfl (q_move rfl) ?_
  refine HO.val (v := .string (bs r0_2)) (want_none) rfl (q_extract rfl rfl) ?_
  refine HO.val (v := .bool r1_2) (want_none) rfl (q_extract rfl rfl) ?_
  refine HO.val (v := .string (bs r0_2)) (want_none) rfl (q_assign rfl) ?_
  refine HO.val (v := .bool r1_2) (want_none) rfl (q_assign rfl) ?_
  refine HO.nil (thenQ_normal (?_))
  refine HW.seq_mid (fun f h => ∃ (F' : Fz) (b_2 : Str) (ok_1 : Bool), f 0 = .string (bs s1) ∧ f 2 = .pointer (some ⟨b_1, 0, none⟩) ∧ f 3 = .int .i64 0 ∧ f 4 = .string (bs b_2) ∧ f 5 = .bool ok_1 ∧ Kp F h0 F' h ∧ St F' (Ow.box b_1 25 (e_api_Addr (false, (default : Ba 16))).toArray :: fr) h ∧ (RoF (Ow.box 0 3 #[.int .i64 gm]) F' h) ∧ (RoF (Ow.box 1 64 #[gvS]) F' h) ∧ (ErrF gbS gvS F' h) ∧ (RoF (Ow.box 2 64 #[gvR]) F' h) ∧ (ErrF gbR gvR F' h) ∧ (RoF (Ow.box 5 130 (tab10 ()).toArray) F' h) ∧ (RoF (Ow.box 7 136 (arrCells tab64).toArray) F' h) ∧ addr_Parse_j1 s1 Q b_2 ok_1) ?_ ?_
  · refine HW.seq ?_
    refine HW.region ?_
    refine HO.val (v := .string (bs s1)) (want_none) rfl (q_move rfl) ?_
    obtain ⟨ho_1, hM⟩ := hM
    refine HO.call (want_none) rfl (ec en_27 rfl rfl) (strContains_hc Tryd.has hG_0 s1 ([58] : Str) ho_1) ?_
    rintro _ h_3 ⟨rfl, hEq⟩
    rw [hEq]
    refine HO.nil (thenQ_normal (?_))
    refine HW.cond (hasS s1 ([58] : Str)) rfl (fun c_1 => ?_) (fun c_1 => ?_)
    · replace hM := hM.1 c_1
      refine HW.region ?_
      refine HO.val (v := .string (bs s1)) (want_none) rfl (q_move rfl) ?_
      refine HO.call (want_none) rfl (ec en_28 rfl rfl) (addr_parse6_walk (fr := (Ow.box b_1 25 (e_api_Addr (false, (default : Ba 16))).toArray :: fr)) s1 gm gvS gbS gvR gbR hS hG_0 hG_1 hE_gvS hG_2 hE_gvR hD hM) ?_
      rintro _ h_4 ⟨F_2, r0_3, r1_3, rfl, hk, hS, _, _, _, _, _, hM⟩
      replace hK := hK.trans hk
      replace hG_0 := hG_0.kp hk
      replace hG_1 := hG_1.kp hk
      replace hE_gvS := hE_gvS.kp hk
      replace hG_2 := hG_2.kp hk
      replace hE_gvR := hE_gvR.kp hk
      replace hG_5 := hG_5.kp hk
      replace hG_7 := hG_7.kp hk
      refine HO.val (v := .tuple #[.string (bs r0_3), .bool r1_3]) (want_none) rfl (q_move rfl) ?_
      refine HO.val (v := .string (bs r0_3)) (want_none) rfl (q_extract rfl rfl) ?_
      refine HO.val (v := .bool r1_3) (want_none) rfl (q_extract rfl rfl) ?_
      refine HO.val (v := .string (bs r0_3)) (want_none) rfl (q_assign rfl) ?_
      refine HO.val (v := .bool r1_3) (want_none) rfl (q_assign rfl) ?_
      refine HO.nil (thenQ_normal (?_))
      exact ⟨F_2, r0_3, r1_3, rfl, rfl, rfl, rfl, rfl, hK, hS, hG_0, hG_1, hE_gvS, hG_2, hE_gvR, hG_5, hG_7, hM⟩
    · replace hM := hM.2 c_1
      refine HW.skip (thenQ_normal (?_))
      exact ⟨F_1, r0_2, r1_2, rfl, rfl, rfl, rfl, rfl, hK, hS, hG_0, hG_1, hE_gvS, hG_2, hE_gvR, hG_5, hG_7, hM⟩
  · rintro f_1 h_5 ⟨F_3, b_2, ok_1, e0, e2, e3, e4, e5, hK, hS, hG_0, hG_1, hE_gvS, hG_2, hE_gvR, hG_5, hG_7, hM⟩
    unfold addr_Parse_j1 at hM
    refine HW.fr [(0, .string (bs s1)), (2, .pointer (some ⟨b_1, 0, none⟩)), (3, .int .i64 0), (4, .string (bs b_2)), (5, .bool ok_1)] ⟨e0, e2, e3, e4, e5, trivial⟩ ?_
    refine HW.seq ?_
    refine HW.region ?_
    refine HO.val (v := .string (bs b_2)) (want_none) rfl (q_move rfl) ?_
    refine HO.call (want_none) rfl (ec en_8 rfl rfl) (addr_Read_walk (fr := (Ow.box b_1 25 (e_api_Addr (false, (default : Ba 16))).toArray :: fr)) b_2 hS hM) ?_
    rintro _ h_6 ⟨F_4, r0_4, r1_4, rfl, hk, hS, hM⟩
    replace hK := hK.trans hk
    replace hG_0 := hG_0.kp hk
    replace hG_1 := hG_1.kp hk
    replace hE_gvS := hE_gvS.kp hk
    replace hG_2 := hG_2.kp hk
    replace hE_gvR := hE_gvR.kp hk
    replace hG_5 := hG_5.kp hk
    replace hG_7 := hG_7.kp hk
    refine HO.val (v := .tuple #[.agg (e_api_Addr r0_4).toArray, .int .i64 r1_4]) (want_none) rfl (q_move rfl) ?_
    refine HO.val (v := .agg (e_api_Addr r0_4).toArray) (want_none) rfl (q_extract rfl rfl) ?_
    refine HO.val (v := .int .i64 r1_4) (want_none) rfl (q_extract rfl rfl) ?_
    refine HO.eff (want_none) rfl (st_alloc (c := (e_api_Addr (false, (default : Ba 16))).toArray) hS tz_25 rfl) ?_
    rintro _ h_7 ⟨b_3, rfl, hS, hk⟩
    replace hK := hK.trans hk
    replace hG_0 := hG_0.kp hk
    replace hG_1 := hG_1.kp hk
    replace hE_gvS := hE_gvS.kp hk
    replace hG_2 := hG_2.kp hk
    replace hE_gvR := hE_gvR.kp hk
    replace hG_5 := hG_5.kp hk
    replace hG_7 := hG_7.kp hk
    refine HO.sto (want_none) rfl (st_storeAgg (c' := (e_api_Addr r0_4).toArray) hS (i := 0) rfl ta_25 rfl rfl rfl (one_e_api_Addr _) (Nat.le_of_ble_eq_true rfl) rfl) ?_
    rintro h_8 ⟨hS, hk⟩
    replace hS : St F_4 (Ow.box b_3 25 (e_api_Addr r0_4).toArray :: Ow.box b_1 25 (e_api_Addr (false, (default : Ba 16))).toArray :: fr) h_8 := hS
    replace hK := hK.trans hk
    replace hG_0 := hG_0.kp hk
    replace hG_1 := hG_1.kp hk
    replace hE_gvS := hE_gvS.kp hk
    replace hG_2 := hG_2.kp hk
    replace hE_gvR := hE_gvR.kp hk
    replace hG_5 := hG_5.kp hk
    replace hG_7 := hG_7.kp hk
    refine HO.val (v := .int .i64 r1_4) (want_none) rfl (q_assign rfl) ?_
    refine HO.nil (thenQ_normal (?_))
    refine HW.seq ?_
    refine HW.seq_mid (fun f h => ∃ (F' : Fz) (b_4 : Bool), f 2 = .pointer (some ⟨b_1, 0, none⟩) ∧ f 3 = .int .i64 0 ∧ f 6 = .pointer (some ⟨b_3, 0, none⟩) ∧ f 36 = .bool b_4 ∧ Kp F h0 F' h ∧ St F' (Ow.box b_1 25 (e_api_Addr (false, (default : Ba 16))).toArray :: Ow.box b_3 25 (e_api_Addr r0_4).toArray :: fr) h ∧ (RoF (Ow.box 0 3 #[.int .i64 gm]) F' h) ∧ (RoF (Ow.box 1 64 #[gvS]) F' h) ∧ (ErrF gbS gvS F' h) ∧ (RoF (Ow.box 2 64 #[gvR]) F' h) ∧ (ErrF gbR gvR F' h) ∧ (RoF (Ow.box 5 130 (tab10 ()).toArray) F' h) ∧ (RoF (Ow.box 7 136 (arrCells tab64).toArray) F' h) ∧ addr_Parse_j2 Q r0_4 b_4) ?_ ?_
    · refine HW.region ?_
      refine HO.val (v := .bool ok_1) (want_none) rfl (q_move rfl) ?_
      refine HO.val (v := .bool (!ok_1)) (want_none) rfl (q_not rfl) ?_
      refine HO.val (v := .bool (!ok_1)) (want_none) rfl (q_move rfl) ?_
      rcases Bool.eq_false_or_eq_true (!ok_1) with c_2 | c_2
      · replace hM := hM.1 c_2
        refine HO.past (past_by rfl rfl c_2) rfl ?_
        refine HO.past (past_by rfl rfl c_2) rfl ?_
        refine HO.val (v := .bool true) (want_none) rfl (q_pickK true rfl c_2 rfl) ?_
        refine HO.val (v := .bool true) (want_none) rfl (q_move rfl) ?_
        refine HO.past (past_some rfl rfl) rfl ?_
        refine HO.past (past_some rfl rfl) rfl ?_
        refine HO.past (past_some rfl rfl) rfl ?_
        refine HO.past (past_some rfl rfl) rfl ?_
        refine HO.val (v := .bool true) (want_none) rfl (q_pick rfl rfl) ?_
        refine HO.nil (thenQ_normal (?_))
        replace hS : St F_4 (Ow.box b_1 25 (e_api_Addr (false, (default : Ba 16))).toArray :: Ow.box b_3 25 (e_api_Addr r0_4).toArray :: fr) h_8 := hS.perm2 [1, 0] 2 rfl rfl
        exact ⟨F_4, true, rfl, rfl, rfl, rfl, hK, hS, hG_0, hG_1, hE_gvS, hG_2, hE_gvR, hG_5, hG_7, hM⟩
      · replace hM := hM.2 c_2
        refine HO.val (v := .int .i64 r1_4) (want_by rfl rfl c_2) rfl (q_move rfl) ?_
        refine HO.val (v := .bool (!decide (r1_4 = 0))) (want_by rfl rfl c_2) rfl (q_neq rfl rfl) ?_
        refine HO.val (v := .bool (!decide (r1_4 = 0))) (want_none) rfl (q_pickK false rfl c_2 rfl) ?_
        refine HO.val (v := .bool (!decide (r1_4 = 0))) (want_none) rfl (q_move rfl) ?_
        rcases Bool.eq_false_or_eq_true (!decide (r1_4 = 0)) with c_3 | c_3
        · replace hM := hM.1 (nd_true c_3)
          refine HO.past (past_by rfl rfl c_3) rfl ?_
          refine HO.past (past_by rfl rfl c_3) rfl ?_
          refine HO.past (past_by rfl rfl c_3) rfl ?_
          refine HO.past (past_by rfl rfl c_3) rfl ?_
          refine HO.val (v := .bool true) (want_none) rfl (q_pickK true rfl c_3 rfl) ?_
          refine HO.nil (thenQ_normal (?_))
          replace hS : St F_4 (Ow.box b_1 25 (e_api_Addr (false, (default : Ba 16))).toArray :: Ow.box b_3 25 (e_api_Addr r0_4).toArray :: fr) h_8 := hS.perm2 [1, 0] 2 rfl rfl
          exact ⟨F_4, true, rfl, rfl, rfl, rfl, hK, hS, hG_0, hG_1, hE_gvS, hG_2, hE_gvR, hG_5, hG_7, hM⟩
        · replace hM := hM.2 (nd_false c_3)
          refine HO.val (v := .agg (e_api_Addr r0_4).toArray) (want_by rfl rfl c_3) rfl (q_loadAgg (cs := (e_api_Addr r0_4)) ta_25 rfl rfl (Blk.cells (k := 17) (hS.box 0 rfl) rfl)) ?_
          refine HO.call (want_by rfl rfl c_3) rfl (ec en_29 rfl rfl) (addr_text_walk (fr := (Ow.box b_3 25 (e_api_Addr r0_4).toArray :: Ow.box b_1 25 (e_api_Addr (false, (default : Ba 16))).toArray :: fr)) r0_4 hS hG_5 hG_7 hD hM) ?_
          rintro _ h_9 ⟨F_5, r_1, rfl, hk, hS, _, _, hM⟩
          replace hK := hK.trans hk
          replace hG_0 := hG_0.kp hk
          replace hG_1 := hG_1.kp hk
          replace hE_gvS := hE_gvS.kp hk
          replace hG_2 := hG_2.kp hk
          replace hE_gvR := hE_gvR.kp hk
          replace hG_5 := hG_5.kp hk
          replace hG_7 := hG_7.kp hk
          refine HO.val (v := .string (bs s1)) (want_by rfl rfl c_3) rfl (q_move rfl) ?_
          refine HO.val (v := .bool (!decide ((r_1 : Str) = s1))) (want_by rfl rfl c_3) rfl (q_neqT rfl rfl) ?_
          refine HO.val (v := .bool (!decide ((r_1 : Str) = s1))) (want_none) rfl (q_pickK false rfl c_3 rfl) ?_
          refine HO.nil (thenQ_normal (?_))
          replace hS : St F_5 (Ow.box b_1 25 (e_api_Addr (false, (default : Ba 16))).toArray :: Ow.box b_3 25 (e_api_Addr r0_4).toArray :: fr) h_9 := hS.perm2 [1, 0] 2 rfl rfl
          exact ⟨F_5, !decide ((r_1 : Str) = s1), rfl, rfl, rfl, rfl, hK, hS, hG_0, hG_1, hE_gvS, hG_2, hE_gvR, hG_5, hG_7, hM⟩
    · rintro f_2 h_10 ⟨F_6, b_4, e2, e3, e6, e36, hK, hS, hG_0, hG_1, hE_gvS, hG_2, hE_gvR, hG_5, hG_7, hM⟩
      unfold addr_Parse_j2 at hM
      refine HW.fr [(2, .pointer (some ⟨b_1, 0, none⟩)), (3, .int .i64 0), (6, .pointer (some ⟨b_3, 0, none⟩)), (36, .bool b_4)] ⟨e2, e3, e6, e36, trivial⟩ ?_
      refine HW.cond b_4 rfl (fun c_4 => ?_) (fun c_4 => ?_)
      · replace hM := hM.1 c_4
        refine HW.seq ?_
        refine HW.region ?_
        refine HO.val (v := .agg (e_api_Addr (false, (default : Ba 16))).toArray) (want_none) rfl (q_build tp_25 rfl) ?_
        refine HO.sto (want_none) rfl (st_storeAgg (c' := (e_api_Addr (false, (default : Ba 16))).toArray) hS (i := 0) rfl ta_25 rfl rfl rfl (one_e_api_Addr _) (Nat.le_of_ble_eq_true rfl) rfl) ?_
        rintro h_11 ⟨hS, hk⟩
        replace hS : St F_6 (Ow.box b_1 25 (e_api_Addr (false, (default : Ba 16))).toArray :: Ow.box b_3 25 (e_api_Addr r0_4).toArray :: fr) h_11 := hS
        replace hK := hK.trans hk
        replace hG_0 := hG_0.kp hk
        replace hG_1 := hG_1.kp hk
        replace hE_gvS := hE_gvS.kp hk
        replace hG_2 := hG_2.kp hk
        replace hE_gvR := hE_gvR.kp hk
        replace hG_5 := hG_5.kp hk
        replace hG_7 := hG_7.kp hk
        refine HO.val (v := .int .i64 2) (want_none) rfl (q_assign rfl) ?_
        refine HO.nil (thenQ_normal (?_))
        refine HW.ret (thenQ_ret (?_))
        refine ⟨.inr rfl, .tuple #[.agg (e_api_Addr (false, (default : Ba 16))).toArray, .int .i64 2], res2 rfl (rca (cs := (e_api_Addr (false, (default : Ba 16)))) ta_25 rfl rfl (Blk.cells (k := 17) (hS.box 0 rfl) rfl)) (rt rfl), ?_⟩
        replace hS : St F_6 (fr) h_11 := hS.perm2 [] 2 rfl rfl
        exact ⟨F_6, (false, (default : Ba 16)), 2, rfl, hK, hS, hG_0, hG_1, hE_gvS, hG_2, hE_gvR, hG_5, hG_7, hM⟩
      · replace hM := hM.2 c_4
        refine HW.skip (thenQ_normal (?_))
        refine HW.seq ?_
        refine HW.region ?_
        refine HO.val (v := .agg (e_api_Addr r0_4).toArray) (want_none) rfl (q_loadAgg (cs := (e_api_Addr r0_4)) ta_25 rfl rfl (Blk.cells (k := 17) (hS.box 1 rfl) rfl)) ?_
        refine HO.sto (want_none) rfl (st_storeAgg (c' := (e_api_Addr r0_4).toArray) hS (i := 0) rfl ta_25 rfl rfl rfl (one_e_api_Addr _) (Nat.le_of_ble_eq_true rfl) rfl) ?_
        rintro h_12 ⟨hS, hk⟩
        replace hS : St F_6 (Ow.box b_1 25 (e_api_Addr r0_4).toArray :: Ow.box b_3 25 (e_api_Addr r0_4).toArray :: fr) h_12 := hS
        replace hK := hK.trans hk
        replace hG_0 := hG_0.kp hk
        replace hG_1 := hG_1.kp hk
        replace hE_gvS := hE_gvS.kp hk
        replace hG_2 := hG_2.kp hk
        replace hE_gvR := hE_gvR.kp hk
        replace hG_5 := hG_5.kp hk
        replace hG_7 := hG_7.kp hk
        refine HO.val (v := .int .i64 0) (want_none) rfl (q_assign rfl) ?_
        refine HO.nil (thenQ_normal (?_))
        refine HW.ret (?_)
        refine ⟨.inr rfl, .tuple #[.agg (e_api_Addr r0_4).toArray, .int .i64 0], res2 rfl (rca (cs := (e_api_Addr r0_4)) ta_25 rfl rfl (Blk.cells (k := 17) (hS.box 0 rfl) rfl)) (rt rfl), ?_⟩
        replace hS : St F_6 (fr) h_12 := hS.perm2 [] 2 rfl rfl
        exact ⟨F_6, r0_4, 0, rfl, hK, hS, hG_0, hG_1, hE_gvS, hG_2, hE_gvR, hG_5, hG_7, hM⟩

def addr_Ip4_W (a : Int) (b : Int) (c : Int) (d : Int) (Q : T_api_Addr → Prop) : Prop :=
  ((0 : Int) ≤ d ∧ d < 256) ∧ (((0 : Int) ≤ c ∧ c < 256) ∧ (((0 : Int) ≤ b ∧ b < 256) ∧ (((0 : Int) ≤ a ∧ a < 256) ∧ (Q (false, mkB 16 [a, b, c, d, 0, 0, 0, 0, 0, 0, 0, 0, 0, 0, 0, 0])))))
set_option maxHeartbeats 40000000 in
set_option maxRecDepth 100000 in
theorem addr_Ip4_walk {F : Fz} {fr : List Ow} {h0 : Heap} (a : Int) (b : Int) (c : Int) (d : Int) (hS : St F (fr) h0)  {Q : T_api_Addr → Prop} (hM : addr_Ip4_W a b c d Q) :
    HC Tryd.prog 24 #[.int .u8 a, .int .u8 b, .int .u8 c, .int .u8 d] h0 fun u h' => ∃ (F' : Fz) (r_1 : T_api_Addr), u = .agg (e_api_Addr r_1).toArray ∧ Kp F h0 F' h' ∧ St F' (fr) h' ∧ Q r_1 := by
  unfold addr_Ip4_W at hM
  have hK := Kp.refl F h0
  refine HC.of_HW (n := 15) Tryd.func24 rfl rfl (Nat.le_of_ble_eq_true rfl) ?_
  refine HW.seq ?_
  refine HW.region ?_
  refine HO.eff (want_none) rfl (st_alloc (c := (e_api_Addr (false, (default : Ba 16))).toArray) hS tz_25 rfl) ?_
  rintro _ h_1 ⟨b_1, rfl, hS, hk⟩
  replace hK := hK.trans hk
  refine HO.nil (thenQ_normal (?_))
  refine HW.seq ?_
  refine HW.region ?_
  refine HO.val (v := .int .u8 a) (want_none) rfl (q_move rfl) ?_
  refine HO.val (v := .int .u8 b) (want_none) rfl (q_move rfl) ?_
  refine HO.val (v := .int .u8 c) (want_none) rfl (q_move rfl) ?_
  refine HO.val (v := .int .u8 d) (want_none) rfl (q_move rfl) ?_
  obtain ⟨ho_1, hM⟩ := hM
  obtain ⟨ho_2, hM⟩ := hM
  obtain ⟨ho_3, hM⟩ := hM
  obtain ⟨ho_4, hM⟩ := hM
  refine HO.val (v := .agg (arrCells (mkB 16 [a, b, c, d, 0, 0, 0, 0, 0, 0, 0, 0, 0, 0, 0, 0])).toArray) (want_none) rfl ((q_buildA (cells := #[.int .u8 a, .int .u8 b, .int .u8 c, .int .u8 d, .int .u8 0, .int .u8 0, .int .u8 0, .int .u8 0, .int .u8 0, .int .u8 0, .int .u8 0, .int .u8 0, .int .u8 0, .int .u8 0, .int .u8 0, .int .u8 0]) tb_23 rfl).of_eq (mkB_agg (n := 16) (l := [a, b, c, d, 0, 0, 0, 0, 0, 0, 0, 0, 0, 0, 0, 0]) rfl ⟨ho_4, ⟨ho_3, ⟨ho_2, ⟨ho_1, ⟨⟨by decide, by decide⟩, ⟨⟨by decide, by decide⟩, ⟨⟨by decide, by decide⟩, ⟨⟨by decide, by decide⟩, ⟨⟨by decide, by decide⟩, ⟨⟨by decide, by decide⟩, ⟨⟨by decide, by decide⟩, ⟨⟨by decide, by decide⟩, ⟨⟨by decide, by decide⟩, ⟨⟨by decide, by decide⟩, ⟨⟨by decide, by decide⟩, ⟨⟨by decide, by decide⟩, trivial⟩⟩⟩⟩⟩⟩⟩⟩⟩⟩⟩⟩⟩⟩⟩⟩)) ?_
  refine HO.val (v := .agg (e_api_Addr (false, mkB 16 [a, b, c, d, 0, 0, 0, 0, 0, 0, 0, 0, 0, 0, 0, 0])).toArray) (want_none) rfl (q_build tp_25 (fill_cons (cs' := (e_api_Addr (false, mkB 16 [a, b, c, d, 0, 0, 0, 0, 0, 0, 0, 0, 0, 0, 0, 0])).toArray) (vc := (arrCells (mkB 16 [a, b, c, d, 0, 0, 0, 0, 0, 0, 0, 0, 0, 0, 0, 0])).toArray) rfl rfl rfl (Nat.le_of_ble_eq_true rfl) rfl rfl)) ?_
  refine HO.sto (want_none) rfl (st_storeAgg (c' := (e_api_Addr (false, mkB 16 [a, b, c, d, 0, 0, 0, 0, 0, 0, 0, 0, 0, 0, 0, 0])).toArray) hS (i := 0) rfl ta_25 rfl rfl rfl (one_e_api_Addr _) (Nat.le_of_ble_eq_true rfl) rfl) ?_
  rintro h_2 ⟨hS, hk⟩
  replace hS : St F (Ow.box b_1 25 (e_api_Addr (false, mkB 16 [a, b, c, d, 0, 0, 0, 0, 0, 0, 0, 0, 0, 0, 0, 0])).toArray :: fr) h_2 := hS
  replace hK := hK.trans hk
  refine HO.nil (thenQ_normal (?_))
  refine HW.ret (?_)
  refine ⟨.inr rfl, .agg (e_api_Addr (false, mkB 16 [a, b, c, d, 0, 0, 0, 0, 0, 0, 0, 0, 0, 0, 0, 0])).toArray, res1 rfl (rca (cs := (e_api_Addr (false, mkB 16 [a, b, c, d, 0, 0, 0, 0, 0, 0, 0, 0, 0, 0, 0, 0]))) ta_25 rfl rfl (Blk.cells (k := 17) (hS.box 0 rfl) rfl)), ?_⟩
  replace hS : St F (fr) h_2 := hS.perm2 [] 1 rfl rfl
  exact ⟨F, (false, mkB 16 [a, b, c, d, 0, 0, 0, 0, 0, 0, 0, 0, 0, 0, 0, 0]), rfl, hK, hS, hM⟩

def addr_group_W (a : T_api_Addr) (Q : Bool → Prop) : Prop :=
  (a.1 = true → Q (decide ((b8 a.2 0) = 255))) ∧ (a.1 = false → ((0 : Int) ≤ ((b8 a.2 0).fdiv (2 ^ (min (4 : Int).toNat IntKind.u8.bits))) ∧ ((b8 a.2 0).fdiv (2 ^ (min (4 : Int).toNat IntKind.u8.bits))) < 256) ∧ (Q (decide (((u8w ((b8 a.2 0).fdiv (2 ^ (min (4 : Int).toNat IntKind.u8.bits)))).toNat : Int) = 14))))
set_option maxHeartbeats 40000000 in
set_option maxRecDepth 100000 in
theorem addr_group_walk {F : Fz} {fr : List Ow} {h0 : Heap} (a : T_api_Addr) (hS : St F (fr) h0)  {Q : Bool → Prop} (hM : addr_group_W a Q) :
    HC Tryd.prog 36 #[.agg (e_api_Addr a).toArray] h0 fun u h' => ∃ (F' : Fz) (r_1 : Bool), u = .bool r_1 ∧ Kp F h0 F' h' ∧ St F' (fr) h' ∧ Q r_1 := by
  unfold addr_group_W at hM
  have hK := Kp.refl F h0
  refine HC.of_HW (n := 14) Tryd.func36 rfl rfl (Nat.le_of_ble_eq_true rfl) ?_
  refine HW.seq ?_
  refine HW.region ?_
  refine HO.eff (want_none) rfl (st_box (c := (e_api_Addr a).toArray) (k' := 17) hS rfl rfl) ?_
  rintro _ h_1 ⟨b_1, rfl, hS, hk⟩
  replace hK := hK.trans hk
  refine HO.val (v := .bool false) (want_none) rfl (q_assign rfl) ?_
  refine HO.nil (thenQ_normal (?_))
  refine HW.seq ?_
  refine HW.seq ?_
  refine HW.region ?_
  refine HO.val (v := .pointer (some ⟨b_1, 0, none⟩)) (want_none) rfl (q_fieldAddr fa_25_0 rfl rfl) ?_
  refine HO.val (v := .bool a.1) (want_none) rfl (q_load to_4 rfl (Blk.cell (hS.box 0 rfl) rfl)) ?_
  refine HO.nil (thenQ_normal (?_))
  refine HW.cond a.1 rfl (fun c_1 => ?_) (fun c_1 => ?_)
  · replace hM := hM.1 c_1
    refine HW.seq ?_
    refine HW.region ?_
    refine HO.val (v := .pointer (some ⟨b_1, 1, none⟩)) (want_none) rfl (q_fieldAddr fa_25_1 rfl rfl) ?_
    refine HO.val (v := .pointer (some ⟨b_1, 1, none⟩)) (want_none) rfl (q_idxA (o := 1) (t := 0) tr_23 rfl rfl ⟨by decide, by decide⟩) ?_
    refine HO.val (v := .int .u8 (b8 a.2 0)) (want_none) rfl (q_load to_5 rfl (Blk.cell (hS.box 0 rfl) rfl)) ?_
    refine HO.val (v := .bool (decide ((b8 a.2 0) = 255))) (want_none) rfl (q_eql rfl rfl) ?_
    refine HO.val (v := .bool (decide ((b8 a.2 0) = 255))) (want_none) rfl (q_assign rfl) ?_
    refine HO.nil (thenQ_normal (?_))
    refine HW.ret (thenQ_ret (?_))
    refine ⟨.inr rfl, .bool (decide ((b8 a.2 0) = 255)), res1 rfl (rt rfl), ?_⟩
    replace hS : St F (fr) h_1 := hS.perm2 [] 1 rfl rfl
    exact ⟨F, decide ((b8 a.2 0) = 255), rfl, hK, hS, hM⟩
  · replace hM := hM.2 c_1
    refine HW.skip (thenQ_normal (?_))
    refine HW.seq ?_
    refine HW.region ?_
    refine HO.val (v := .pointer (some ⟨b_1, 1, none⟩)) (want_none) rfl (q_fieldAddr fa_25_1 rfl rfl) ?_
    refine HO.val (v := .pointer (some ⟨b_1, 1, none⟩)) (want_none) rfl (q_idxA (o := 1) (t := 0) tr_23 rfl rfl ⟨by decide, by decide⟩) ?_
    refine HO.val (v := .int .u8 (b8 a.2 0)) (want_none) rfl (q_load to_5 rfl (Blk.cell (hS.box 0 rfl) rfl)) ?_
    obtain ⟨ho_1, hM⟩ := hM
    refine HO.val (v := .int .u8 ((u8w ((b8 a.2 0).fdiv (2 ^ (min (4 : Int).toNat IntKind.u8.bits)))).toNat : Int)) (want_none) rfl ((q_shr rfl rfl (by decide) rfl).of_eq (u8r_v ho_1)) ?_
    refine HO.val (v := .bool (decide (((u8w ((b8 a.2 0).fdiv (2 ^ (min (4 : Int).toNat IntKind.u8.bits)))).toNat : Int) = 14))) (want_none) rfl (q_eql rfl rfl) ?_
    refine HO.val (v := .bool (decide (((u8w ((b8 a.2 0).fdiv (2 ^ (min (4 : Int).toNat IntKind.u8.bits)))).toNat : Int) = 14))) (want_none) rfl (q_assign rfl) ?_
    refine HO.nil (thenQ_normal (?_))
    refine HW.ret (?_)
    refine ⟨.inr rfl, .bool (decide (((u8w ((b8 a.2 0).fdiv (2 ^ (min (4 : Int).toNat IntKind.u8.bits)))).toNat : Int) = 14)), res1 rfl (rt rfl), ?_⟩
    replace hS : St F (fr) h_1 := hS.perm2 [] 1 rfl rfl
    exact ⟨F, decide (((u8w ((b8 a.2 0).fdiv (2 ^ (min (4 : Int).toNat IntKind.u8.bits)))).toNat : Int) = 14), rfl, hK, hS, hM⟩

def addr_Mac_W (a : T_api_Addr) (Q : (Ba 6) → Bool → Prop) : Prop :=
  addr_group_W a (fun r_1 => ((!r_1) = true → Q (mkB 6 [0, 0, 0, 0, 0, 0]) false) ∧ ((!r_1) = false → (a.1 = true → Q (mkB 6 [51, 51, b8 a.2 12, b8 a.2 13, b8 a.2 14, b8 a.2 15]) true) ∧ (a.1 = false → ((0 : Int) ≤ (bits .and .u8 (b8 a.2 1) 127) ∧ (bits .and .u8 (b8 a.2 1) 127) < 256) ∧ (Q (mkB 6 [1, 0, 94, ((u8w (bits .and .u8 (b8 a.2 1) 127)).toNat : Int), b8 a.2 2, b8 a.2 3]) true))))
set_option maxHeartbeats 40000000 in
set_option maxRecDepth 100000 in
theorem addr_Mac_walk {F : Fz} {fr : List Ow} {h0 : Heap} (a : T_api_Addr) (hS : St F (fr) h0)  {Q : (Ba 6) → Bool → Prop} (hM : addr_Mac_W a Q) :
    HC Tryd.prog 23 #[.agg (e_api_Addr a).toArray] h0 fun u h' => ∃ (F' : Fz) (r0_1 : Ba 6) (r1_1 : Bool), u = .tuple #[.agg (arrCells r0_1).toArray, .bool r1_1] ∧ Kp F h0 F' h' ∧ St F' (fr) h' ∧ Q r0_1 r1_1 := by
  unfold addr_Mac_W at hM
  have hK := Kp.refl F h0
  refine HC.of_HW (n := 36) Tryd.func23 rfl rfl (Nat.le_of_ble_eq_true rfl) ?_
  refine HW.seq ?_
  refine HW.region ?_
  refine HO.eff (want_none) rfl (st_box (c := (e_api_Addr a).toArray) (k' := 17) hS rfl rfl) ?_
  rintro _ h_1 ⟨b_1, rfl, hS, hk⟩
  replace hK := hK.trans hk
  refine HO.eff (want_none) rfl (st_alloc (c := (arrCells (default : Ba 6)).toArray) hS tz_38 rfl) ?_
  rintro _ h_2 ⟨b_2, rfl, hS, hk⟩
  replace hK := hK.trans hk
  refine HO.val (v := .bool false) (want_none) rfl (q_assign rfl) ?_
  refine HO.nil (thenQ_normal (?_))
  refine HW.seq ?_
  refine HW.block ?_
  refine HW.seq ?_
  refine HW.region ?_
  refine HO.val (v := .agg (e_api_Addr a).toArray) (want_none) rfl (q_loadAgg (cs := (e_api_Addr a)) ta_25 rfl rfl (Blk.cells (k := 17) (hS.box 1 rfl) rfl)) ?_
  refine HO.call (want_none) rfl (ec en_36 rfl rfl) (addr_group_walk (fr := (Ow.box b_2 38 (arrCells (default : Ba 6)).toArray :: Ow.box b_1 25 (e_api_Addr a).toArray :: fr)) a hS hM) ?_
  rintro _ h_3 ⟨F_1, r_1, rfl, hk, hS, hM⟩
  replace hK := hK.trans hk
  refine HO.val (v := .bool (!r_1)) (want_none) rfl (q_not rfl) ?_
  refine HO.val (v := .bool (!r_1)) (want_none) rfl (q_assign rfl) ?_
  refine HO.nil (thenQ_normal (?_))
  refine HW.cond (!r_1) rfl (fun c_1 => ?_) (fun c_1 => ?_)
  · replace hM := hM.1 c_1
    refine HW.seq ?_
    refine HW.region ?_
    refine HO.val (v := .agg (arrCells (mkB 6 [0, 0, 0, 0, 0, 0])).toArray) (want_none) rfl ((q_buildA (cells := #[.int .u8 0, .int .u8 0, .int .u8 0, .int .u8 0, .int .u8 0, .int .u8 0]) tb_38 rfl).of_eq (mkB_agg (n := 6) (l := [0, 0, 0, 0, 0, 0]) rfl ⟨⟨by decide, by decide⟩, ⟨⟨by decide, by decide⟩, ⟨⟨by decide, by decide⟩, ⟨⟨by decide, by decide⟩, ⟨⟨by decide, by decide⟩, ⟨⟨by decide, by decide⟩, trivial⟩⟩⟩⟩⟩⟩)) ?_
    refine HO.sto (want_none) rfl (st_storeAgg (c' := (arrCells (mkB 6 [0, 0, 0, 0, 0, 0])).toArray) hS (i := 0) rfl ta_38 rfl rfl rfl (one_arr _) (Nat.le_of_ble_eq_true rfl) rfl) ?_
    rintro h_4 ⟨hS, hk⟩
    replace hS : St F_1 (Ow.box b_2 38 (arrCells (mkB 6 [0, 0, 0, 0, 0, 0])).toArray :: Ow.box b_1 25 (e_api_Addr a).toArray :: fr) h_4 := hS
    replace hK := hK.trans hk
    refine HO.val (v := .bool false) (want_none) rfl (q_assign rfl) ?_
    refine HO.nil (thenQ_normal (?_))
    refine HW.ret (blockQ_ret (thenQ_ret (?_)))
    refine ⟨.inr rfl, .tuple #[.agg (arrCells (mkB 6 [0, 0, 0, 0, 0, 0])).toArray, .bool false], res2 rfl (rca (cs := (arrCells (mkB 6 [0, 0, 0, 0, 0, 0]))) ta_38 rfl rfl (Blk.cells (k := 6) (hS.box 0 rfl) rfl)) (rt rfl), ?_⟩
    replace hS : St F_1 (fr) h_4 := hS.perm2 [] 2 rfl rfl
    exact ⟨F_1, mkB 6 [0, 0, 0, 0, 0, 0], false, rfl, hK, hS, hM⟩
  · replace hM := hM.2 c_1
    refine HW.seq ?_
    refine HW.region ?_
    refine HO.val (v := .pointer (some ⟨b_1, 0, none⟩)) (want_none) rfl (q_fieldAddr fa_25_0 rfl rfl) ?_
    refine HO.val (v := .bool a.1) (want_none) rfl (q_load to_4 rfl (Blk.cell (hS.box 1 rfl) rfl)) ?_
    refine HO.val (v := .bool a.1) (want_none) rfl (q_assign rfl) ?_
    refine HO.nil (thenQ_normal (?_))
    refine HW.cond a.1 rfl (fun c_2 => ?_) (fun c_2 => ?_)
    · replace hM := hM.1 c_2
      refine HW.seq ?_
      refine HW.region ?_
      refine HO.val (v := .pointer (some ⟨b_1, 1, none⟩)) (want_none) rfl (q_fieldAddr fa_25_1 rfl rfl) ?_
      refine HO.val (v := .pointer (some ⟨b_1, 13, none⟩)) (want_none) rfl (q_idxA (o := 1) (t := 12) tr_23 rfl rfl ⟨by decide, by decide⟩) ?_
      refine HO.val (v := .int .u8 (b8 a.2 12)) (want_none) rfl (q_load to_5 rfl (Blk.cell (hS.box 1 rfl) rfl)) ?_
      refine HO.val (v := .pointer (some ⟨b_1, 1, none⟩)) (want_none) rfl (q_fieldAddr fa_25_1 rfl rfl) ?_
      refine HO.val (v := .pointer (some ⟨b_1, 14, none⟩)) (want_none) rfl (q_idxA (o := 1) (t := 13) tr_23 rfl rfl ⟨by decide, by decide⟩) ?_
      refine HO.val (v := .int .u8 (b8 a.2 13)) (want_none) rfl (q_load to_5 rfl (Blk.cell (hS.box 1 rfl) rfl)) ?_
      refine HO.val (v := .pointer (some ⟨b_1, 1, none⟩)) (want_none) rfl (q_fieldAddr fa_25_1 rfl rfl) ?_
      refine HO.val (v := .pointer (some ⟨b_1, 15, none⟩)) (want_none) rfl (q_idxA (o := 1) (t := 14) tr_23 rfl rfl ⟨by decide, by decide⟩) ?_
      refine HO.val (v := .int .u8 (b8 a.2 14)) (want_none) rfl (q_load to_5 rfl (Blk.cell (hS.box 1 rfl) rfl)) ?_
      refine HO.val (v := .pointer (some ⟨b_1, 1, none⟩)) (want_none) rfl (q_fieldAddr fa_25_1 rfl rfl) ?_
      refine HO.val (v := .pointer (some ⟨b_1, 16, none⟩)) (want_none) rfl (q_idxA (o := 1) (t := 15) tr_23 rfl rfl ⟨by decide, by decide⟩) ?_
      refine HO.val (v := .int .u8 (b8 a.2 15)) (want_none) rfl (q_load to_5 rfl (Blk.cell (hS.box 1 rfl) rfl)) ?_
      refine HO.val (v := .agg (arrCells (mkB 6 [51, 51, b8 a.2 12, b8 a.2 13, b8 a.2 14, b8 a.2 15])).toArray) (want_none) rfl ((q_buildA (cells := #[.int .u8 51, .int .u8 51, .int .u8 (b8 a.2 12), .int .u8 (b8 a.2 13), .int .u8 (b8 a.2 14), .int .u8 (b8 a.2 15)]) tb_38 rfl).of_eq (mkB_agg (n := 6) (l := [51, 51, b8 a.2 12, b8 a.2 13, b8 a.2 14, b8 a.2 15]) rfl ⟨⟨by decide, by decide⟩, ⟨⟨by decide, by decide⟩, ⟨(b8_rng _ _), ⟨(b8_rng _ _), ⟨(b8_rng _ _), ⟨(b8_rng _ _), trivial⟩⟩⟩⟩⟩⟩)) ?_
      refine HO.sto (want_none) rfl (st_storeAgg (c' := (arrCells (mkB 6 [51, 51, b8 a.2 12, b8 a.2 13, b8 a.2 14, b8 a.2 15])).toArray) hS (i := 0) rfl ta_38 rfl rfl rfl (one_arr _) (Nat.le_of_ble_eq_true rfl) rfl) ?_
      rintro h_5 ⟨hS, hk⟩
      replace hS : St F_1 (Ow.box b_2 38 (arrCells (mkB 6 [51, 51, b8 a.2 12, b8 a.2 13, b8 a.2 14, b8 a.2 15])).toArray :: Ow.box b_1 25 (e_api_Addr a).toArray :: fr) h_5 := hS
      replace hK := hK.trans hk
      refine HO.val (v := .bool true) (want_none) rfl (q_assign rfl) ?_
      refine HO.nil (thenQ_normal (?_))
      refine HW.ret (blockQ_ret (thenQ_ret (?_)))
      refine ⟨.inr rfl, .tuple #[.agg (arrCells (mkB 6 [51, 51, b8 a.2 12, b8 a.2 13, b8 a.2 14, b8 a.2 15])).toArray, .bool true], res2 rfl (rca (cs := (arrCells (mkB 6 [51, 51, b8 a.2 12, b8 a.2 13, b8 a.2 14, b8 a.2 15]))) ta_38 rfl rfl (Blk.cells (k := 6) (hS.box 0 rfl) rfl)) (rt rfl), ?_⟩
      replace hS : St F_1 (fr) h_5 := hS.perm2 [] 2 rfl rfl
      exact ⟨F_1, mkB 6 [51, 51, b8 a.2 12, b8 a.2 13, b8 a.2 14, b8 a.2 15], true, rfl, hK, hS, hM⟩
    · replace hM := hM.2 c_2
      refine HW.skip (blockQ_normal (thenQ_normal (?_)))
      refine HW.seq ?_
      refine HW.region ?_
      refine HO.val (v := .pointer (some ⟨b_1, 1, none⟩)) (want_none) rfl (q_fieldAddr fa_25_1 rfl rfl) ?_
      refine HO.val (v := .pointer (some ⟨b_1, 2, none⟩)) (want_none) rfl (q_idxA (o := 1) (t := 1) tr_23 rfl rfl ⟨by decide, by decide⟩) ?_
      refine HO.val (v := .int .u8 (b8 a.2 1)) (want_none) rfl (q_load to_5 rfl (Blk.cell (hS.box 1 rfl) rfl)) ?_
      obtain ⟨ho_1, hM⟩ := hM
      refine HO.val (v := .int .u8 ((u8w (bits .and .u8 (b8 a.2 1) 127)).toNat : Int)) (want_none) rfl ((q_bits (by simp) rfl rfl).of_eq (u8r_v ho_1)) ?_
      refine HO.val (v := .pointer (some ⟨b_1, 1, none⟩)) (want_none) rfl (q_fieldAddr fa_25_1 rfl rfl) ?_
      refine HO.val (v := .pointer (some ⟨b_1, 3, none⟩)) (want_none) rfl (q_idxA (o := 1) (t := 2) tr_23 rfl rfl ⟨by decide, by decide⟩) ?_
      refine HO.val (v := .int .u8 (b8 a.2 2)) (want_none) rfl (q_load to_5 rfl (Blk.cell (hS.box 1 rfl) rfl)) ?_
      refine HO.val (v := .pointer (some ⟨b_1, 1, none⟩)) (want_none) rfl (q_fieldAddr fa_25_1 rfl rfl) ?_
      refine HO.val (v := .pointer (some ⟨b_1, 4, none⟩)) (want_none) rfl (q_idxA (o := 1) (t := 3) tr_23 rfl rfl ⟨by decide, by decide⟩) ?_
      refine HO.val (v := .int .u8 (b8 a.2 3)) (want_none) rfl (q_load to_5 rfl (Blk.cell (hS.box 1 rfl) rfl)) ?_
      refine HO.val (v := .agg (arrCells (mkB 6 [1, 0, 94, ((u8w (bits .and .u8 (b8 a.2 1) 127)).toNat : Int), b8 a.2 2, b8 a.2 3])).toArray) (want_none) rfl ((q_buildA (cells := #[.int .u8 1, .int .u8 0, .int .u8 94, .int .u8 ((u8w (bits .and .u8 (b8 a.2 1) 127)).toNat : Int), .int .u8 (b8 a.2 2), .int .u8 (b8 a.2 3)]) tb_38 rfl).of_eq (mkB_agg (n := 6) (l := [1, 0, 94, ((u8w (bits .and .u8 (b8 a.2 1) 127)).toNat : Int), b8 a.2 2, b8 a.2 3]) rfl ⟨⟨by decide, by decide⟩, ⟨⟨by decide, by decide⟩, ⟨⟨by decide, by decide⟩, ⟨(u8_rng _), ⟨(b8_rng _ _), ⟨(b8_rng _ _), trivial⟩⟩⟩⟩⟩⟩)) ?_
      refine HO.sto (want_none) rfl (st_storeAgg (c' := (arrCells (mkB 6 [1, 0, 94, ((u8w (bits .and .u8 (b8 a.2 1) 127)).toNat : Int), b8 a.2 2, b8 a.2 3])).toArray) hS (i := 0) rfl ta_38 rfl rfl rfl (one_arr _) (Nat.le_of_ble_eq_true rfl) rfl) ?_
      rintro h_6 ⟨hS, hk⟩
      replace hS : St F_1 (Ow.box b_2 38 (arrCells (mkB 6 [1, 0, 94, ((u8w (bits .and .u8 (b8 a.2 1) 127)).toNat : Int), b8 a.2 2, b8 a.2 3])).toArray :: Ow.box b_1 25 (e_api_Addr a).toArray :: fr) h_6 := hS
      replace hK := hK.trans hk
      refine HO.val (v := .bool true) (want_none) rfl (q_assign rfl) ?_
      refine HO.nil (thenQ_normal (?_))
      refine HW.ret (?_)
      refine ⟨.inr rfl, .tuple #[.agg (arrCells (mkB 6 [1, 0, 94, ((u8w (bits .and .u8 (b8 a.2 1) 127)).toNat : Int), b8 a.2 2, b8 a.2 3])).toArray, .bool true], res2 rfl (rca (cs := (arrCells (mkB 6 [1, 0, 94, ((u8w (bits .and .u8 (b8 a.2 1) 127)).toNat : Int), b8 a.2 2, b8 a.2 3]))) ta_38 rfl rfl (Blk.cells (k := 6) (hS.box 0 rfl) rfl)) (rt rfl), ?_⟩
      replace hS : St F_1 (fr) h_6 := hS.perm2 [] 2 rfl rfl
      exact ⟨F_1, (mkB 6 [1, 0, 94, ((u8w (bits .and .u8 (b8 a.2 1) 127)).toNat : Int), b8 a.2 2, b8 a.2 3]), true, rfl, hK, hS, hM⟩

def addr_Print_W (a : T_api_Addr) (Q : Str → Prop) : Prop :=
  addr_text_W a (fun r_2 => Q r_2)
set_option maxHeartbeats 40000000 in
set_option maxRecDepth 100000 in
theorem addr_Print_walk {F : Fz} {fr : List Ow} {h0 : Heap} (a : T_api_Addr) (hS : St F (fr) h0) (hG_5 : RoF (Ow.box 5 130 (tab10 ()).toArray) F h0) (hG_7 : RoF (Ow.box 7 136 (arrCells tab64).toArray) F h0) (hD : DM.on = false) {Q : Str → Prop} (hM : addr_Print_W a Q) :
    HC Tryd.prog 19 #[.agg (e_api_Addr a).toArray] h0 fun u h' => ∃ (F' : Fz) (r_1 : Str), u = .string (bs r_1) ∧ Kp F h0 F' h' ∧ St F' (fr) h' ∧ (RoF (Ow.box 5 130 (tab10 ()).toArray) F' h') ∧ (RoF (Ow.box 7 136 (arrCells tab64).toArray) F' h') ∧ Q r_1 := by
  unfold addr_Print_W at hM
  have hK := Kp.refl F h0
  refine HC.of_HW (n := 5) Tryd.func19 rfl rfl (Nat.le_of_ble_eq_true rfl) ?_
  refine HW.seq ?_
  refine HW.region ?_
  refine HO.eff (want_none) rfl (st_box (c := (e_api_Addr a).toArray) (k' := 17) hS rfl rfl) ?_
  rintro _ h_1 ⟨b_1, rfl, hS, hk⟩
  replace hK := hK.trans hk
  replace hG_5 := hG_5.kp hk
  replace hG_7 := hG_7.kp hk
  refine HO.val (v := .string (bs [])) (want_none) rfl (q_assign rfl) ?_
  refine HO.nil (thenQ_normal (?_))
  refine HW.seq ?_
  refine HW.region ?_
  refine HO.val (v := .agg (e_api_Addr a).toArray) (want_none) rfl (q_loadAgg (cs := (e_api_Addr a)) ta_25 rfl rfl (Blk.cells (k := 17) (hS.box 0 rfl) rfl)) ?_
  refine HO.call (want_none) rfl (ec en_29 rfl rfl) (addr_text_walk (fr := (Ow.box b_1 25 (e_api_Addr a).toArray :: fr)) a hS hG_5 hG_7 hD hM) ?_
  rintro _ h_2 ⟨F_1, r_2, rfl, hk, hS, _, _, hM⟩
  replace hK := hK.trans hk
  replace hG_5 := hG_5.kp hk
  replace hG_7 := hG_7.kp hk
  refine HO.val (v := .string (bs r_2)) (want_none) rfl (q_assign rfl) ?_
  refine HO.nil (thenQ_normal (?_))
  refine HW.ret (?_)
  refine ⟨.inr rfl, .string (bs r_2), res1 rfl (rt rfl), ?_⟩
  replace hS : St F_1 (fr) h_2 := hS.perm2 [] 1 rfl rfl
  exact ⟨F_1, r_2, rfl, hK, hS, hG_5, hG_7, hM⟩

def octet_Hex_l1 (s1 : Str) (Q : Str → Prop) (K_1 : (List UInt8) → Int → Prop) (out_1 : List UInt8) (n_1 : Int) : Prop :=
  (n_1 < (s1.length : Int) → ((0 : Int) ≤ n_1 ∧ n_1 < (s1.length : Int)) ∧ (((0 : Int) ≤ (((gi s1 n_1).toNat : Int).fdiv (2 ^ (min (4 : Int).toNat IntKind.u8.bits))) ∧ (((gi s1 n_1).toNat : Int).fdiv (2 ^ (min (4 : Int).toNat IntKind.u8.bits))) < 256) ∧ (((0 : Int) ≤ ((u8w (((gi s1 n_1).toNat : Int).fdiv (2 ^ (min (4 : Int).toNat IntKind.u8.bits)))).toNat : Int) ∧ ((u8w (((gi s1 n_1).toNat : Int).fdiv (2 ^ (min (4 : Int).toNat IntKind.u8.bits)))).toNat : Int) < ((([48, 49, 50, 51, 52, 53, 54, 55, 56, 57, 97, 98, 99, 100, 101, 102] : Str)).length : Int)) ∧ (((0 : Int) ≤ (bits .and .u8 ((gi s1 n_1).toNat : Int) 15) ∧ (bits .and .u8 ((gi s1 n_1).toNat : Int) 15) < 256) ∧ (((0 : Int) ≤ ((u8w (bits .and .u8 ((gi s1 n_1).toNat : Int) 15)).toNat : Int) ∧ ((u8w (bits .and .u8 ((gi s1 n_1).toNat : Int) 15)).toNat : Int) < ((([48, 49, 50, 51, 52, 53, 54, 55, 56, 57, 97, 98, 99, 100, 101, 102] : Str)).length : Int)) ∧ (((out_1.length + ([(gi ([48, 49, 50, 51, 52, 53, 54, 55, 56, 57, 97, 98, 99, 100, 101, 102] : Str) ((u8w (((gi s1 n_1).toNat : Int).fdiv (2 ^ (min (4 : Int).toNat IntKind.u8.bits)))).toNat : Int)), (gi ([48, 49, 50, 51, 52, 53, 54, 55, 56, 57, 97, 98, 99, 100, 101, 102] : Str) ((u8w (bits .and .u8 ((gi s1 n_1).toNat : Int) 15)).toNat : Int))] : List UInt8).length) * 1 ≤ 140737488355328) ∧ ((I64 (n_1 + 1)) ∧ (K_1 (out_1 ++ ([(gi ([48, 49, 50, 51, 52, 53, 54, 55, 56, 57, 97, 98, 99, 100, 101, 102] : Str) ((u8w (((gi s1 n_1).toNat : Int).fdiv (2 ^ (min (4 : Int).toNat IntKind.u8.bits)))).toNat : Int)), (gi ([48, 49, 50, 51, 52, 53, 54, 55, 56, 57, 97, 98, 99, 100, 101, 102] : Str) ((u8w (bits .and .u8 ((gi s1 n_1).toNat : Int) 15)).toNat : Int))] : List UInt8)) (n_1 + 1))))))))) ∧ (¬ (n_1 < (s1.length : Int)) → Q out_1)
def octet_Hex_W (s1 : Str) (Q : Str → Prop) : Prop :=
  (I64 ((s1.length : Int) * 2)) ∧ (((0 : Int) ≤ ((s1.length : Int) * 2) ∧ 1 * ((s1.length : Int) * 2) ≤ 281474976710656) ∧ (loopW (fun (K_1 : (List UInt8 × Int) → Prop) (s : List UInt8 × Int) => octet_Hex_l1 s1 Q (fun out_1 n_1 => K_1 (out_1, n_1)) s.1 s.2) ([], 0)))
set_option maxHeartbeats 40000000 in
set_option maxRecDepth 100000 in
theorem octet_Hex_walk {F : Fz} {fr : List Ow} {h0 : Heap} (s1 : Str) (hS : St F (fr) h0)  {Q : Str → Prop} (hM : octet_Hex_W s1 Q) :
    HC Tryd.prog 34 #[.string (bs s1)] h0 fun u h' => ∃ (F' : Fz) (r_1 : Str), u = .string (bs r_1) ∧ Kp F h0 F' h' ∧ St F' (fr) h' ∧ Q r_1 := by
  unfold octet_Hex_W at hM
  have hK := Kp.refl F h0
  refine HC.of_HW (n := 30) Tryd.func34 rfl rfl (Nat.le_of_ble_eq_true rfl) ?_
  refine HW.seq ?_
  refine HW.region ?_
  refine HO.val (v := .string (bs [])) (want_none) rfl (q_assign rfl) ?_
  refine HO.nil (thenQ_normal (?_))
  refine HW.seq ?_
  refine HW.region ?_
  refine HO.val (v := .string (bs s1)) (want_none) rfl (q_move rfl) ?_
  refine HO.val (v := .int .i64 (s1.length : Int)) (want_none) rfl (q_lenT Tryd.underlying9 rfl rfl) ?_
  obtain ⟨ho_1, hM⟩ := hM
  refine HO.val (v := .int .i64 ((s1.length : Int) * 2)) (want_none) rfl (q_mulN _ rfl rfl rfl ho_1.1 ho_1.2) ?_
  obtain ⟨ho_2, hM⟩ := hM
  refine HO.eff (want_none) rfl (st_make0 (enc := enc8) ((s1.length : Int) * 2 : Int).toNat hS te_44 tz_5 rfl rfl (by omega) (by omega) (by omega)) ?_
  rintro _ h_1 ⟨b_1, rfl, hS, hk⟩
  replace hK := hK.trans hk
  refine HO.val (v := .slice (some ⟨b_1, 0, none⟩) 0 ((s1.length : Int) * 2 : Int).toNat) (want_none) rfl (q_assign rfl) ?_
  refine HO.nil (thenQ_normal (?_))
  refine HW.seq ?_
  refine HW.seq ?_
  refine HW.region ?_
  refine HO.val (v := .string (bs s1)) (want_none) rfl (q_move rfl) ?_
  refine HO.val (v := .int .i64 (s1.length : Int)) (want_none) rfl (q_lenT Tryd.underlying9 rfl rfl) ?_
  refine HO.val (v := .int .i64 0) (want_none) rfl (q_move rfl) ?_
  refine HO.nil (thenQ_normal (?_))
  refine HW.block ?_
  obtain ⟨I_1, m_1, hI_1, hR_1⟩ := hM
  refine HW.loop (S := List UInt8 × Int) (fun s f h => match s with | (out_1, n_1) => ∃ (F' : Fz) (vout_1 : Value), f 0 = .string (bs s1) ∧ f 2 = .string (bs []) ∧ f 3 = vout_1 ∧ f 10 = .int .i64 (s1.length : Int) ∧ f 11 = .int .i64 n_1 ∧ Kp F h0 F' h ∧ St F' (Ow.own 5 1 enc8 vout_1 out_1 :: fr) h ∧ I_1 (out_1, n_1)) m_1 ([], 0) ⟨F, .slice (some ⟨b_1, 0, none⟩) 0 ((s1.length : Int) * 2 : Int).toNat, rfl, rfl, rfl, rfl, rfl, hK, hS, hI_1⟩ ?_
  rintro ⟨out_1, n_1⟩ f_1 h_2 ⟨F_1, vout_1, e0, e2, e3, e10, e11, hK, hS, hI0⟩
  obtain ⟨K_1, hKe_1⟩ : ∃ K : (List UInt8) → Int → Prop, K = fun out_1' n_1' => I_1 (out_1', n_1') ∧ m_1 (out_1', n_1') < m_1 (out_1, n_1) := ⟨_, rfl⟩
  have hM : octet_Hex_l1 s1 Q K_1 out_1 n_1 := by rw [hKe_1]; exact hR_1 (out_1, n_1) hI0
  unfold octet_Hex_l1 at hM
  refine HW.fr [(0, .string (bs s1)), (2, .string (bs [])), (3, vout_1), (10, .int .i64 (s1.length : Int)), (11, .int .i64 n_1)] ⟨e0, e2, e3, e10, e11, trivial⟩ ?_
  refine HW.seq ?_
  refine HW.region ?_
  refine HO.val (v := .bool (decide (n_1 < (s1.length : Int)))) (want_none) rfl (q_lss rfl rfl) ?_
  refine HO.nil (thenQ_normal (?_))
  refine HW.seq ?_
  refine HW.cond (decide (n_1 < (s1.length : Int))) rfl (fun c_1 => ?_) (fun c_1 => ?_)
  · replace hM := hM.1 (of_decide_eq_true c_1)
    refine HW.skip (thenQ_normal (?_))
    refine HW.seq ?_
    refine HW.block ?_
    refine HW.seq ?_
    refine HW.region ?_
    refine HO.val (v := .int .i64 n_1) (want_none) rfl (q_move rfl) ?_
    refine HO.val (v := .int .i64 n_1) (want_none) rfl (q_assign rfl) ?_
    refine HO.nil (thenQ_normal (?_))
    refine HW.regionA 14 mixed (fun h => True) [] (by kernel_rfl) ?_
    refine HA.val (k := 0) (v := vout_1) rfl rfl (by kernel_rfl) (by kernel_rfl) (want_none) rfl (fun _ _ => q_move rfl) ?_
    refine HA.val (k := 1) (v := .string (bs s1)) rfl rfl (by kernel_rfl) (by kernel_rfl) (want_none) rfl (fun _ _ => q_move rfl) ?_
    refine HA.val (k := 2) (v := .int .i64 n_1) rfl rfl (by kernel_rfl) (by kernel_rfl) (want_none) rfl (fun _ _ => q_move rfl) ?_
    obtain ⟨ho_3, hM⟩ := hM
    refine HA.val (k := 3) (v := .int .u8 ((gi s1 n_1).toNat : Int)) rfl rfl (by kernel_rfl) (by kernel_rfl) (want_none) rfl (fun _ _ => q_idxT Tryd.underlying9 rfl rfl ho_3) ?_
    obtain ⟨ho_4, hM⟩ := hM
    refine HA.val (k := 4) (v := .int .u8 ((u8w (((gi s1 n_1).toNat : Int).fdiv (2 ^ (min (4 : Int).toNat IntKind.u8.bits)))).toNat : Int)) rfl rfl (by kernel_rfl) (by kernel_rfl) (want_none) rfl (fun _ _ => (q_shr rfl rfl (by decide) rfl).of_eq (u8r_v ho_4)) ?_
    obtain ⟨ho_5, hM⟩ := hM
    refine HA.val (k := 5) (v := .int .u8 ((gi ([48, 49, 50, 51, 52, 53, 54, 55, 56, 57, 97, 98, 99, 100, 101, 102] : Str) ((u8w (((gi s1 n_1).toNat : Int).fdiv (2 ^ (min (4 : Int).toNat IntKind.u8.bits)))).toNat : Int)).toNat : Int)) rfl rfl (by kernel_rfl) (by kernel_rfl) (want_none) rfl (fun _ _ => q_idxT Tryd.underlying9 rfl rfl ho_5) ?_
    refine HA.val (k := 6) (v := .string (bs s1)) rfl rfl (by kernel_rfl) (by kernel_rfl) (want_none) rfl (fun _ _ => q_move rfl) ?_
    refine HA.val (k := 7) (v := .int .i64 n_1) rfl rfl (by kernel_rfl) (by kernel_rfl) (want_none) rfl (fun _ _ => q_move rfl) ?_
    refine HA.val (k := 8) (v := .int .u8 ((gi s1 n_1).toNat : Int)) rfl rfl (by kernel_rfl) (by kernel_rfl) (want_none) rfl (fun _ _ => q_idxT Tryd.underlying9 rfl rfl ho_3) ?_
    obtain ⟨ho_6, hM⟩ := hM
    refine HA.val (k := 9) (v := .int .u8 ((u8w (bits .and .u8 ((gi s1 n_1).toNat : Int) 15)).toNat : Int)) rfl rfl (by kernel_rfl) (by kernel_rfl) (want_none) rfl (fun _ _ => (q_bits (by simp) rfl rfl).of_eq (u8r_v ho_6)) ?_
    obtain ⟨ho_7, hM⟩ := hM
    refine HA.val (k := 10) (v := .int .u8 ((gi ([48, 49, 50, 51, 52, 53, 54, 55, 56, 57, 97, 98, 99, 100, 101, 102] : Str) ((u8w (bits .and .u8 ((gi s1 n_1).toNat : Int) 15)).toNat : Int)).toNat : Int)) rfl rfl (by kernel_rfl) (by kernel_rfl) (want_none) rfl (fun _ _ => q_idxT Tryd.underlying9 rfl rfl ho_7) ?_
    refine HA.one (k := 11) ⟨trivial, (Go.Wk.at_nil _ _)⟩ (by kernel_rfl) ?_
    refine HS.eff rfl (want_none) rfl (st_lit (enc := enc8) (cells := #[.int .u8 ((gi ([48, 49, 50, 51, 52, 53, 54, 55, 56, 57, 97, 98, 99, 100, 101, 102] : Str) ((u8w (((gi s1 n_1).toNat : Int).fdiv (2 ^ (min (4 : Int).toNat IntKind.u8.bits)))).toNat : Int)).toNat : Int), .int .u8 ((gi ([48, 49, 50, 51, 52, 53, 54, 55, 56, 57, 97, 98, 99, 100, 101, 102] : Str) ((u8w (bits .and .u8 ((gi s1 n_1).toNat : Int) 15)).toNat : Int)).toNat : Int)]) #[.int .u8 0, .int .u8 0] ([(gi ([48, 49, 50, 51, 52, 53, 54, 55, 56, 57, 97, 98, 99, 100, 101, 102] : Str) ((u8w (((gi s1 n_1).toNat : Int).fdiv (2 ^ (min (4 : Int).toNat IntKind.u8.bits)))).toNat : Int)), (gi ([48, 49, 50, 51, 52, 53, 54, 55, 56, 57, 97, 98, 99, 100, 101, 102] : Str) ((u8w (bits .and .u8 ((gi s1 n_1).toNat : Int) 15)).toNat : Int))] : List UInt8) hS tl_44 (by decide) (by decide) (by kernel_rfl) (by kernel_rfl) rfl (by intro x hx; rfl) rfl) ?_
    rintro _ h_3 ⟨b_2, rfl, hS, hk⟩
    replace hK := hK.trans hk
    refine HA.one (k := 12) ⟨trivial, (Go.Wk.at_nil _ _)⟩ (by kernel_rfl) ?_
    obtain ⟨ho_8, hM⟩ := hM
    refine HS.eff rfl (want_none) rfl (st_append te_44 hS (i := 1) rfl (hS.own 0 rfl).slice rfl rfl rfl (by intro a _ u hu; simp [enc8, encI, encN, encB, encT] at hu; subst hu; rfl) ho_8 (by omega)) ?_
    rintro v_1 h_4 ⟨hS, hk⟩
    replace hS : St F_1 (Ow.own 5 1 enc8 (.slice (some ⟨b_2, 0, none⟩) 2 2) ([(gi ([48, 49, 50, 51, 52, 53, 54, 55, 56, 57, 97, 98, 99, 100, 101, 102] : Str) ((u8w (((gi s1 n_1).toNat : Int).fdiv (2 ^ (min (4 : Int).toNat IntKind.u8.bits)))).toNat : Int)), (gi ([48, 49, 50, 51, 52, 53, 54, 55, 56, 57, 97, 98, 99, 100, 101, 102] : Str) ((u8w (bits .and .u8 ((gi s1 n_1).toNat : Int) 15)).toNat : Int))] : List UInt8) :: Ow.own 5 1 enc8 v_1 (out_1 ++ ([(gi ([48, 49, 50, 51, 52, 53, 54, 55, 56, 57, 97, 98, 99, 100, 101, 102] : Str) ((u8w (((gi s1 n_1).toNat : Int).fdiv (2 ^ (min (4 : Int).toNat IntKind.u8.bits)))).toNat : Int)), (gi ([48, 49, 50, 51, 52, 53, 54, 55, 56, 57, 97, 98, 99, 100, 101, 102] : Str) ((u8w (bits .and .u8 ((gi s1 n_1).toNat : Int) 15)).toNat : Int))] : List UInt8)) :: fr) h_4 := hS
    replace hK := hK.trans hk
    refine HA.val (k := 13) (v := v_1) rfl rfl (by kernel_rfl) (by kernel_rfl) (want_none) rfl (fun _ _ => q_assign rfl) ?_
    refine HA.nil ⟨trivial, (Go.Wk.at_nil _ _)⟩ (by kernel_rfl) (blockQ_normal (thenQ_normal (?_)))
    refine HW.region ?_
    obtain ⟨ho_9, hM⟩ := hM
    refine HO.val (v := .int .i64 (n_1 + 1)) (want_none) rfl (q_addN _ rfl rfl rfl ho_9.1 ho_9.2) ?_
    refine HO.val (v := .int .i64 (n_1 + 1)) (want_none) rfl (q_move rfl) ?_
    refine HO.nil (thenQ_normal (?_))
    replace hS : St F_1 (Ow.own 5 1 enc8 v_1 (out_1 ++ ([(gi ([48, 49, 50, 51, 52, 53, 54, 55, 56, 57, 97, 98, 99, 100, 101, 102] : Str) ((u8w (((gi s1 n_1).toNat : Int).fdiv (2 ^ (min (4 : Int).toNat IntKind.u8.bits)))).toNat : Int)), (gi ([48, 49, 50, 51, 52, 53, 54, 55, 56, 57, 97, 98, 99, 100, 101, 102] : Str) ((u8w (bits .and .u8 ((gi s1 n_1).toNat : Int) 15)).toNat : Int))] : List UInt8)) :: fr) h_4 := hS.perm2 [1] 2 rfl rfl
    rw [hKe_1] at hM
    exact ⟨(out_1 ++ ([(gi ([48, 49, 50, 51, 52, 53, 54, 55, 56, 57, 97, 98, 99, 100, 101, 102] : Str) ((u8w (((gi s1 n_1).toNat : Int).fdiv (2 ^ (min (4 : Int).toNat IntKind.u8.bits)))).toNat : Int)), (gi ([48, 49, 50, 51, 52, 53, 54, 55, 56, 57, 97, 98, 99, 100, 101, 102] : Str) ((u8w (bits .and .u8 ((gi s1 n_1).toNat : Int) 15)).toNat : Int))] : List UInt8), n_1 + 1), ⟨F_1, v_1, rfl, rfl, rfl, rfl, rfl, hK, hS, hM.1⟩, hM.2⟩
  · replace hM := hM.2 (of_decide_eq_false c_1)
    refine HW.exit (thenQ_exit (thenQ_exit (blockQ_exit (thenQ_normal (?_)))))
    refine HW.seq ?_
    refine HW.region ?_
    refine HO.val (v := vout_1) (want_none) rfl (q_move rfl) ?_
    refine HO.val (v := .string (bs out_1)) (want_none) rfl (q_bytesStr ts_44 Tryd.underlying5 Tryd.underlying9 (hS.own 0 rfl).slice rfl) ?_
    refine HO.val (v := .string (bs out_1)) (want_none) rfl (q_assign rfl) ?_
    refine HO.nil (thenQ_normal (?_))
    refine HW.ret (?_)
    refine ⟨.inr rfl, .string (bs out_1), res1 rfl (rt rfl), ?_⟩
    replace hS : St F_1 (fr) h_2 := hS.perm2 [] 1 rfl rfl
    exact ⟨F_1, out_1, rfl, hK, hS, hM⟩

def addr_PrintMac_l2 (m1 : Ba 6) (Q : Str → Prop) (K_1 : (List Str) → Int → Prop) (l_1 : List Str) (n_1 : Int) : Prop :=
  (n_1 < 6 → ((0 : Int) ≤ n_1 ∧ n_1 < 6) ∧ (octet_Hex_W ([(gi m1.1 n_1)] : List UInt8) (fun r_2 => ((l_1.length + ([r_2] : List Str).length) * 16 ≤ 140737488355328) ∧ ((I64 (n_1 + 1)) ∧ (K_1 (l_1 ++ ([r_2] : List Str)) (n_1 + 1)))))) ∧ (¬ (n_1 < 6) → ((l_1).length ≤ 140737488355328 ∧ (joinS l_1 ([58] : Str)).length ≤ 140737488355328) ∧ (Q (joinS l_1 ([58] : Str))))
def addr_PrintMac_W (m1 : Ba 6) (Q : Str → Prop) : Prop :=
  loopW (fun (K_1 : (List Str × Int) → Prop) (s : List Str × Int) => addr_PrintMac_l2 m1 Q (fun l_1 n_1 => K_1 (l_1, n_1)) s.1 s.2) ([], 0)
set_option maxHeartbeats 40000000 in
set_option maxRecDepth 100000 in
theorem addr_PrintMac_walk {F : Fz} {fr : List Ow} {h0 : Heap} (m1 : Ba 6) (hS : St F (fr) h0)  (hD : DM.on = false) {Q : Str → Prop} (hM : addr_PrintMac_W m1 Q) :
    HC Tryd.prog 20 #[.agg (arrCells m1).toArray] h0 fun u h' => ∃ (F' : Fz) (r_1 : Str), u = .string (bs r_1) ∧ Kp F h0 F' h' ∧ St F' (fr) h' ∧ Q r_1 := by
  unfold addr_PrintMac_W at hM
  have hK := Kp.refl F h0
  refine HC.of_HW (n := 20) Tryd.func20 rfl rfl (Nat.le_of_ble_eq_true rfl) ?_
  refine HW.seq ?_
  refine HW.region ?_
  refine HO.eff (want_none) rfl (st_box (c := (arrCells m1).toArray) (k' := 6) hS rfl rfl) ?_
  rintro _ h_1 ⟨b_1, rfl, hS, hk⟩
  replace hK := hK.trans hk
  refine HO.val (v := .string (bs [])) (want_none) rfl (q_assign rfl) ?_
  refine HO.nil (thenQ_normal (?_))
  refine HW.seq ?_
  refine HW.region ?_
  refine HO.val (v := .slice none 0 0) (want_none) rfl (q_assign rfl) ?_
  refine HO.nil (thenQ_normal (?_))
  refine HW.seq ?_
  refine HW.seq ?_
  refine HW.region ?_
  refine HO.val (v := .agg (arrCells m1).toArray) (want_none) rfl (q_loadAgg (cs := (arrCells m1)) ta_38 rfl rfl (Blk.cells (k := 6) (hS.box 0 rfl) rfl)) ?_
  refine HO.val (v := .int .i64 0) (want_none) rfl (q_move rfl) ?_
  refine HO.nil (thenQ_normal (?_))
  refine HW.block ?_
  obtain ⟨I_1, m_1, hI_1, hR_1⟩ := hM
  replace hS := hS.nilOwn 9 1 encT
  replace hS : St F (Ow.own 9 1 encT (.slice none 0 0) ([] : List Str) :: fr) h_1 := hS.perm2 [0] 2 rfl rfl
  refine HW.loop (S := List Str × Int) (fun s f h => match s with | (l_1, n_1) => ∃ (F' : Fz) (vl_1 : Value), f 2 = .string (bs []) ∧ f 3 = vl_1 ∧ f 6 = .agg (arrCells m1).toArray ∧ f 7 = .int .i64 n_1 ∧ Kp F h0 F' h ∧ St F' (Ow.own 9 1 encT vl_1 l_1 :: fr) h ∧ I_1 (l_1, n_1)) m_1 ([], 0) ⟨F, .slice none 0 0, rfl, rfl, rfl, rfl, hK, hS, hI_1⟩ ?_
  rintro ⟨l_1, n_1⟩ f_1 h_2 ⟨F_1, vl_1, e2, e3, e6, e7, hK, hS, hI0⟩
  obtain ⟨K_1, hKe_1⟩ : ∃ K : (List Str) → Int → Prop, K = fun l_1' n_1' => I_1 (l_1', n_1') ∧ m_1 (l_1', n_1') < m_1 (l_1, n_1) := ⟨_, rfl⟩
  have hM : addr_PrintMac_l2 m1 Q K_1 l_1 n_1 := by rw [hKe_1]; exact hR_1 (l_1, n_1) hI0
  unfold addr_PrintMac_l2 at hM
  refine HW.fr [(2, .string (bs [])), (3, vl_1), (6, .agg (arrCells m1).toArray), (7, .int .i64 n_1)] ⟨e2, e3, e6, e7, trivial⟩ ?_
  refine HW.seq ?_
  refine HW.region ?_
  refine HO.val (v := .bool (decide (n_1 < 6))) (want_none) rfl (q_lss rfl rfl) ?_
  refine HO.nil (thenQ_normal (?_))
  refine HW.seq ?_
  refine HW.cond (decide (n_1 < 6)) rfl (fun c_1 => ?_) (fun c_1 => ?_)
  · replace hM := hM.1 (of_decide_eq_true c_1)
    refine HW.skip (thenQ_normal (?_))
    refine HW.seq ?_
    refine HW.block ?_
    refine HW.seq ?_
    refine HW.region ?_
    obtain ⟨ho_1, hM⟩ := hM
    refine HO.val (v := .int .u8 (b8 m1 n_1)) (want_none) rfl (q_ixArr (X := m1) (t := n_1) tr_38 rfl rfl ho_1) ?_
    refine HO.val (v := .int .u8 (b8 m1 n_1)) (want_none) rfl (q_assign rfl) ?_
    refine HO.nil (thenQ_normal (?_))
    refine HW.region ?_
    refine HO.val (v := vl_1) (want_none) rfl (q_move rfl) ?_
    refine HO.val (v := .int .u8 (b8 m1 n_1)) (want_none) rfl (q_move rfl) ?_
    refine HO.eff (want_none) rfl (st_lit (enc := enc8) (cells := #[.int .u8 (b8 m1 n_1)]) #[.int .u8 0] ([(gi m1.1 n_1)] : List UInt8) hS tl_44 (by decide) (by decide) (by kernel_rfl) (by kernel_rfl) rfl (by intro x hx; rfl) rfl) ?_
    rintro _ h_3 ⟨b_2, rfl, hS, hk⟩
    replace hK := hK.trans hk
    refine HO.val (v := .string (bs ([(gi m1.1 n_1)] : List UInt8))) (want_none) rfl (q_bytesStr ts_44 Tryd.underlying5 Tryd.underlying9 (hS.own 0 rfl).slice rfl) ?_
    refine HO.call (want_none) rfl (ec en_34 rfl rfl) (octet_Hex_walk (fr := (Ow.own 5 1 enc8 (.slice (some ⟨b_2, 0, none⟩) 1 1) ([(gi m1.1 n_1)] : List UInt8) :: Ow.own 9 1 encT vl_1 l_1 :: fr)) ([(gi m1.1 n_1)] : List UInt8) hS hM) ?_
    rintro _ h_4 ⟨F_2, r_2, rfl, hk, hS, hM⟩
    replace hK := hK.trans hk
    refine HO.eff (want_none) rfl (st_lit (enc := encT) (cells := #[.string (bs r_2)]) #[.string (bs [])] ([r_2] : List Str) hS tl_58 (by decide) (by decide) (by kernel_rfl) (by kernel_rfl) rfl (by intro x hx; rfl) rfl) ?_
    rintro _ h_5 ⟨b_3, rfl, hS, hk⟩
    replace hK := hK.trans hk
    obtain ⟨ho_2, hM⟩ := hM
    refine HO.eff (want_none) rfl (st_append te_58 hS (i := 2) rfl (hS.own 0 rfl).slice rfl rfl rfl (by intro a _ u hu; simp [encT, encI, encN, encB, encT] at hu; subst hu; rfl) ho_2 (by omega)) ?_
    rintro v_1 h_6 ⟨hS, hk⟩
    replace hS : St F_2 (Ow.own 9 1 encT (.slice (some ⟨b_3, 0, none⟩) 1 1) ([r_2] : List Str) :: Ow.own 5 1 enc8 (.slice (some ⟨b_2, 0, none⟩) 1 1) ([(gi m1.1 n_1)] : List UInt8) :: Ow.own 9 1 encT v_1 (l_1 ++ ([r_2] : List Str)) :: fr) h_6 := hS
    replace hK := hK.trans hk
    refine HO.val (v := v_1) (want_none) rfl (q_assign rfl) ?_
    refine HO.nil (blockQ_normal (thenQ_normal (?_)))
    refine HW.region ?_
    obtain ⟨ho_3, hM⟩ := hM
    refine HO.val (v := .int .i64 (n_1 + 1)) (want_none) rfl (q_addN _ rfl rfl rfl ho_3.1 ho_3.2) ?_
    refine HO.val (v := .int .i64 (n_1 + 1)) (want_none) rfl (q_move rfl) ?_
    refine HO.nil (thenQ_normal (?_))
    replace hS : St F_2 (Ow.own 9 1 encT v_1 (l_1 ++ ([r_2] : List Str)) :: fr) h_6 := hS.perm2 [2] 3 rfl rfl
    rw [hKe_1] at hM
    exact ⟨(l_1 ++ ([r_2] : List Str), n_1 + 1), ⟨F_2, v_1, rfl, rfl, rfl, rfl, hK, hS, hM.1⟩, hM.2⟩
  · replace hM := hM.2 (of_decide_eq_false c_1)
    refine HW.exit (thenQ_exit (thenQ_exit (blockQ_exit (thenQ_normal (?_)))))
    refine HW.seq ?_
    refine HW.region ?_
    refine HO.val (v := vl_1) (want_none) rfl (q_move rfl) ?_
    obtain ⟨ho_4, hM⟩ := hM
    refine HO.call (want_none) rfl (ec en_35 rfl rfl) (strJoin_hc hD Tryd.join Tryd.joinX ([58] : Str) hS (hS.own 0 rfl).slice ho_4.1 ho_4.2) ?_
    rintro _ h_7 ⟨rfl, hS, hk⟩
    replace hK := hK.trans hk
    refine HO.val (v := .string (bs (joinS l_1 ([58] : Str)))) (want_none) rfl (q_assign rfl) ?_
    refine HO.nil (thenQ_normal (?_))
    refine HW.ret (?_)
    refine ⟨.inr rfl, .string (bs (joinS l_1 ([58] : Str))), res1 rfl (rt rfl), ?_⟩
    replace hS : St F_1 (fr) h_7 := hS.perm2 [] 1 rfl rfl
    exact ⟨F_1, joinS l_1 ([58] : Str), rfl, hK, hS, hM⟩

def law03_lives_W (Q : Bool → Prop) : Prop :=
  addr_Parse_W [102, 102, 48, 50, 58, 58, 49] (fun r0_1 r1_1 => addr_Ip4_W 239 129 2 3 (fun r_2 => addr_Mac_W r_2 (fun r0_2 r1_2 => (r1_1 = 0 → (r0_1.1 = true → ((b8 r0_1.2 0) = 255 → ((b8 r0_1.2 15) = 1 → addr_Print_W r0_1 (fun r_3 => ((r_3 : Str) = [102, 102, 48, 50, 58, 58, 49] → (r1_2 = true → addr_PrintMac_W r0_2 (fun r_4 => Q (decide ((r_4 : Str) = [48, 49, 58, 48, 48, 58, 53, 101, 58, 48, 49, 58, 48, 50, 58, 48, 51])))) ∧ (r1_2 = false → Q false)) ∧ (¬ ((r_3 : Str) = [102, 102, 48, 50, 58, 58, 49]) → Q false))) ∧ (¬ ((b8 r0_1.2 15) = 1) → Q false)) ∧ (¬ ((b8 r0_1.2 0) = 255) → Q false)) ∧ (r0_1.1 = false → Q false)) ∧ (¬ (r1_1 = 0) → Q false))))
set_option maxHeartbeats 40000000 in
set_option maxRecDepth 100000 in
theorem law03_lives_walk {F : Fz} {fr : List Ow} {h0 : Heap} (gm : Int) (gvS : Value) (gbS : Bool) (gvR : Value) (gbR : Bool) (hS : St F (fr) h0) (hG_0 : RoF (Ow.box 0 3 #[.int .i64 gm]) F h0) (hG_1 : RoF (Ow.box 1 64 #[gvS]) F h0) (hE_gvS : ErrF gbS gvS F h0) (hG_2 : RoF (Ow.box 2 64 #[gvR]) F h0) (hE_gvR : ErrF gbR gvR F h0) (hG_5 : RoF (Ow.box 5 130 (tab10 ()).toArray) F h0) (hG_7 : RoF (Ow.box 7 136 (arrCells tab64).toArray) F h0) (hD : DM.on = false) {Q : Bool → Prop} (hM : law03_lives_W Q) :
    HC Tryd.prog 11 #[] h0 fun u h' => ∃ (F' : Fz) (r_1 : Bool), u = .bool r_1 ∧ Kp F h0 F' h' ∧ St F' (fr) h' ∧ (RoF (Ow.box 0 3 #[.int .i64 gm]) F' h') ∧ (RoF (Ow.box 1 64 #[gvS]) F' h') ∧ (ErrF gbS gvS F' h') ∧ (RoF (Ow.box 2 64 #[gvR]) F' h') ∧ (ErrF gbR gvR F' h') ∧ (RoF (Ow.box 5 130 (tab10 ()).toArray) F' h') ∧ (RoF (Ow.box 7 136 (arrCells tab64).toArray) F' h') ∧ Q r_1 := by
  unfold law03_lives_W at hM
  have hK := Kp.refl F h0
  refine HC.of_HW (n := 45) Tryd.func11 rfl rfl (Nat.le_of_ble_eq_true rfl) ?_
  refine HW.seq ?_
  refine HW.region ?_
  refine HO.val (v := .bool false) (want_none) rfl (q_assign rfl) ?_
  refine HO.nil (thenQ_normal (?_))
  refine HW.seq ?_
  refine HW.region ?_
  refine HO.call (want_none) rfl (ec en_15 rfl rfl) (addr_Parse_walk (fr := (fr)) [102, 102, 48, 50, 58, 58, 49] gm gvS gbS gvR gbR hS hG_0 hG_1 hE_gvS hG_2 hE_gvR hG_5 hG_7 hD hM) ?_
  rintro _ h_1 ⟨F_1, r0_1, r1_1, rfl, hk, hS, _, _, _, _, _, _, _, hM⟩
  replace hK := hK.trans hk
  replace hG_0 := hG_0.kp hk
  replace hG_1 := hG_1.kp hk
  replace hE_gvS := hE_gvS.kp hk
  replace hG_2 := hG_2.kp hk
  replace hE_gvR := hE_gvR.kp hk
  replace hG_5 := hG_5.kp hk
  replace hG_7 := hG_7.kp hk
  refine HO.val (v := .tuple #[.agg (e_api_Addr r0_1).toArray, .int .i64 r1_1]) (want_none) rfl (q_move rfl) ?_
  refine HO.val (v := .agg (e_api_Addr r0_1).toArray) (want_none) rfl (q_extract rfl rfl) ?_
  refine HO.val (v := .int .i64 r1_1) (want_none) rfl (q_extract rfl rfl) ?_
  refine HO.eff (want_none) rfl (st_alloc (c := (e_api_Addr (false, (default : Ba 16))).toArray) hS tz_25 rfl) ?_
  rintro _ h_2 ⟨b_1, rfl, hS, hk⟩
  replace hK := hK.trans hk
  replace hG_0 := hG_0.kp hk
  replace hG_1 := hG_1.kp hk
  replace hE_gvS := hE_gvS.kp hk
  replace hG_2 := hG_2.kp hk
  replace hE_gvR := hE_gvR.kp hk
  replace hG_5 := hG_5.kp hk
  replace hG_7 := hG_7.kp hk
  refine HO.sto (want_none) rfl (st_storeAgg (c' := (e_api_Addr r0_1).toArray) hS (i := 0) rfl ta_25 rfl rfl rfl (one_e_api_Addr _) (Nat.le_of_ble_eq_true rfl) rfl) ?_
  rintro h_3 ⟨hS, hk⟩
  replace hS : St F_1 (Ow.box b_1 25 (e_api_Addr r0_1).toArray :: fr) h_3 := hS
  replace hK := hK.trans hk
  replace hG_0 := hG_0.kp hk
  replace hG_1 := hG_1.kp hk
  replace hE_gvS := hE_gvS.kp hk
  replace hG_2 := hG_2.kp hk
  replace hE_gvR := hE_gvR.kp hk
  replace hG_5 := hG_5.kp hk
  replace hG_7 := hG_7.kp hk
  refine HO.val (v := .int .i64 r1_1) (want_none) rfl (q_assign rfl) ?_
  refine HO.nil (thenQ_normal (?_))
  refine HW.seq ?_
  refine HW.region ?_
  refine HO.call (want_none) rfl (ec en_24 rfl rfl) (addr_Ip4_walk (fr := (Ow.box b_1 25 (e_api_Addr r0_1).toArray :: fr)) 239 129 2 3 hS hM) ?_
  rintro _ h_4 ⟨F_2, r_2, rfl, hk, hS, hM⟩
  replace hK := hK.trans hk
  replace hG_0 := hG_0.kp hk
  replace hG_1 := hG_1.kp hk
  replace hE_gvS := hE_gvS.kp hk
  replace hG_2 := hG_2.kp hk
  replace hE_gvR := hE_gvR.kp hk
  replace hG_5 := hG_5.kp hk
  replace hG_7 := hG_7.kp hk
  refine HO.call (want_none) rfl (ec en_23 rfl rfl) (addr_Mac_walk (fr := (Ow.box b_1 25 (e_api_Addr r0_1).toArray :: fr)) r_2 hS hM) ?_
  rintro _ h_5 ⟨F_3, r0_2, r1_2, rfl, hk, hS, hM⟩
  replace hK := hK.trans hk
  replace hG_0 := hG_0.kp hk
  replace hG_1 := hG_1.kp hk
  replace hE_gvS := hE_gvS.kp hk
  replace hG_2 := hG_2.kp hk
  replace hE_gvR := hE_gvR.kp hk
  replace hG_5 := hG_5.kp hk
  replace hG_7 := hG_7.kp hk
  refine HO.val (v := .tuple #[.agg (arrCells r0_2).toArray, .bool r1_2]) (want_none) rfl (q_move rfl) ?_
  refine HO.val (v := .agg (arrCells r0_2).toArray) (want_none) rfl (q_extract rfl rfl) ?_
  refine HO.val (v := .bool r1_2) (want_none) rfl (q_extract rfl rfl) ?_
  refine HO.eff (want_none) rfl (st_alloc (c := (arrCells (default : Ba 6)).toArray) hS tz_38 rfl) ?_
  rintro _ h_6 ⟨b_2, rfl, hS, hk⟩
  replace hK := hK.trans hk
  replace hG_0 := hG_0.kp hk
  replace hG_1 := hG_1.kp hk
  replace hE_gvS := hE_gvS.kp hk
  replace hG_2 := hG_2.kp hk
  replace hE_gvR := hE_gvR.kp hk
  replace hG_5 := hG_5.kp hk
  replace hG_7 := hG_7.kp hk
  refine HO.sto (want_none) rfl (st_storeAgg (c' := (arrCells r0_2).toArray) hS (i := 0) rfl ta_38 rfl rfl rfl (one_arr _) (Nat.le_of_ble_eq_true rfl) rfl) ?_
  rintro h_7 ⟨hS, hk⟩
  replace hS : St F_3 (Ow.box b_2 38 (arrCells r0_2).toArray :: Ow.box b_1 25 (e_api_Addr r0_1).toArray :: fr) h_7 := hS
  replace hK := hK.trans hk
  replace hG_0 := hG_0.kp hk
  replace hG_1 := hG_1.kp hk
  replace hE_gvS := hE_gvS.kp hk
  replace hG_2 := hG_2.kp hk
  replace hE_gvR := hE_gvR.kp hk
  replace hG_5 := hG_5.kp hk
  replace hG_7 := hG_7.kp hk
  refine HO.val (v := .bool r1_2) (want_none) rfl (q_assign rfl) ?_
  refine HO.nil (thenQ_normal (?_))
  refine HW.seq ?_
  refine HW.region ?_
  refine HO.val (v := .int .i64 r1_1) (want_none) rfl (q_move rfl) ?_
  refine HO.val (v := .bool (decide (r1_1 = 0))) (want_none) rfl (q_eql rfl rfl) ?_
  refine HO.val (v := .bool (decide (r1_1 = 0))) (want_none) rfl (q_move rfl) ?_
  rcases Bool.eq_false_or_eq_true (decide (r1_1 = 0)) with c_1 | c_1
  · replace hM := hM.1 (of_decide_eq_true c_1)
    refine HO.val (v := .pointer (some ⟨b_1, 0, none⟩)) (want_by rfl rfl c_1) rfl (q_fieldAddr fa_25_0 rfl rfl) ?_
    refine HO.val (v := .bool r0_1.1) (want_by rfl rfl c_1) rfl (q_load to_4 rfl (Blk.cell (hS.box 1 rfl) rfl)) ?_
    refine HO.val (v := .bool r0_1.1) (want_none) rfl (q_pickK true rfl c_1 rfl) ?_
    refine HO.val (v := .bool r0_1.1) (want_none) rfl (q_move rfl) ?_
    rcases Bool.eq_false_or_eq_true r0_1.1 with c_2 | c_2
    · replace hM := hM.1 c_2
      refine HO.val (v := .pointer (some ⟨b_1, 1, none⟩)) (want_by rfl rfl c_2) rfl (q_fieldAddr fa_25_1 rfl rfl) ?_
      refine HO.val (v := .pointer (some ⟨b_1, 1, none⟩)) (want_by rfl rfl c_2) rfl (q_idxA (o := 1) (t := 0) tr_23 rfl rfl ⟨by decide, by decide⟩) ?_
      refine HO.val (v := .int .u8 (b8 r0_1.2 0)) (want_by rfl rfl c_2) rfl (q_load to_5 rfl (Blk.cell (hS.box 1 rfl) rfl)) ?_
      refine HO.val (v := .bool (decide ((b8 r0_1.2 0) = 255))) (want_by rfl rfl c_2) rfl (q_eql rfl rfl) ?_
      refine HO.val (v := .bool (decide ((b8 r0_1.2 0) = 255))) (want_none) rfl (q_pickK true rfl c_2 rfl) ?_
      refine HO.val (v := .bool (decide ((b8 r0_1.2 0) = 255))) (want_none) rfl (q_move rfl) ?_
      rcases Bool.eq_false_or_eq_true (decide ((b8 r0_1.2 0) = 255)) with c_3 | c_3
      · replace hM := hM.1 (of_decide_eq_true c_3)
        refine HO.val (v := .pointer (some ⟨b_1, 1, none⟩)) (want_by rfl rfl c_3) rfl (q_fieldAddr fa_25_1 rfl rfl) ?_
        refine HO.val (v := .pointer (some ⟨b_1, 16, none⟩)) (want_by rfl rfl c_3) rfl (q_idxA (o := 1) (t := 15) tr_23 rfl rfl ⟨by decide, by decide⟩) ?_
        refine HO.val (v := .int .u8 (b8 r0_1.2 15)) (want_by rfl rfl c_3) rfl (q_load to_5 rfl (Blk.cell (hS.box 1 rfl) rfl)) ?_
        refine HO.val (v := .bool (decide ((b8 r0_1.2 15) = 1))) (want_by rfl rfl c_3) rfl (q_eql rfl rfl) ?_
        refine HO.val (v := .bool (decide ((b8 r0_1.2 15) = 1))) (want_none) rfl (q_pickK true rfl c_3 rfl) ?_
        refine HO.val (v := .bool (decide ((b8 r0_1.2 15) = 1))) (want_none) rfl (q_move rfl) ?_
        rcases Bool.eq_false_or_eq_true (decide ((b8 r0_1.2 15) = 1)) with c_4 | c_4
        · replace hM := hM.1 (of_decide_eq_true c_4)
          refine HO.val (v := .agg (e_api_Addr r0_1).toArray) (want_by rfl rfl c_4) rfl (q_loadAgg (cs := (e_api_Addr r0_1)) ta_25 rfl rfl (Blk.cells (k := 17) (hS.box 1 rfl) rfl)) ?_
          refine HO.call (want_by rfl rfl c_4) rfl (ec en_19 rfl rfl) (addr_Print_walk (fr := (Ow.box b_2 38 (arrCells r0_2).toArray :: Ow.box b_1 25 (e_api_Addr r0_1).toArray :: fr)) r0_1 hS hG_5 hG_7 hD hM) ?_
          rintro _ h_8 ⟨F_4, r_3, rfl, hk, hS, _, _, hM⟩
          replace hK := hK.trans hk
          replace hG_0 := hG_0.kp hk
          replace hG_1 := hG_1.kp hk
          replace hE_gvS := hE_gvS.kp hk
          replace hG_2 := hG_2.kp hk
          replace hE_gvR := hE_gvR.kp hk
          replace hG_5 := hG_5.kp hk
          replace hG_7 := hG_7.kp hk
          refine HO.val (v := .bool (decide ((r_3 : Str) = [102, 102, 48, 50, 58, 58, 49]))) (want_by rfl rfl c_4) rfl (q_eqlT rfl rfl) ?_
          refine HO.val (v := .bool (decide ((r_3 : Str) = [102, 102, 48, 50, 58, 58, 49]))) (want_none) rfl (q_pickK true rfl c_4 rfl) ?_
          refine HO.val (v := .bool (decide ((r_3 : Str) = [102, 102, 48, 50, 58, 58, 49]))) (want_none) rfl (q_move rfl) ?_
          rcases Bool.eq_false_or_eq_true (decide ((r_3 : Str) = [102, 102, 48, 50, 58, 58, 49])) with c_5 | c_5
          · replace hM := hM.1 (of_decide_eq_true c_5)
            refine HO.val (v := .bool r1_2) (want_by rfl rfl c_5) rfl (q_move rfl) ?_
            refine HO.val (v := .bool r1_2) (want_none) rfl (q_pickK true rfl c_5 rfl) ?_
            refine HO.val (v := .bool r1_2) (want_none) rfl (q_move rfl) ?_
            rcases Bool.eq_false_or_eq_true r1_2 with c_6 | c_6
            · replace hM := hM.1 c_6
              refine HO.val (v := .agg (arrCells r0_2).toArray) (want_by rfl rfl c_6) rfl (q_loadAgg (cs := (arrCells r0_2)) ta_38 rfl rfl (Blk.cells (k := 6) (hS.box 0 rfl) rfl)) ?_
              refine HO.call (want_by rfl rfl c_6) rfl (ec en_20 rfl rfl) (addr_PrintMac_walk (fr := (Ow.box b_2 38 (arrCells r0_2).toArray :: Ow.box b_1 25 (e_api_Addr r0_1).toArray :: fr)) r0_2 hS hD hM) ?_
              rintro _ h_9 ⟨F_5, r_4, rfl, hk, hS, hM⟩
              replace hK := hK.trans hk
              replace hG_0 := hG_0.kp hk
              replace hG_1 := hG_1.kp hk
              replace hE_gvS := hE_gvS.kp hk
              replace hG_2 := hG_2.kp hk
              replace hE_gvR := hE_gvR.kp hk
              replace hG_5 := hG_5.kp hk
              replace hG_7 := hG_7.kp hk
              refine HO.val (v := .bool (decide ((r_4 : Str) = [48, 49, 58, 48, 48, 58, 53, 101, 58, 48, 49, 58, 48, 50, 58, 48, 51]))) (want_by rfl rfl c_6) rfl (q_eqlT rfl rfl) ?_
              refine HO.val (v := .bool (decide ((r_4 : Str) = [48, 49, 58, 48, 48, 58, 53, 101, 58, 48, 49, 58, 48, 50, 58, 48, 51]))) (want_none) rfl (q_pickK true rfl c_6 rfl) ?_
              refine HO.val (v := .bool (decide ((r_4 : Str) = [48, 49, 58, 48, 48, 58, 53, 101, 58, 48, 49, 58, 48, 50, 58, 48, 51]))) (want_none) rfl (q_assign rfl) ?_
              refine HO.nil (thenQ_normal (?_))
              refine HW.ret (?_)
              refine ⟨.inr rfl, .bool (decide ((r_4 : Str) = [48, 49, 58, 48, 48, 58, 53, 101, 58, 48, 49, 58, 48, 50, 58, 48, 51])), res1 rfl (rt rfl), ?_⟩
              replace hS : St F_5 (fr) h_9 := hS.perm2 [] 2 rfl rfl
              exact ⟨F_5, decide ((r_4 : Str) = [48, 49, 58, 48, 48, 58, 53, 101, 58, 48, 49, 58, 48, 50, 58, 48, 51]), rfl, hK, hS, hG_0, hG_1, hE_gvS, hG_2, hE_gvR, hG_5, hG_7, hM⟩
            · replace hM := hM.2 c_6
              refine HO.past (past_by rfl rfl c_6) rfl ?_
              refine HO.past (past_by rfl rfl c_6) rfl ?_
              refine HO.past (past_by rfl rfl c_6) rfl ?_
              refine HO.val (v := .bool false) (want_none) rfl (q_pickK false rfl c_6 rfl) ?_
              refine HO.val (v := .bool false) (want_none) rfl (q_assign rfl) ?_
              refine HO.nil (thenQ_normal (?_))
              refine HW.ret (?_)
              refine ⟨.inr rfl, .bool false, res1 rfl (rt rfl), ?_⟩
              replace hS : St F_4 (fr) h_8 := hS.perm2 [] 2 rfl rfl
              exact ⟨F_4, false, rfl, hK, hS, hG_0, hG_1, hE_gvS, hG_2, hE_gvR, hG_5, hG_7, hM⟩
          · replace hM := hM.2 (of_decide_eq_false c_5)
            refine HO.past (past_by rfl rfl c_5) rfl ?_
            refine HO.val (v := .bool false) (want_none) rfl (q_pickK false rfl c_5 rfl) ?_
            refine HO.val (v := .bool false) (want_none) rfl (q_move rfl) ?_
            refine HO.past (past_some rfl rfl) rfl ?_
            refine HO.past (past_some rfl rfl) rfl ?_
            refine HO.past (past_some rfl rfl) rfl ?_
            refine HO.val (v := .bool false) (want_none) rfl (q_pick rfl rfl) ?_
            refine HO.val (v := .bool false) (want_none) rfl (q_assign rfl) ?_
            refine HO.nil (thenQ_normal (?_))
            refine HW.ret (?_)
            refine ⟨.inr rfl, .bool false, res1 rfl (rt rfl), ?_⟩
            replace hS : St F_4 (fr) h_8 := hS.perm2 [] 2 rfl rfl
            exact ⟨F_4, false, rfl, hK, hS, hG_0, hG_1, hE_gvS, hG_2, hE_gvR, hG_5, hG_7, hM⟩
        · replace hM := hM.2 (of_decide_eq_false c_4)
          refine HO.past (past_by rfl rfl c_4) rfl ?_
          refine HO.past (past_by rfl rfl c_4) rfl ?_
          refine HO.past (past_by rfl rfl c_4) rfl ?_
          refine HO.val (v := .bool false) (want_none) rfl (q_pickK false rfl c_4 rfl) ?_
          refine HO.val (v := .bool false) (want_none) rfl (q_move rfl) ?_
          refine HO.past (past_some rfl rfl) rfl ?_
          refine HO.val (v := .bool false) (want_none) rfl (q_pick rfl rfl) ?_
          refine HO.val (v := .bool false) (want_none) rfl (q_move rfl) ?_
          refine HO.past (past_some rfl rfl) rfl ?_
          refine HO.past (past_some rfl rfl) rfl ?_
          refine HO.past (past_some rfl rfl) rfl ?_
          refine HO.val (v := .bool false) (want_none) rfl (q_pick rfl rfl) ?_
          refine HO.val (v := .bool false) (want_none) rfl (q_assign rfl) ?_
          refine HO.nil (thenQ_normal (?_))
          refine HW.ret (?_)
          refine ⟨.inr rfl, .bool false, res1 rfl (rt rfl), ?_⟩
          replace hS : St F_3 (fr) h_7 := hS.perm2 [] 2 rfl rfl
          exact ⟨F_3, false, rfl, hK, hS, hG_0, hG_1, hE_gvS, hG_2, hE_gvR, hG_5, hG_7, hM⟩
      · replace hM := hM.2 (of_decide_eq_false c_3)
        refine HO.past (past_by rfl rfl c_3) rfl ?_
        refine HO.past (past_by rfl rfl c_3) rfl ?_
        refine HO.past (past_by rfl rfl c_3) rfl ?_
        refine HO.past (past_by rfl rfl c_3) rfl ?_
        refine HO.val (v := .bool false) (want_none) rfl (q_pickK false rfl c_3 rfl) ?_
        refine HO.val (v := .bool false) (want_none) rfl (q_move rfl) ?_
        refine HO.past (past_some rfl rfl) rfl ?_
        refine HO.past (past_some rfl rfl) rfl ?_
        refine HO.past (past_some rfl rfl) rfl ?_
        refine HO.val (v := .bool false) (want_none) rfl (q_pick rfl rfl) ?_
        refine HO.val (v := .bool false) (want_none) rfl (q_move rfl) ?_
        refine HO.past (past_some rfl rfl) rfl ?_
        refine HO.val (v := .bool false) (want_none) rfl (q_pick rfl rfl) ?_
        refine HO.val (v := .bool false) (want_none) rfl (q_move rfl) ?_
        refine HO.past (past_some rfl rfl) rfl ?_
        refine HO.past (past_some rfl rfl) rfl ?_
        refine HO.past (past_some rfl rfl) rfl ?_
        refine HO.val (v := .bool false) (want_none) rfl (q_pick rfl rfl) ?_
        refine HO.val (v := .bool false) (want_none) rfl (q_assign rfl) ?_
        refine HO.nil (thenQ_normal (?_))
        refine HW.ret (?_)
        refine ⟨.inr rfl, .bool false, res1 rfl (rt rfl), ?_⟩
        replace hS : St F_3 (fr) h_7 := hS.perm2 [] 2 rfl rfl
        exact ⟨F_3, false, rfl, hK, hS, hG_0, hG_1, hE_gvS, hG_2, hE_gvR, hG_5, hG_7, hM⟩
    · replace hM := hM.2 c_2
      refine HO.past (past_by rfl rfl c_2) rfl ?_
      refine HO.past (past_by rfl rfl c_2) rfl ?_
      refine HO.past (past_by rfl rfl c_2) rfl ?_
      refine HO.past (past_by rfl rfl c_2) rfl ?_
      refine HO.val (v := .bool false) (want_none) rfl (q_pickK false rfl c_2 rfl) ?_
      refine HO.val (v := .bool false) (want_none) rfl (q_move rfl) ?_
      refine HO.past (past_some rfl rfl) rfl ?_
      refine HO.past (past_some rfl rfl) rfl ?_
      refine HO.past (past_some rfl rfl) rfl ?_
      refine HO.past (past_some rfl rfl) rfl ?_
      refine HO.val (v := .bool false) (want_none) rfl (q_pick rfl rfl) ?_
      refine HO.val (v := .bool false) (want_none) rfl (q_move rfl) ?_
      refine HO.past (past_some rfl rfl) rfl ?_
      refine HO.past (past_some rfl rfl) rfl ?_
      refine HO.past (past_some rfl rfl) rfl ?_
      refine HO.val (v := .bool false) (want_none) rfl (q_pick rfl rfl) ?_
      refine HO.val (v := .bool false) (want_none) rfl (q_move rfl) ?_
      refine HO.past (past_some rfl rfl) rfl ?_
      refine HO.val (v := .bool false) (want_none) rfl (q_pick rfl rfl) ?_
      refine HO.val (v := .bool false) (want_none) rfl (q_move rfl) ?_
      refine HO.past (past_some rfl rfl) rfl ?_
      refine HO.past (past_some rfl rfl) rfl ?_
      refine HO.past (past_some rfl rfl) rfl ?_
      refine HO.val (v := .bool false) (want_none) rfl (q_pick rfl rfl) ?_
      refine HO.val (v := .bool false) (want_none) rfl (q_assign rfl) ?_
      refine HO.nil (thenQ_normal (?_))
      refine HW.ret (?_)
      refine ⟨.inr rfl, .bool false, res1 rfl (rt rfl), ?_⟩
      replace hS : St F_3 (fr) h_7 := hS.perm2 [] 2 rfl rfl
      exact ⟨F_3, false, rfl, hK, hS, hG_0, hG_1, hE_gvS, hG_2, hE_gvR, hG_5, hG_7, hM⟩
  · replace hM := hM.2 (of_decide_eq_false c_1)
    refine HO.past (past_by rfl rfl c_1) rfl ?_
    refine HO.past (past_by rfl rfl c_1) rfl ?_
    refine HO.val (v := .bool false) (want_none) rfl (q_pickK false rfl c_1 rfl) ?_
    refine HO.val (v := .bool false) (want_none) rfl (q_move rfl) ?_
    refine HO.past (past_some rfl rfl) rfl ?_
    refine HO.past (past_some rfl rfl) rfl ?_
    refine HO.past (past_some rfl rfl) rfl ?_
    refine HO.past (past_some rfl rfl) rfl ?_
    refine HO.val (v := .bool false) (want_none) rfl (q_pick rfl rfl) ?_
    refine HO.val (v := .bool false) (want_none) rfl (q_move rfl) ?_
    refine HO.past (past_some rfl rfl) rfl ?_
    refine HO.past (past_some rfl rfl) rfl ?_
    refine HO.past (past_some rfl rfl) rfl ?_
    refine HO.past (past_some rfl rfl) rfl ?_
    refine HO.val (v := .bool false) (want_none) rfl (q_pick rfl rfl) ?_
    refine HO.val (v := .bool false) (want_none) rfl (q_move rfl) ?_
    refine HO.past (past_some rfl rfl) rfl ?_
    refine HO.past (past_some rfl rfl) rfl ?_
    refine HO.past (past_some rfl rfl) rfl ?_
    refine HO.val (v := .bool false) (want_none) rfl (q_pick rfl rfl) ?_
    refine HO.val (v := .bool false) (want_none) rfl (q_move rfl) ?_
    refine HO.past (past_some rfl rfl) rfl ?_
    refine HO.val (v := .bool false) (want_none) rfl (q_pick rfl rfl) ?_
    refine HO.val (v := .bool false) (want_none) rfl (q_move rfl) ?_
    refine HO.past (past_some rfl rfl) rfl ?_
    refine HO.past (past_some rfl rfl) rfl ?_
    refine HO.past (past_some rfl rfl) rfl ?_
    refine HO.val (v := .bool false) (want_none) rfl (q_pick rfl rfl) ?_
    refine HO.val (v := .bool false) (want_none) rfl (q_assign rfl) ?_
    refine HO.nil (thenQ_normal (?_))
    refine HW.ret (?_)
    refine ⟨.inr rfl, .bool false, res1 rfl (rt rfl), ?_⟩
    replace hS : St F_3 (fr) h_7 := hS.perm2 [] 2 rfl rfl
    exact ⟨F_3, false, rfl, hK, hS, hG_0, hG_1, hE_gvS, hG_2, hE_gvR, hG_5, hG_7, hM⟩

def law03_AddrReads_W (s1 : Str) (Q : Bool → Prop) : Prop :=
  law01_Cut_W s1 20 (fun r_2 => addr_Read_W r_2 (fun r0_1 r1_1 => ref03_Read_W r_2 (fun r0_2 r1_2 => ((r0_1 : T_api_Addr) = r0_2 → (((decide (r1_1 = 0)) == r1_2) = true → (r1_2 = true → addr_Bytes_W r0_1 (fun r_3 => ((r_3 : Str) = r_2 → law03_lives_W  (fun r_4 => Q r_4)) ∧ (¬ ((r_3 : Str) = r_2) → Q false))) ∧ (r1_2 = false → (r1_1 = 2 → law03_lives_W  (fun r_5 => Q r_5)) ∧ (¬ (r1_1 = 2) → Q false))) ∧ (((decide (r1_1 = 0)) == r1_2) = false → Q false)) ∧ (¬ ((r0_1 : T_api_Addr) = r0_2) → Q false))))
set_option maxHeartbeats 40000000 in
set_option maxRecDepth 100000 in
theorem law03_AddrReads_walk {F : Fz} {fr : List Ow} {h0 : Heap} (s1 : Str) (gm : Int) (gvS : Value) (gbS : Bool) (gvR : Value) (gbR : Bool) (hS : St F (fr) h0) (hG_0 : RoF (Ow.box 0 3 #[.int .i64 gm]) F h0) (hG_1 : RoF (Ow.box 1 64 #[gvS]) F h0) (hE_gvS : ErrF gbS gvS F h0) (hG_2 : RoF (Ow.box 2 64 #[gvR]) F h0) (hE_gvR : ErrF gbR gvR F h0) (hG_5 : RoF (Ow.box 5 130 (tab10 ()).toArray) F h0) (hG_7 : RoF (Ow.box 7 136 (arrCells tab64).toArray) F h0) (hD : DM.on = false) {Q : Bool → Prop} (hM : law03_AddrReads_W s1 Q) :
    HC Tryd.prog 3 #[.string (bs s1)] h0 fun u h' => ∃ (F' : Fz) (r_1 : Bool), u = .bool r_1 ∧ Kp F h0 F' h' ∧ St F' (fr) h' ∧ (RoF (Ow.box 0 3 #[.int .i64 gm]) F' h') ∧ (RoF (Ow.box 1 64 #[gvS]) F' h') ∧ (ErrF gbS gvS F' h') ∧ (RoF (Ow.box 2 64 #[gvR]) F' h') ∧ (ErrF gbR gvR F' h') ∧ (RoF (Ow.box 5 130 (tab10 ()).toArray) F' h') ∧ (RoF (Ow.box 7 136 (arrCells tab64).toArray) F' h') ∧ Q r_1 := by
  unfold law03_AddrReads_W at hM
  have hK := Kp.refl F h0
  refine HC.of_HW (n := 48) Tryd.func3 rfl rfl (Nat.le_of_ble_eq_true rfl) ?_
  refine HW.seq ?_
  refine HW.region ?_
  refine HO.val (v := .bool false) (want_none) rfl (q_assign rfl) ?_
  refine HO.nil (thenQ_normal (?_))
  refine HW.seq ?_
  refine HW.region ?_
  refine HO.val (v := .string (bs s1)) (want_none) rfl (q_move rfl) ?_
  refine HO.call (want_none) rfl (ec en_7 rfl rfl) (law01_Cut_walk (fr := (fr)) s1 20 hS hM) ?_
  rintro _ h_1 ⟨F_1, r_2, rfl, hk, hS, hM⟩
  replace hK := hK.trans hk
  replace hG_0 := hG_0.kp hk
  replace hG_1 := hG_1.kp hk
  replace hE_gvS := hE_gvS.kp hk
  replace hG_2 := hG_2.kp hk
  replace hE_gvR := hE_gvR.kp hk
  replace hG_5 := hG_5.kp hk
  replace hG_7 := hG_7.kp hk
  refine HO.val (v := .string (bs r_2)) (want_none) rfl (q_assign rfl) ?_
  refine HO.nil (thenQ_normal (?_))
  refine HW.seq ?_
  refine HW.region ?_
  refine HO.val (v := .string (bs r_2)) (want_none) rfl (q_move rfl) ?_
  refine HO.call (want_none) rfl (ec en_8 rfl rfl) (addr_Read_walk (fr := (fr)) r_2 hS hM) ?_
  rintro _ h_2 ⟨F_2, r0_1, r1_1, rfl, hk, hS, hM⟩
  replace hK := hK.trans hk
  replace hG_0 := hG_0.kp hk
  replace hG_1 := hG_1.kp hk
  replace hE_gvS := hE_gvS.kp hk
  replace hG_2 := hG_2.kp hk
  replace hE_gvR := hE_gvR.kp hk
  replace hG_5 := hG_5.kp hk
  replace hG_7 := hG_7.kp hk
  refine HO.val (v := .tuple #[.agg (e_api_Addr r0_1).toArray, .int .i64 r1_1]) (want_none) rfl (q_move rfl) ?_
  refine HO.val (v := .agg (e_api_Addr r0_1).toArray) (want_none) rfl (q_extract rfl rfl) ?_
  refine HO.val (v := .int .i64 r1_1) (want_none) rfl (q_extract rfl rfl) ?_
  refine HO.eff (want_none) rfl (st_alloc (c := (e_api_Addr (false, (default : Ba 16))).toArray) hS tz_25 rfl) ?_
  rintro _ h_3 ⟨b_1, rfl, hS, hk⟩
  replace hK := hK.trans hk
  replace hG_0 := hG_0.kp hk
  replace hG_1 := hG_1.kp hk
  replace hE_gvS := hE_gvS.kp hk
  replace hG_2 := hG_2.kp hk
  replace hE_gvR := hE_gvR.kp hk
  replace hG_5 := hG_5.kp hk
  replace hG_7 := hG_7.kp hk
  refine HO.sto (want_none) rfl (st_storeAgg (c' := (e_api_Addr r0_1).toArray) hS (i := 0) rfl ta_25 rfl rfl rfl (one_e_api_Addr _) (Nat.le_of_ble_eq_true rfl) rfl) ?_
  rintro h_4 ⟨hS, hk⟩
  replace hS : St F_2 (Ow.box b_1 25 (e_api_Addr r0_1).toArray :: fr) h_4 := hS
  replace hK := hK.trans hk
  replace hG_0 := hG_0.kp hk
  replace hG_1 := hG_1.kp hk
  replace hE_gvS := hE_gvS.kp hk
  replace hG_2 := hG_2.kp hk
  replace hE_gvR := hE_gvR.kp hk
  replace hG_5 := hG_5.kp hk
  replace hG_7 := hG_7.kp hk
  refine HO.val (v := .int .i64 r1_1) (want_none) rfl (q_assign rfl) ?_
  refine HO.nil (thenQ_normal (?_))
  refine HW.seq ?_
  refine HW.region ?_
  refine HO.val (v := .string (bs r_2)) (want_none) rfl (q_move rfl) ?_
  refine HO.call (want_none) rfl (ec en_9 rfl rfl) (ref03_Read_walk (fr := (Ow.box b_1 25 (e_api_Addr r0_1).toArray :: fr)) r_2 hS hM) ?_
  rintro _ h_5 ⟨F_3, r0_2, r1_2, rfl, hk, hS, hM⟩
  replace hK := hK.trans hk
  replace hG_0 := hG_0.kp hk
  replace hG_1 := hG_1.kp hk
  replace hE_gvS := hE_gvS.kp hk
  replace hG_2 := hG_2.kp hk
  replace hE_gvR := hE_gvR.kp hk
  replace hG_5 := hG_5.kp hk
  replace hG_7 := hG_7.kp hk
  refine HO.val (v := .tuple #[.agg (e_api_Addr r0_2).toArray, .bool r1_2]) (want_none) rfl (q_move rfl) ?_
  refine HO.val (v := .agg (e_api_Addr r0_2).toArray) (want_none) rfl (q_extract rfl rfl) ?_
  refine HO.val (v := .bool r1_2) (want_none) rfl (q_extract rfl rfl) ?_
  refine HO.eff (want_none) rfl (st_alloc (c := (e_api_Addr (false, (default : Ba 16))).toArray) hS tz_25 rfl) ?_
  rintro _ h_6 ⟨b_2, rfl, hS, hk⟩
  replace hK := hK.trans hk
  replace hG_0 := hG_0.kp hk
  replace hG_1 := hG_1.kp hk
  replace hE_gvS := hE_gvS.kp hk
  replace hG_2 := hG_2.kp hk
  replace hE_gvR := hE_gvR.kp hk
  replace hG_5 := hG_5.kp hk
  replace hG_7 := hG_7.kp hk
  refine HO.sto (want_none) rfl (st_storeAgg (c' := (e_api_Addr r0_2).toArray) hS (i := 0) rfl ta_25 rfl rfl rfl (one_e_api_Addr _) (Nat.le_of_ble_eq_true rfl) rfl) ?_
  rintro h_7 ⟨hS, hk⟩
  replace hS : St F_3 (Ow.box b_2 25 (e_api_Addr r0_2).toArray :: Ow.box b_1 25 (e_api_Addr r0_1).toArray :: fr) h_7 := hS
  replace hK := hK.trans hk
  replace hG_0 := hG_0.kp hk
  replace hG_1 := hG_1.kp hk
  replace hE_gvS := hE_gvS.kp hk
  replace hG_2 := hG_2.kp hk
  replace hE_gvR := hE_gvR.kp hk
  replace hG_5 := hG_5.kp hk
  replace hG_7 := hG_7.kp hk
  refine HO.val (v := .bool r1_2) (want_none) rfl (q_assign rfl) ?_
  refine HO.nil (thenQ_normal (?_))
  refine HW.seq ?_
  refine HW.region ?_
  refine HO.val (v := .agg (e_api_Addr r0_1).toArray) (want_none) rfl (q_loadAgg (cs := (e_api_Addr r0_1)) ta_25 rfl rfl (Blk.cells (k := 17) (hS.box 1 rfl) rfl)) ?_
  refine HO.val (v := .agg (e_api_Addr r0_2).toArray) (want_none) rfl (q_loadAgg (cs := (e_api_Addr r0_2)) ta_25 rfl rfl (Blk.cells (k := 17) (hS.box 0 rfl) rfl)) ?_
  refine HO.val (v := .bool (decide ((r0_1 : T_api_Addr) = r0_2))) (want_none) rfl (q_eqlAgg (a := r0_1) (b := r0_2) (fun a b w => teq_25 9997 a b w) (by kernel_rfl) rfl rfl rfl rfl) ?_
  refine HO.val (v := .bool (decide ((r0_1 : T_api_Addr) = r0_2))) (want_none) rfl (q_move rfl) ?_
  rcases Bool.eq_false_or_eq_true (decide ((r0_1 : T_api_Addr) = r0_2)) with c_1 | c_1
  · replace hM := hM.1 (of_decide_eq_true c_1)
    refine HO.val (v := .int .i64 r1_1) (want_by rfl rfl c_1) rfl (q_move rfl) ?_
    refine HO.val (v := .bool (decide (r1_1 = 0))) (want_by rfl rfl c_1) rfl (q_eql rfl rfl) ?_
    refine HO.val (v := .bool r1_2) (want_by rfl rfl c_1) rfl (q_move rfl) ?_
    refine HO.val (v := .bool ((decide (r1_1 = 0)) == r1_2)) (want_by rfl rfl c_1) rfl (q_eqlB Tryd.underlying4 rfl rfl) ?_
    refine HO.val (v := .bool ((decide (r1_1 = 0)) == r1_2)) (want_none) rfl (q_pickK true rfl c_1 rfl) ?_
    refine HO.val (v := .bool ((decide (r1_1 = 0)) == r1_2)) (want_none) rfl (q_move rfl) ?_
    rcases Bool.eq_false_or_eq_true ((decide (r1_1 = 0)) == r1_2) with c_2 | c_2
    · replace hM := hM.1 c_2
      refine HO.val (v := .bool r1_2) (want_by rfl rfl c_2) rfl (q_move rfl) ?_
      refine HO.val (v := .bool r1_2) (want_by rfl rfl c_2) rfl (q_move rfl) ?_
      rcases Bool.eq_false_or_eq_true r1_2 with c_3 | c_3
      · replace hM := hM.1 c_3
        refine HO.past (past_by rfl rfl c_3) rfl ?_
        refine HO.past (past_by rfl rfl c_3) rfl ?_
        refine HO.val (v := .bool true) (want_by rfl rfl c_2) rfl (q_pickK true rfl c_3 rfl) ?_
        refine HO.val (v := .bool true) (want_none) rfl (q_pickK true rfl c_2 rfl) ?_
        refine HO.val (v := .bool true) (want_none) rfl (q_move rfl) ?_
        refine HO.val (v := .bool r1_2) (want_some rfl rfl) rfl (q_move rfl) ?_
        refine HO.val (v := .bool (!r1_2)) (want_some rfl rfl) rfl (q_not rfl) ?_
        refine HO.val (v := .bool (!r1_2)) (want_some rfl rfl) rfl (q_move rfl) ?_
        refine HO.val (v := .agg (e_api_Addr r0_1).toArray) (want_by rfl rfl (by rw [c_3] <;> rfl)) rfl (q_loadAgg (cs := (e_api_Addr r0_1)) ta_25 rfl rfl (Blk.cells (k := 17) (hS.box 1 rfl) rfl)) ?_
        refine HO.call (want_by rfl rfl (by rw [c_3] <;> rfl)) rfl (ec en_10 rfl rfl) (addr_Bytes_walk (fr := (Ow.box b_2 25 (e_api_Addr r0_2).toArray :: Ow.box b_1 25 (e_api_Addr r0_1).toArray :: fr)) r0_1 hS hM) ?_
        rintro _ h_8 ⟨F_4, r_3, rfl, hk, hS, hM⟩
        replace hK := hK.trans hk
        replace hG_0 := hG_0.kp hk
        replace hG_1 := hG_1.kp hk
        replace hE_gvS := hE_gvS.kp hk
        replace hG_2 := hG_2.kp hk
        replace hE_gvR := hE_gvR.kp hk
        replace hG_5 := hG_5.kp hk
        replace hG_7 := hG_7.kp hk
        refine HO.val (v := .string (bs r_2)) (want_by rfl rfl (by rw [c_3] <;> rfl)) rfl (q_move rfl) ?_
        refine HO.val (v := .bool (decide ((r_3 : Str) = r_2))) (want_by rfl rfl (by rw [c_3] <;> rfl)) rfl (q_eqlT rfl rfl) ?_
        refine HO.val (v := .bool (decide ((r_3 : Str) = r_2))) (want_some rfl rfl) rfl (q_pickK false rfl (by rw [c_3] <;> rfl) rfl) ?_
        refine HO.val (v := .bool (decide ((r_3 : Str) = r_2))) (want_none) rfl (q_pick rfl rfl) ?_
        refine HO.val (v := .bool (decide ((r_3 : Str) = r_2))) (want_none) rfl (q_move rfl) ?_
        rcases Bool.eq_false_or_eq_true (decide ((r_3 : Str) = r_2)) with c_4 | c_4
        · replace hM := hM.1 (of_decide_eq_true c_4)
          refine HO.call (want_by rfl rfl c_4) rfl (ec en_11 rfl rfl) (law03_lives_walk (fr := (Ow.box b_2 25 (e_api_Addr r0_2).toArray :: Ow.box b_1 25 (e_api_Addr r0_1).toArray :: fr)) gm gvS gbS gvR gbR hS hG_0 hG_1 hE_gvS hG_2 hE_gvR hG_5 hG_7 hD hM) ?_
          rintro _ h_9 ⟨F_5, r_4, rfl, hk, hS, _, _, _, _, _, _, _, hM⟩
          replace hK := hK.trans hk
          replace hG_0 := hG_0.kp hk
          replace hG_1 := hG_1.kp hk
          replace hE_gvS := hE_gvS.kp hk
          replace hG_2 := hG_2.kp hk
          replace hE_gvR := hE_gvR.kp hk
          replace hG_5 := hG_5.kp hk
          replace hG_7 := hG_7.kp hk
          refine HO.val (v := .bool r_4) (want_none) rfl (q_pickK true rfl c_4 rfl) ?_
          refine HO.val (v := .bool r_4) (want_none) rfl (q_assign rfl) ?_
          refine HO.nil (thenQ_normal (?_))
          refine HW.ret (?_)
          refine ⟨.inr rfl, .bool r_4, res1 rfl (rt rfl), ?_⟩
          replace hS : St F_5 (fr) h_9 := hS.perm2 [] 2 rfl rfl
          exact ⟨F_5, r_4, rfl, hK, hS, hG_0, hG_1, hE_gvS, hG_2, hE_gvR, hG_5, hG_7, hM⟩
        · replace hM := hM.2 (of_decide_eq_false c_4)
          refine HO.past (past_by rfl rfl c_4) rfl ?_
          refine HO.val (v := .bool false) (want_none) rfl (q_pickK false rfl c_4 rfl) ?_
          refine HO.val (v := .bool false) (want_none) rfl (q_assign rfl) ?_
          refine HO.nil (thenQ_normal (?_))
          refine HW.ret (?_)
          refine ⟨.inr rfl, .bool false, res1 rfl (rt rfl), ?_⟩
          replace hS : St F_4 (fr) h_8 := hS.perm2 [] 2 rfl rfl
          exact ⟨F_4, false, rfl, hK, hS, hG_0, hG_1, hE_gvS, hG_2, hE_gvR, hG_5, hG_7, hM⟩
      · replace hM := hM.2 c_3
        refine HO.val (v := .int .i64 r1_1) (want_by rfl rfl c_3) rfl (q_move rfl) ?_
        refine HO.val (v := .bool (decide (r1_1 = 2))) (want_by rfl rfl c_3) rfl (q_eql rfl rfl) ?_
        refine HO.val (v := .bool (decide (r1_1 = 2))) (want_by rfl rfl c_2) rfl (q_pickK false rfl c_3 rfl) ?_
        refine HO.val (v := .bool (decide (r1_1 = 2))) (want_none) rfl (q_pickK true rfl c_2 rfl) ?_
        refine HO.val (v := .bool (decide (r1_1 = 2))) (want_none) rfl (q_move rfl) ?_
        rcases Bool.eq_false_or_eq_true (decide (r1_1 = 2)) with c_5 | c_5
        · replace hM := hM.1 (of_decide_eq_true c_5)
          refine HO.val (v := .bool r1_2) (want_by rfl rfl c_5) rfl (q_move rfl) ?_
          refine HO.val (v := .bool (!r1_2)) (want_by rfl rfl c_5) rfl (q_not rfl) ?_
          refine HO.val (v := .bool (!r1_2)) (want_by rfl rfl c_5) rfl (q_move rfl) ?_
          refine HO.past (past_by rfl rfl (by rw [c_3] <;> rfl)) rfl ?_
          refine HO.past (past_by rfl rfl (by rw [c_3] <;> rfl)) rfl ?_
          refine HO.past (past_by rfl rfl (by rw [c_3] <;> rfl)) rfl ?_
          refine HO.past (past_by rfl rfl (by rw [c_3] <;> rfl)) rfl ?_
          refine HO.val (v := .bool true) (want_by rfl rfl c_5) rfl (q_pickK true rfl (by rw [c_3] <;> rfl) rfl) ?_
          refine HO.val (v := .bool true) (want_none) rfl (q_pickK true rfl c_5 rfl) ?_
          refine HO.val (v := .bool true) (want_none) rfl (q_move rfl) ?_
          refine HO.call (want_some rfl rfl) rfl (ec en_11 rfl rfl) (law03_lives_walk (fr := (Ow.box b_2 25 (e_api_Addr r0_2).toArray :: Ow.box b_1 25 (e_api_Addr r0_1).toArray :: fr)) gm gvS gbS gvR gbR hS hG_0 hG_1 hE_gvS hG_2 hE_gvR hG_5 hG_7 hD hM) ?_
          rintro _ h_10 ⟨F_6, r_5, rfl, hk, hS, _, _, _, _, _, _, _, hM⟩
          replace hK := hK.trans hk
          replace hG_0 := hG_0.kp hk
          replace hG_1 := hG_1.kp hk
          replace hE_gvS := hE_gvS.kp hk
          replace hG_2 := hG_2.kp hk
          replace hE_gvR := hE_gvR.kp hk
          replace hG_5 := hG_5.kp hk
          replace hG_7 := hG_7.kp hk
          refine HO.val (v := .bool r_5) (want_none) rfl (q_pick rfl rfl) ?_
          refine HO.val (v := .bool r_5) (want_none) rfl (q_assign rfl) ?_
          refine HO.nil (thenQ_normal (?_))
          refine HW.ret (?_)
          refine ⟨.inr rfl, .bool r_5, res1 rfl (rt rfl), ?_⟩
          replace hS : St F_6 (fr) h_10 := hS.perm2 [] 2 rfl rfl
          exact ⟨F_6, r_5, rfl, hK, hS, hG_0, hG_1, hE_gvS, hG_2, hE_gvR, hG_5, hG_7, hM⟩
        · replace hM := hM.2 (of_decide_eq_false c_5)
          refine HO.past (past_by rfl rfl c_5) rfl ?_
          refine HO.past (past_by rfl rfl c_5) rfl ?_
          refine HO.past (past_by rfl rfl c_5) rfl ?_
          refine HO.past (past_undef rfl rfl) rfl ?_
          refine HO.past (past_undef rfl rfl) rfl ?_
          refine HO.past (past_undef rfl rfl) rfl ?_
          refine HO.past (past_undef rfl rfl) rfl ?_
          refine HO.past (past_by rfl rfl c_5) rfl ?_
          refine HO.val (v := .bool false) (want_none) rfl (q_pickK false rfl c_5 rfl) ?_
          refine HO.val (v := .bool false) (want_none) rfl (q_move rfl) ?_
          refine HO.past (past_some rfl rfl) rfl ?_
          refine HO.val (v := .bool false) (want_none) rfl (q_pick rfl rfl) ?_
          refine HO.val (v := .bool false) (want_none) rfl (q_assign rfl) ?_
          refine HO.nil (thenQ_normal (?_))
          refine HW.ret (?_)
          refine ⟨.inr rfl, .bool false, res1 rfl (rt rfl), ?_⟩
          replace hS : St F_3 (fr) h_7 := hS.perm2 [] 2 rfl rfl
          exact ⟨F_3, false, rfl, hK, hS, hG_0, hG_1, hE_gvS, hG_2, hE_gvR, hG_5, hG_7, hM⟩
    · replace hM := hM.2 c_2
      refine HO.past (past_by rfl rfl c_2) rfl ?_
      refine HO.past (past_by rfl rfl c_2) rfl ?_
      refine HO.past (past_undef rfl rfl) rfl ?_
      refine HO.past (past_undef rfl rfl) rfl ?_
      refine HO.past (past_by rfl rfl c_2) rfl ?_
      refine HO.val (v := .bool false) (want_none) rfl (q_pickK false rfl c_2 rfl) ?_
      refine HO.val (v := .bool false) (want_none) rfl (q_move rfl) ?_
      refine HO.past (past_some rfl rfl) rfl ?_
      refine HO.past (past_some rfl rfl) rfl ?_
      refine HO.past (past_some rfl rfl) rfl ?_
      refine HO.past (past_undef rfl rfl) rfl ?_
      refine HO.past (past_undef rfl rfl) rfl ?_
      refine HO.past (past_undef rfl rfl) rfl ?_
      refine HO.past (past_undef rfl rfl) rfl ?_
      refine HO.past (past_some rfl rfl) rfl ?_
      refine HO.val (v := .bool false) (want_none) rfl (q_pick rfl rfl) ?_
      refine HO.val (v := .bool false) (want_none) rfl (q_move rfl) ?_
      refine HO.past (past_some rfl rfl) rfl ?_
      refine HO.val (v := .bool false) (want_none) rfl (q_pick rfl rfl) ?_
      refine HO.val (v := .bool false) (want_none) rfl (q_assign rfl) ?_
      refine HO.nil (thenQ_normal (?_))
      refine HW.ret (?_)
      refine ⟨.inr rfl, .bool false, res1 rfl (rt rfl), ?_⟩
      replace hS : St F_3 (fr) h_7 := hS.perm2 [] 2 rfl rfl
      exact ⟨F_3, false, rfl, hK, hS, hG_0, hG_1, hE_gvS, hG_2, hE_gvR, hG_5, hG_7, hM⟩
  · replace hM := hM.2 (of_decide_eq_false c_1)
    refine HO.past (past_by rfl rfl c_1) rfl ?_
    refine HO.past (past_by rfl rfl c_1) rfl ?_
    refine HO.past (past_by rfl rfl c_1) rfl ?_
    refine HO.past (past_by rfl rfl c_1) rfl ?_
    refine HO.val (v := .bool false) (want_none) rfl (q_pickK false rfl c_1 rfl) ?_
    refine HO.val (v := .bool false) (want_none) rfl (q_move rfl) ?_
    refine HO.past (past_some rfl rfl) rfl ?_
    refine HO.past (past_some rfl rfl) rfl ?_
    refine HO.past (past_undef rfl rfl) rfl ?_
    refine HO.past (past_undef rfl rfl) rfl ?_
    refine HO.past (past_some rfl rfl) rfl ?_
    refine HO.val (v := .bool false) (want_none) rfl (q_pick rfl rfl) ?_
    refine HO.val (v := .bool false) (want_none) rfl (q_move rfl) ?_
    refine HO.past (past_some rfl rfl) rfl ?_
    refine HO.past (past_some rfl rfl) rfl ?_
    refine HO.past (past_some rfl rfl) rfl ?_
    refine HO.past (past_undef rfl rfl) rfl ?_
    refine HO.past (past_undef rfl rfl) rfl ?_
    refine HO.past (past_undef rfl rfl) rfl ?_
    refine HO.past (past_undef rfl rfl) rfl ?_
    refine HO.past (past_some rfl rfl) rfl ?_
    refine HO.val (v := .bool false) (want_none) rfl (q_pick rfl rfl) ?_
    refine HO.val (v := .bool false) (want_none) rfl (q_move rfl) ?_
    refine HO.past (past_some rfl rfl) rfl ?_
    refine HO.val (v := .bool false) (want_none) rfl (q_pick rfl rfl) ?_
    refine HO.val (v := .bool false) (want_none) rfl (q_assign rfl) ?_
    refine HO.nil (thenQ_normal (?_))
    refine HW.ret (?_)
    refine ⟨.inr rfl, .bool false, res1 rfl (rt rfl), ?_⟩
    replace hS : St F_3 (fr) h_7 := hS.perm2 [] 2 rfl rfl
    exact ⟨F_3, false, rfl, hK, hS, hG_0, hG_1, hE_gvS, hG_2, hE_gvR, hG_5, hG_7, hM⟩

def ref03_Own_l1 (a : T_api_Addr) (Q : T_api_Addr → Prop) (K_1 : (Ba 16) → Int → Prop) (a_1_1 : Ba 16) (i_1 : Int) : Prop :=
  (i_1 < 16 → ((!a.1) = true → ((0 : Int) ≤ i_1 ∧ i_1 < 16) ∧ ((I64 (i_1 + 1)) ∧ (K_1 (setB a_1_1 i_1 0) (i_1 + 1)))) ∧ ((!a.1) = false → (I64 (i_1 + 1)) ∧ (K_1 a_1_1 (i_1 + 1)))) ∧ (¬ (i_1 < 16) → Q (a.1, a_1_1))
def ref03_Own_W (a : T_api_Addr) (Q : T_api_Addr → Prop) : Prop :=
  loopW (fun (K_1 : (Ba 16 × Int) → Prop) (s : Ba 16 × Int) => ref03_Own_l1 a Q (fun a_1_1 i_1 => K_1 (a_1_1, i_1)) s.1 s.2) (a.2, 4)
set_option maxHeartbeats 40000000 in
set_option maxRecDepth 100000 in
theorem ref03_Own_walk {F : Fz} {fr : List Ow} {h0 : Heap} (a : T_api_Addr) (hS : St F (fr) h0)  {Q : T_api_Addr → Prop} (hM : ref03_Own_W a Q) :
    HC Tryd.prog 12 #[.agg (e_api_Addr a).toArray] h0 fun u h' => ∃ (F' : Fz) (r_1 : T_api_Addr), u = .agg (e_api_Addr r_1).toArray ∧ Kp F h0 F' h' ∧ St F' (fr) h' ∧ Q r_1 := by
  unfold ref03_Own_W at hM
  have hK := Kp.refl F h0
  refine HC.of_HW (n := 15) Tryd.func12 rfl rfl (Nat.le_of_ble_eq_true rfl) ?_
  refine HW.seq ?_
  refine HW.region ?_
  refine HO.eff (want_none) rfl (st_box (c := (e_api_Addr a).toArray) (k' := 17) hS rfl rfl) ?_
  rintro _ h_1 ⟨b_1, rfl, hS, hk⟩
  replace hK := hK.trans hk
  refine HO.eff (want_none) rfl (st_alloc (c := (e_api_Addr (false, (default : Ba 16))).toArray) hS tz_25 rfl) ?_
  rintro _ h_2 ⟨b_2, rfl, hS, hk⟩
  replace hK := hK.trans hk
  refine HO.nil (thenQ_normal (?_))
  refine HW.seq ?_
  refine HW.seq ?_
  refine HW.region ?_
  refine HO.val (v := .int .i64 4) (want_none) rfl (q_assign rfl) ?_
  refine HO.nil (thenQ_normal (?_))
  refine HW.block ?_
  obtain ⟨I_1, m_1, hI_1, hR_1⟩ := hM
  replace hS : St F (Ow.box b_1 25 (e_api_Addr a).toArray :: Ow.box b_2 25 (e_api_Addr (false, (default : Ba 16))).toArray :: fr) h_2 := hS.perm2 [1, 0] 2 rfl rfl
  refine HW.loop (S := Ba 16 × Int) (fun s f h => match s with | (a_1_1, i_1) => ∃ (F' : Fz), f 1 = .pointer (some ⟨b_1, 0, none⟩) ∧ f 2 = .pointer (some ⟨b_2, 0, none⟩) ∧ f 3 = .int .i64 i_1 ∧ Kp F h0 F' h ∧ St F' (Ow.box b_1 25 (e_api_Addr (a.1, a_1_1)).toArray :: Ow.box b_2 25 (e_api_Addr (false, (default : Ba 16))).toArray :: fr) h ∧ I_1 (a_1_1, i_1)) m_1 (a.2, 4) ⟨F, rfl, rfl, rfl, hK, hS, hI_1⟩ ?_
  rintro ⟨a_1_1, i_1⟩ f_1 h_3 ⟨F_1, e1, e2, e3, hK, hS, hI0⟩
  obtain ⟨K_1, hKe_1⟩ : ∃ K : (Ba 16) → Int → Prop, K = fun a_1_1' i_1' => I_1 (a_1_1', i_1') ∧ m_1 (a_1_1', i_1') < m_1 (a_1_1, i_1) := ⟨_, rfl⟩
  have hM : ref03_Own_l1 a Q K_1 a_1_1 i_1 := by rw [hKe_1]; exact hR_1 (a_1_1, i_1) hI0
  unfold ref03_Own_l1 at hM
  refine HW.fr [(1, .pointer (some ⟨b_1, 0, none⟩)), (2, .pointer (some ⟨b_2, 0, none⟩)), (3, .int .i64 i_1)] ⟨e1, e2, e3, trivial⟩ ?_
  refine HW.seq ?_
  refine HW.seq ?_
  refine HW.region ?_
  refine HO.val (v := .int .i64 i_1) (want_none) rfl (q_move rfl) ?_
  refine HO.val (v := .bool (decide (i_1 < 16))) (want_none) rfl (q_lss rfl rfl) ?_
  refine HO.nil (thenQ_normal (?_))
  refine HW.cond (decide (i_1 < 16)) rfl (fun c_1 => ?_) (fun c_1 => ?_)
  · replace hM := hM.1 (of_decide_eq_true c_1)
    refine HW.skip (thenQ_normal (?_))
    refine HW.seq ?_
    refine HW.block ?_
    refine HW.seq ?_
    refine HW.region ?_
    refine HO.val (v := .pointer (some ⟨b_1, 0, none⟩)) (want_none) rfl (q_fieldAddr fa_25_0 rfl rfl) ?_
    refine HO.val (v := .bool a.1) (want_none) rfl (q_load to_4 rfl (Blk.cell (hS.box 0 rfl) rfl)) ?_
    refine HO.val (v := .bool (!a.1)) (want_none) rfl (q_not rfl) ?_
    refine HO.nil (thenQ_normal (?_))
    refine HW.cond (!a.1) rfl (fun c_2 => ?_) (fun c_2 => ?_)
    · replace hM := hM.1 c_2
      refine HW.region ?_
      refine HO.val (v := .int .i64 i_1) (want_none) rfl (q_move rfl) ?_
      refine HO.val (v := .pointer (some ⟨b_1, 1, none⟩)) (want_none) rfl (q_fieldAddr fa_25_1 rfl rfl) ?_
      obtain ⟨ho_1, hM⟩ := hM
      refine HO.val (v := .pointer (some ⟨b_1, 1 + (i_1).toNat, none⟩)) (want_none) rfl (q_idxA (o := 1) (t := i_1) tr_23 rfl rfl ho_1) ?_
      refine HO.sto (want_none) rfl (st_storeSeg (n := 16) (o := 1) (X := a_1_1) (t := i_1) (u := 0) (c' := (e_api_Addr (a.1, setB a_1_1 i_1 0)).toArray) hS (i := 0) rfl to_5 rfl rfl ho_1 ⟨by decide, by decide⟩ rfl rfl) ?_
      rintro h_4 ⟨hS, hk⟩
      replace hS : St F_1 (Ow.box b_1 25 (e_api_Addr (a.1, setB a_1_1 i_1 0)).toArray :: Ow.box b_2 25 (e_api_Addr (false, (default : Ba 16))).toArray :: fr) h_4 := hS
      replace hK := hK.trans hk
      refine HO.nil (blockQ_normal (thenQ_normal (?_)))
      refine HW.region ?_
      refine HO.val (v := .int .i64 i_1) (want_none) rfl (q_move rfl) ?_
      obtain ⟨ho_2, hM⟩ := hM
      refine HO.val (v := .int .i64 (i_1 + 1)) (want_none) rfl (q_addN _ rfl rfl rfl ho_2.1 ho_2.2) ?_
      refine HO.val (v := .int .i64 (i_1 + 1)) (want_none) rfl (q_assign rfl) ?_
      refine HO.nil (thenQ_normal (?_))
      rw [hKe_1] at hM
      exact ⟨((setB a_1_1 i_1 0), i_1 + 1), ⟨F_1, rfl, rfl, rfl, hK, hS, hM.1⟩, hM.2⟩
    · replace hM := hM.2 c_2
      refine HW.skip (blockQ_normal (thenQ_normal (?_)))
      refine HW.region ?_
      refine HO.val (v := .int .i64 i_1) (want_none) rfl (q_move rfl) ?_
      obtain ⟨ho_3, hM⟩ := hM
      refine HO.val (v := .int .i64 (i_1 + 1)) (want_none) rfl (q_addN _ rfl rfl rfl ho_3.1 ho_3.2) ?_
      refine HO.val (v := .int .i64 (i_1 + 1)) (want_none) rfl (q_assign rfl) ?_
      refine HO.nil (thenQ_normal (?_))
      rw [hKe_1] at hM
      exact ⟨(a_1_1, i_1 + 1), ⟨F_1, rfl, rfl, rfl, hK, hS, hM.1⟩, hM.2⟩
  · replace hM := hM.2 (of_decide_eq_false c_1)
    refine HW.exit (thenQ_exit (thenQ_exit (blockQ_exit (thenQ_normal (?_)))))
    refine HW.seq ?_
    refine HW.region ?_
    refine HO.val (v := .agg (e_api_Addr (a.1, a_1_1)).toArray) (want_none) rfl (q_loadAgg (cs := (e_api_Addr (a.1, a_1_1))) ta_25 rfl rfl (Blk.cells (k := 17) (hS.box 0 rfl) rfl)) ?_
    refine HO.sto (want_none) rfl (st_storeAgg (c' := (e_api_Addr (a.1, a_1_1)).toArray) hS (i := 1) rfl ta_25 rfl rfl rfl (one_e_api_Addr _) (Nat.le_of_ble_eq_true rfl) rfl) ?_
    rintro h_5 ⟨hS, hk⟩
    replace hS : St F_1 (Ow.box b_1 25 (e_api_Addr (a.1, a_1_1)).toArray :: Ow.box b_2 25 (e_api_Addr (a.1, a_1_1)).toArray :: fr) h_5 := hS
    replace hK := hK.trans hk
    refine HO.nil (thenQ_normal (?_))
    refine HW.ret (?_)
    refine ⟨.inr rfl, .agg (e_api_Addr (a.1, a_1_1)).toArray, res1 rfl (rca (cs := (e_api_Addr (a.1, a_1_1))) ta_25 rfl rfl (Blk.cells (k := 17) (hS.box 1 rfl) rfl)), ?_⟩
    replace hS : St F_1 (fr) h_5 := hS.perm2 [] 2 rfl rfl
    exact ⟨F_1, (a.1, a_1_1), rfl, hK, hS, hM⟩

def addr_Cmp_j1 (a : T_api_Addr) (b : T_api_Addr) (Q : Int → Prop) : Prop :=
  addr_bytes_W a (fun r_2 => addr_bytes_W b (fun r_3 => Q (scmp r_2 r_3)))
def addr_Cmp_j2 (a : T_api_Addr) (b : T_api_Addr) (Q : Int → Prop) (b_3 : Bool) : Prop :=
  (b_3 = true → Q 1) ∧ (b_3 = false → ((!a.1) = true → (b.1 = true → Q (-1)) ∧ (b.1 = false → addr_Cmp_j1 a b Q)) ∧ ((!a.1) = false → addr_Cmp_j1 a b Q))
def addr_Cmp_W (a : T_api_Addr) (b : T_api_Addr) (Q : Int → Prop) : Prop :=
  (a.1 = true → addr_Cmp_j2 a b Q (!b.1)) ∧ (a.1 = false → addr_Cmp_j2 a b Q false)
set_option maxHeartbeats 40000000 in
set_option maxRecDepth 100000 in
theorem addr_Cmp_walk {F : Fz} {fr : List Ow} {h0 : Heap} (a : T_api_Addr) (b : T_api_Addr) (hS : St F (fr) h0)  {Q : Int → Prop} (hM : addr_Cmp_W a b Q) :
    HC Tryd.prog 13 #[.agg (e_api_Addr a).toArray, .agg (e_api_Addr b).toArray] h0 fun u h' => ∃ (F' : Fz) (r_1 : Int), u = .int .i64 r_1 ∧ Kp F h0 F' h' ∧ St F' (fr) h' ∧ Q r_1 := by
  unfold addr_Cmp_W at hM
  have hK := Kp.refl F h0
  refine HC.of_HW (n := 26) Tryd.func13 rfl rfl (Nat.le_of_ble_eq_true rfl) ?_
  refine HW.seq ?_
  refine HW.region ?_
  refine HO.eff (want_none) rfl (st_box (c := (e_api_Addr a).toArray) (k' := 17) hS rfl rfl) ?_
  rintro _ h_1 ⟨b_1, rfl, hS, hk⟩
  replace hK := hK.trans hk
  refine HO.eff (want_none) rfl (st_box (c := (e_api_Addr b).toArray) (k' := 17) hS rfl rfl) ?_
  rintro _ h_2 ⟨b_2, rfl, hS, hk⟩
  replace hK := hK.trans hk
  refine HO.val (v := .int .i64 0) (want_none) rfl (q_assign rfl) ?_
  refine HO.nil (thenQ_normal (?_))
  refine HW.seq_mid (fun f h => ∃ (F' : Fz), f 2 = .pointer (some ⟨b_1, 0, none⟩) ∧ f 3 = .pointer (some ⟨b_2, 0, none⟩) ∧ f 4 = .int .i64 0 ∧ Kp F h0 F' h ∧ St F' (Ow.box b_1 25 (e_api_Addr a).toArray :: Ow.box b_2 25 (e_api_Addr b).toArray :: fr) h ∧ addr_Cmp_j1 a b Q) ?_ ?_
  · refine HW.block ?_
    refine HW.seq_mid (fun f h => ∃ (F' : Fz) (b_3 : Bool), f 2 = .pointer (some ⟨b_1, 0, none⟩) ∧ f 3 = .pointer (some ⟨b_2, 0, none⟩) ∧ f 4 = .int .i64 0 ∧ f 5 = .bool b_3 ∧ Kp F h0 F' h ∧ St F' (Ow.box b_1 25 (e_api_Addr a).toArray :: Ow.box b_2 25 (e_api_Addr b).toArray :: fr) h ∧ addr_Cmp_j2 a b Q b_3) ?_ ?_
    · refine HW.region ?_
      refine HO.val (v := .pointer (some ⟨b_1, 0, none⟩)) (want_none) rfl (q_fieldAddr fa_25_0 rfl rfl) ?_
      refine HO.val (v := .bool a.1) (want_none) rfl (q_load to_4 rfl (Blk.cell (hS.box 1 rfl) rfl)) ?_
      refine HO.val (v := .bool a.1) (want_none) rfl (q_move rfl) ?_
      rcases Bool.eq_false_or_eq_true a.1 with c_1 | c_1
      · replace hM := hM.1 c_1
        refine HO.val (v := .pointer (some ⟨b_2, 0, none⟩)) (want_by rfl rfl c_1) rfl (q_fieldAddr fa_25_0 rfl rfl) ?_
        refine HO.val (v := .bool b.1) (want_by rfl rfl c_1) rfl (q_load to_4 rfl (Blk.cell (hS.box 0 rfl) rfl)) ?_
        refine HO.val (v := .bool (!b.1)) (want_by rfl rfl c_1) rfl (q_not rfl) ?_
        refine HO.val (v := .bool (!b.1)) (want_none) rfl (q_pickK true rfl c_1 rfl) ?_
        refine HO.val (v := .bool (!b.1)) (want_none) rfl (q_assign rfl) ?_
        refine HO.nil (thenQ_normal (?_))
        replace hS : St F (Ow.box b_1 25 (e_api_Addr a).toArray :: Ow.box b_2 25 (e_api_Addr b).toArray :: fr) h_2 := hS.perm2 [1, 0] 2 rfl rfl
        exact ⟨F, !b.1, rfl, rfl, rfl, rfl, hK, hS, hM⟩
      · replace hM := hM.2 c_1
        refine HO.past (past_by rfl rfl c_1) rfl ?_
        refine HO.past (past_by rfl rfl c_1) rfl ?_
        refine HO.past (past_by rfl rfl c_1) rfl ?_
        refine HO.val (v := .bool false) (want_none) rfl (q_pickK false rfl c_1 rfl) ?_
        refine HO.val (v := .bool false) (want_none) rfl (q_assign rfl) ?_
        refine HO.nil (thenQ_normal (?_))
        replace hS : St F (Ow.box b_1 25 (e_api_Addr a).toArray :: Ow.box b_2 25 (e_api_Addr b).toArray :: fr) h_2 := hS.perm2 [1, 0] 2 rfl rfl
        exact ⟨F, false, rfl, rfl, rfl, rfl, hK, hS, hM⟩
    · rintro f_1 h_3 ⟨F_1, b_3, e2, e3, e4, e5, hK, hS, hM⟩
      unfold addr_Cmp_j2 at hM
      refine HW.fr [(2, .pointer (some ⟨b_1, 0, none⟩)), (3, .pointer (some ⟨b_2, 0, none⟩)), (4, .int .i64 0), (5, .bool b_3)] ⟨e2, e3, e4, e5, trivial⟩ ?_
      refine HW.cond b_3 rfl (fun c_2 => ?_) (fun c_2 => ?_)
      · replace hM := hM.1 c_2
        refine HW.seq ?_
        refine HW.region ?_
        refine HO.val (v := .int .i64 1) (want_none) rfl (q_assign rfl) ?_
        refine HO.nil (thenQ_normal (?_))
        refine HW.ret (blockQ_ret (thenQ_ret (?_)))
        refine ⟨.inr rfl, .int .i64 1, res1 rfl (rt rfl), ?_⟩
        replace hS : St F_1 (fr) h_3 := hS.perm2 [] 2 rfl rfl
        exact ⟨F_1, 1, rfl, hK, hS, hM⟩
      · replace hM := hM.2 c_2
        refine HW.seq ?_
        refine HW.region ?_
        refine HO.val (v := .pointer (some ⟨b_1, 0, none⟩)) (want_none) rfl (q_fieldAddr fa_25_0 rfl rfl) ?_
        refine HO.val (v := .bool a.1) (want_none) rfl (q_load to_4 rfl (Blk.cell (hS.box 0 rfl) rfl)) ?_
        refine HO.val (v := .bool (!a.1)) (want_none) rfl (q_not rfl) ?_
        refine HO.val (v := .bool (!a.1)) (want_none) rfl (q_move rfl) ?_
        rcases Bool.eq_false_or_eq_true (!a.1) with c_3 | c_3
        · replace hM := hM.1 c_3
          refine HO.val (v := .pointer (some ⟨b_2, 0, none⟩)) (want_by rfl rfl c_3) rfl (q_fieldAddr fa_25_0 rfl rfl) ?_
          refine HO.val (v := .bool b.1) (want_by rfl rfl c_3) rfl (q_load to_4 rfl (Blk.cell (hS.box 1 rfl) rfl)) ?_
          refine HO.val (v := .bool b.1) (want_none) rfl (q_pickK true rfl c_3 rfl) ?_
          refine HO.val (v := .bool b.1) (want_none) rfl (q_assign rfl) ?_
          refine HO.nil (thenQ_normal (?_))
          refine HW.cond b.1 rfl (fun c_4 => ?_) (fun c_4 => ?_)
          · replace hM := hM.1 c_4
            refine HW.seq ?_
            refine HW.region ?_
            refine HO.val (v := .int .i64 (-1)) (want_none) rfl (q_assign rfl) ?_
            refine HO.nil (thenQ_normal (?_))
            refine HW.ret (blockQ_ret (thenQ_ret (?_)))
            refine ⟨.inr rfl, .int .i64 (-1), res1 rfl (rt rfl), ?_⟩
            replace hS : St F_1 (fr) h_3 := hS.perm2 [] 2 rfl rfl
            exact ⟨F_1, (-1), rfl, hK, hS, hM⟩
          · replace hM := hM.2 c_4
            refine HW.skip (blockQ_normal (thenQ_normal (?_)))
            exact ⟨F_1, rfl, rfl, rfl, hK, hS, hM⟩
        · replace hM := hM.2 c_3
          refine HO.past (past_by rfl rfl c_3) rfl ?_
          refine HO.past (past_by rfl rfl c_3) rfl ?_
          refine HO.val (v := .bool false) (want_none) rfl (q_pickK false rfl c_3 rfl) ?_
          refine HO.val (v := .bool false) (want_none) rfl (q_assign rfl) ?_
          refine HO.nil (thenQ_normal (?_))
          refine HW.condF rfl ?_
          refine HW.skip (blockQ_normal (thenQ_normal (?_)))
          exact ⟨F_1, rfl, rfl, rfl, hK, hS, hM⟩
  · rintro f_2 h_4 ⟨F_2, e2, e3, e4, hK, hS, hM⟩
    unfold addr_Cmp_j1 at hM
    refine HW.fr [(2, .pointer (some ⟨b_1, 0, none⟩)), (3, .pointer (some ⟨b_2, 0, none⟩)), (4, .int .i64 0)] ⟨e2, e3, e4, trivial⟩ ?_
    refine HW.seq ?_
    refine HW.regionA 6 mixed (fun h => (Blk h b_1 (.cells (e_api_Addr a).toArray 25 (0, 0))) ∧ (Blk h b_2 (.cells (e_api_Addr b).toArray 25 (0, 0)))) [] (by kernel_rfl) ?_
    refine HA.val (k := 0) (v := .agg (e_api_Addr a).toArray) rfl rfl (by kernel_rfl) (by kernel_rfl) (want_none) rfl (fun _ ⟨c203, c204⟩ => q_loadAgg (cs := (e_api_Addr a)) ta_25 rfl rfl (Blk.cells (k := 17) c203 rfl)) ?_
    refine HA.val (k := 2) (v := .agg (e_api_Addr b).toArray) rfl rfl (by kernel_rfl) (by kernel_rfl) (want_none) rfl (fun _ ⟨c203, c204⟩ => q_loadAgg (cs := (e_api_Addr b)) ta_25 rfl rfl (Blk.cells (k := 17) c204 rfl)) ?_
    refine HA.one (k := 1) ⟨⟨(hS.box 0 rfl), (hS.box 1 rfl)⟩, (Go.Wk.at_nil _ _)⟩ (by kernel_rfl) ?_
    refine HS.call rfl (want_none) rfl (ec en_22 rfl rfl) (addr_bytes_walk (fr := (Ow.box b_1 25 (e_api_Addr a).toArray :: Ow.box b_2 25 (e_api_Addr b).toArray :: fr)) a hS hM) ?_
    rintro _ h_5 ⟨F_3, r_2, rfl, hk, hS, hM⟩
    replace hK := hK.trans hk
    refine HA.one (k := 3) ⟨⟨(hS.box 0 rfl), (hS.box 1 rfl)⟩, (Go.Wk.at_nil _ _)⟩ (by kernel_rfl) ?_
    refine HS.call rfl (want_none) rfl (ec en_22 rfl rfl) (addr_bytes_walk (fr := (Ow.box b_1 25 (e_api_Addr a).toArray :: Ow.box b_2 25 (e_api_Addr b).toArray :: fr)) b hS hM) ?_
    rintro _ h_6 ⟨F_4, r_3, rfl, hk, hS, hM⟩
    replace hK := hK.trans hk
    refine HA.one (k := 4) ⟨⟨(hS.box 0 rfl), (hS.box 1 rfl)⟩, (Go.Wk.at_nil _ _)⟩ (by kernel_rfl) ?_
    refine HS.call rfl (want_none) rfl (ec en_25 rfl rfl) (strCompare_hc Tryd.strCmp  r_2 r_3 _) ?_
    rintro _ h_7 ⟨rfl, hEq⟩
    rw [hEq]
    refine HA.val (k := 5) (v := .int .i64 (scmp r_2 r_3)) rfl rfl (by kernel_rfl) (by kernel_rfl) (want_none) rfl (fun _ ⟨c203, c204⟩ => q_assign rfl) ?_
    refine HA.nil ⟨⟨(hS.box 0 rfl), (hS.box 1 rfl)⟩, (Go.Wk.at_nil _ _)⟩ (by kernel_rfl) (thenQ_normal (?_))
    refine HW.ret (?_)
    refine ⟨.inr rfl, .int .i64 (scmp r_2 r_3), res1 rfl (rt rfl), ?_⟩
    replace hS : St F_4 (fr) h_6 := hS.perm2 [] 2 rfl rfl
    exact ⟨F_4, scmp r_2 r_3, rfl, hK, hS, hM⟩

def ref03_Cmp_j1 (a : T_api_Addr) (b : T_api_Addr) (Q : Int → Prop) (i_1 : Int) (K_1 : Int → Prop) : Prop :=
  ((0 : Int) ≤ i_1 ∧ i_1 < 16) ∧ (((b8 a.2 i_1) < (b8 b.2 i_1) → Q (-1)) ∧ (¬ ((b8 a.2 i_1) < (b8 b.2 i_1)) → ((b8 b.2 i_1) < (b8 a.2 i_1) → Q 1) ∧ (¬ ((b8 b.2 i_1) < (b8 a.2 i_1)) → (I64 (i_1 + 1)) ∧ (K_1 (i_1 + 1)))))
def ref03_Cmp_l1 (a : T_api_Addr) (b : T_api_Addr) (Q : Int → Prop) (K_1 : Int → Prop) (i_1 : Int) : Prop :=
  (i_1 < 16 → (a.1 = true → ref03_Cmp_j1 a b Q i_1 K_1) ∧ (a.1 = false → (i_1 < 4 → ref03_Cmp_j1 a b Q i_1 K_1) ∧ (¬ (i_1 < 4) → Q 0))) ∧ (¬ (i_1 < 16) → Q 0)
def ref03_Cmp_W (a : T_api_Addr) (b : T_api_Addr) (Q : Int → Prop) : Prop :=
  ((!(a.1 == b.1)) = true → (b.1 = true → Q (-1)) ∧ (b.1 = false → Q 1)) ∧ ((!(a.1 == b.1)) = false → loopW (fun (K_1 : Int → Prop) (s : Int) => ref03_Cmp_l1 a b Q K_1 s) 0)
set_option maxHeartbeats 40000000 in
set_option maxRecDepth 100000 in
theorem ref03_Cmp_walk {F : Fz} {fr : List Ow} {h0 : Heap} (a : T_api_Addr) (b : T_api_Addr) (hS : St F (fr) h0)  {Q : Int → Prop} (hM : ref03_Cmp_W a b Q) :
    HC Tryd.prog 14 #[.agg (e_api_Addr a).toArray, .agg (e_api_Addr b).toArray] h0 fun u h' => ∃ (F' : Fz) (r_1 : Int), u = .int .i64 r_1 ∧ Kp F h0 F' h' ∧ St F' (fr) h' ∧ Q r_1 := by
  unfold ref03_Cmp_W at hM
  have hK := Kp.refl F h0
  refine HC.of_HW (n := 43) Tryd.func14 rfl rfl (Nat.le_of_ble_eq_true rfl) ?_
  refine HW.seq ?_
  refine HW.region ?_
  refine HO.eff (want_none) rfl (st_box (c := (e_api_Addr a).toArray) (k' := 17) hS rfl rfl) ?_
  rintro _ h_1 ⟨b_1, rfl, hS, hk⟩
  replace hK := hK.trans hk
  refine HO.eff (want_none) rfl (st_box (c := (e_api_Addr b).toArray) (k' := 17) hS rfl rfl) ?_
  rintro _ h_2 ⟨b_2, rfl, hS, hk⟩
  replace hK := hK.trans hk
  refine HO.val (v := .int .i64 0) (want_none) rfl (q_assign rfl) ?_
  refine HO.nil (thenQ_normal (?_))
  refine HW.seq ?_
  refine HW.seq ?_
  refine HW.region ?_
  refine HO.val (v := .pointer (some ⟨b_1, 0, none⟩)) (want_none) rfl (q_fieldAddr fa_25_0 rfl rfl) ?_
  refine HO.val (v := .bool a.1) (want_none) rfl (q_load to_4 rfl (Blk.cell (hS.box 1 rfl) rfl)) ?_
  refine HO.val (v := .pointer (some ⟨b_2, 0, none⟩)) (want_none) rfl (q_fieldAddr fa_25_0 rfl rfl) ?_
  refine HO.val (v := .bool b.1) (want_none) rfl (q_load to_4 rfl (Blk.cell (hS.box 0 rfl) rfl)) ?_
  refine HO.val (v := .bool (!(a.1 == b.1))) (want_none) rfl (q_neqB Tryd.underlying4 rfl rfl) ?_
  refine HO.nil (thenQ_normal (?_))
  refine HW.cond (!(a.1 == b.1)) rfl (fun c_1 => ?_) (fun c_1 => ?_)
  · replace hM := hM.1 c_1
    refine HW.seq ?_
    refine HW.seq ?_
    refine HW.region ?_
    refine HO.val (v := .pointer (some ⟨b_2, 0, none⟩)) (want_none) rfl (q_fieldAddr fa_25_0 rfl rfl) ?_
    refine HO.val (v := .bool b.1) (want_none) rfl (q_load to_4 rfl (Blk.cell (hS.box 0 rfl) rfl)) ?_
    refine HO.nil (thenQ_normal (?_))
    refine HW.cond b.1 rfl (fun c_2 => ?_) (fun c_2 => ?_)
    · replace hM := hM.1 c_2
      refine HW.seq ?_
      refine HW.region ?_
      refine HO.val (v := .int .i64 (-1)) (want_none) rfl (q_assign rfl) ?_
      refine HO.nil (thenQ_normal (?_))
      refine HW.ret (thenQ_ret (thenQ_ret (?_)))
      refine ⟨.inr rfl, .int .i64 (-1), res1 rfl (rt rfl), ?_⟩
      replace hS : St F (fr) h_2 := hS.perm2 [] 2 rfl rfl
      exact ⟨F, (-1), rfl, hK, hS, hM⟩
    · replace hM := hM.2 c_2
      refine HW.skip (thenQ_normal (?_))
      refine HW.seq ?_
      refine HW.region ?_
      refine HO.val (v := .int .i64 1) (want_none) rfl (q_assign rfl) ?_
      refine HO.nil (thenQ_normal (?_))
      refine HW.ret (thenQ_ret (?_))
      refine ⟨.inr rfl, .int .i64 1, res1 rfl (rt rfl), ?_⟩
      replace hS : St F (fr) h_2 := hS.perm2 [] 2 rfl rfl
      exact ⟨F, 1, rfl, hK, hS, hM⟩
  · replace hM := hM.2 c_1
    refine HW.skip (thenQ_normal (?_))
    refine HW.seq ?_
    refine HW.seq ?_
    refine HW.region ?_
    refine HO.val (v := .int .i64 0) (want_none) rfl (q_assign rfl) ?_
    refine HO.nil (thenQ_normal (?_))
    refine HW.block ?_
    obtain ⟨I_1, m_1, hI_1, hR_1⟩ := hM
    replace hS : St F (Ow.box b_1 25 (e_api_Addr a).toArray :: Ow.box b_2 25 (e_api_Addr b).toArray :: fr) h_2 := hS.perm2 [1, 0] 2 rfl rfl
    refine HW.loop (S := Int) (fun i_1 f h => ∃ (F' : Fz), f 2 = .pointer (some ⟨b_1, 0, none⟩) ∧ f 3 = .pointer (some ⟨b_2, 0, none⟩) ∧ f 4 = .int .i64 0 ∧ f 5 = .int .i64 i_1 ∧ Kp F h0 F' h ∧ St F' (Ow.box b_1 25 (e_api_Addr a).toArray :: Ow.box b_2 25 (e_api_Addr b).toArray :: fr) h ∧ I_1 i_1) m_1 0 ⟨F, rfl, rfl, rfl, rfl, hK, hS, hI_1⟩ ?_
    rintro i_1 f_1 h_3 ⟨F_1, e2, e3, e4, e5, hK, hS, hI0⟩
    obtain ⟨K_1, hKe_1⟩ : ∃ K : Int → Prop, K = fun i_1' => I_1 i_1' ∧ m_1 i_1' < m_1 i_1 := ⟨_, rfl⟩
    have hM : ref03_Cmp_l1 a b Q K_1 i_1 := by rw [hKe_1]; exact hR_1 i_1 hI0
    unfold ref03_Cmp_l1 at hM
    refine HW.fr [(2, .pointer (some ⟨b_1, 0, none⟩)), (3, .pointer (some ⟨b_2, 0, none⟩)), (4, .int .i64 0), (5, .int .i64 i_1)] ⟨e2, e3, e4, e5, trivial⟩ ?_
    refine HW.seq_mid (fun f h => ∃ (F' : Fz), f 2 = .pointer (some ⟨b_1, 0, none⟩) ∧ f 3 = .pointer (some ⟨b_2, 0, none⟩) ∧ f 4 = .int .i64 0 ∧ f 5 = .int .i64 i_1 ∧ Kp F h0 F' h ∧ St F' (Ow.box b_1 25 (e_api_Addr a).toArray :: Ow.box b_2 25 (e_api_Addr b).toArray :: fr) h ∧ ref03_Cmp_j1 a b Q i_1 K_1) ?_ ?_
    · refine HW.seq ?_
      refine HW.region ?_
      refine HO.val (v := .int .i64 i_1) (want_none) rfl (q_move rfl) ?_
      refine HO.val (v := .bool (decide (i_1 < 16))) (want_none) rfl (q_lss rfl rfl) ?_
      refine HO.val (v := .bool (decide (i_1 < 16))) (want_none) rfl (q_move rfl) ?_
      rcases Bool.eq_false_or_eq_true (decide (i_1 < 16)) with c_3 | c_3
      · replace hM := hM.1 (of_decide_eq_true c_3)
        refine HO.val (v := .pointer (some ⟨b_1, 0, none⟩)) (want_by rfl rfl c_3) rfl (q_fieldAddr fa_25_0 rfl rfl) ?_
        refine HO.val (v := .bool a.1) (want_by rfl rfl c_3) rfl (q_load to_4 rfl (Blk.cell (hS.box 0 rfl) rfl)) ?_
        refine HO.val (v := .bool a.1) (want_by rfl rfl c_3) rfl (q_move rfl) ?_
        rcases Bool.eq_false_or_eq_true a.1 with c_4 | c_4
        · replace hM := hM.1 c_4
          refine HO.past (past_by rfl rfl c_4) rfl ?_
          refine HO.past (past_by rfl rfl c_4) rfl ?_
          refine HO.val (v := .bool true) (want_by rfl rfl c_3) rfl (q_pickK true rfl c_4 rfl) ?_
          refine HO.val (v := .bool true) (want_none) rfl (q_pickK true rfl c_3 rfl) ?_
          refine HO.nil (thenQ_normal (?_))
          refine HW.condT rfl ?_
          refine HW.skip (thenQ_normal (?_))
          exact ⟨F_1, rfl, rfl, rfl, rfl, hK, hS, hM⟩
        · replace hM := hM.2 c_4
          refine HO.val (v := .int .i64 i_1) (want_by rfl rfl c_4) rfl (q_move rfl) ?_
          refine HO.val (v := .bool (decide (i_1 < 4))) (want_by rfl rfl c_4) rfl (q_lss rfl rfl) ?_
          refine HO.val (v := .bool (decide (i_1 < 4))) (want_by rfl rfl c_3) rfl (q_pickK false rfl c_4 rfl) ?_
          refine HO.val (v := .bool (decide (i_1 < 4))) (want_none) rfl (q_pickK true rfl c_3 rfl) ?_
          refine HO.nil (thenQ_normal (?_))
          refine HW.cond (decide (i_1 < 4)) rfl (fun c_5 => ?_) (fun c_5 => ?_)
          · replace hM := hM.1 (of_decide_eq_true c_5)
            refine HW.skip (thenQ_normal (?_))
            exact ⟨F_1, rfl, rfl, rfl, rfl, hK, hS, hM⟩
          · replace hM := hM.2 (of_decide_eq_false c_5)
            refine HW.exit (thenQ_exit (thenQ_exit (blockQ_exit (thenQ_normal (?_)))))
            refine HW.seq ?_
            refine HW.region ?_
            refine HO.val (v := .int .i64 0) (want_none) rfl (q_assign rfl) ?_
            refine HO.nil (thenQ_normal (?_))
            refine HW.ret (?_)
            refine ⟨.inr rfl, .int .i64 0, res1 rfl (rt rfl), ?_⟩
            replace hS : St F_1 (fr) h_3 := hS.perm2 [] 2 rfl rfl
            exact ⟨F_1, 0, rfl, hK, hS, hM⟩
      · replace hM := hM.2 (of_decide_eq_false c_3)
        refine HO.past (past_by rfl rfl c_3) rfl ?_
        refine HO.past (past_by rfl rfl c_3) rfl ?_
        refine HO.past (past_by rfl rfl c_3) rfl ?_
        refine HO.past (past_undef rfl rfl) rfl ?_
        refine HO.past (past_undef rfl rfl) rfl ?_
        refine HO.past (past_by rfl rfl c_3) rfl ?_
        refine HO.val (v := .bool false) (want_none) rfl (q_pickK false rfl c_3 rfl) ?_
        refine HO.nil (thenQ_normal (?_))
        refine HW.condF rfl ?_
        refine HW.exit (thenQ_exit (thenQ_exit (blockQ_exit (thenQ_normal (?_)))))
        refine HW.seq ?_
        refine HW.region ?_
        refine HO.val (v := .int .i64 0) (want_none) rfl (q_assign rfl) ?_
        refine HO.nil (thenQ_normal (?_))
        refine HW.ret (?_)
        refine ⟨.inr rfl, .int .i64 0, res1 rfl (rt rfl), ?_⟩
        replace hS : St F_1 (fr) h_3 := hS.perm2 [] 2 rfl rfl
        exact ⟨F_1, 0, rfl, hK, hS, hM⟩
    · rintro f_2 h_4 ⟨F_2, e2, e3, e4, e5, hK, hS, hM⟩
      unfold ref03_Cmp_j1 at hM
      refine HW.fr [(2, .pointer (some ⟨b_1, 0, none⟩)), (3, .pointer (some ⟨b_2, 0, none⟩)), (4, .int .i64 0), (5, .int .i64 i_1)] ⟨e2, e3, e4, e5, trivial⟩ ?_
      refine HW.seq ?_
      refine HW.block ?_
      refine HW.seq ?_
      refine HW.seq ?_
      refine HW.regionA 9 mixed (fun h => (Blk h b_1 (.cells (e_api_Addr a).toArray 25 (0, 0))) ∧ (Blk h b_2 (.cells (e_api_Addr b).toArray 25 (0, 0)))) [] (by kernel_rfl) ?_
      refine HA.val (k := 0) (v := .int .i64 i_1) rfl rfl (by kernel_rfl) (by kernel_rfl) (want_none) rfl (fun _ ⟨c305, c306⟩ => q_move rfl) ?_
      refine HA.val (k := 1) (v := .pointer (some ⟨b_1, 1, none⟩)) rfl rfl (by kernel_rfl) (by kernel_rfl) (want_none) rfl (fun _ ⟨c305, c306⟩ => q_fieldAddr fa_25_1 rfl rfl) ?_
      obtain ⟨ho_1, hM⟩ := hM
      refine HA.val (k := 2) (v := .pointer (some ⟨b_1, 1 + (i_1).toNat, none⟩)) rfl rfl (by kernel_rfl) (by kernel_rfl) (want_none) rfl (fun _ ⟨c305, c306⟩ => q_idxA (o := 1) (t := i_1) tr_23 rfl rfl ho_1) ?_
      refine HA.val (k := 3) (v := .int .u8 (b8 a.2 i_1)) rfl rfl (by kernel_rfl) (by kernel_rfl) (want_none) rfl (fun _ ⟨c305, c306⟩ => q_ldArr (o := 1) (t := i_1) (X := a.2) to_5 rfl c305 rfl ho_1) ?_
      refine HA.val (k := 4) (v := .int .i64 i_1) rfl rfl (by kernel_rfl) (by kernel_rfl) (want_none) rfl (fun _ ⟨c305, c306⟩ => q_move rfl) ?_
      refine HA.val (k := 5) (v := .pointer (some ⟨b_2, 1, none⟩)) rfl rfl (by kernel_rfl) (by kernel_rfl) (want_none) rfl (fun _ ⟨c305, c306⟩ => q_fieldAddr fa_25_1 rfl rfl) ?_
      refine HA.val (k := 6) (v := .pointer (some ⟨b_2, 1 + (i_1).toNat, none⟩)) rfl rfl (by kernel_rfl) (by kernel_rfl) (want_none) rfl (fun _ ⟨c305, c306⟩ => q_idxA (o := 1) (t := i_1) tr_23 rfl rfl ho_1) ?_
      refine HA.val (k := 7) (v := .int .u8 (b8 b.2 i_1)) rfl rfl (by kernel_rfl) (by kernel_rfl) (want_none) rfl (fun _ ⟨c305, c306⟩ => q_ldArr (o := 1) (t := i_1) (X := b.2) to_5 rfl c306 rfl ho_1) ?_
      refine HA.val (k := 8) (v := .bool (decide ((b8 a.2 i_1) < (b8 b.2 i_1)))) rfl rfl (by kernel_rfl) (by kernel_rfl) (want_none) rfl (fun _ ⟨c305, c306⟩ => q_lss rfl rfl) ?_
      refine HA.nil ⟨⟨(hS.box 0 rfl), (hS.box 1 rfl)⟩, (Go.Wk.at_nil _ _)⟩ (by kernel_rfl) (thenQ_normal (?_))
      refine HW.cond (decide ((b8 a.2 i_1) < (b8 b.2 i_1))) rfl (fun c_6 => ?_) (fun c_6 => ?_)
      · replace hM := hM.1 (of_decide_eq_true c_6)
        refine HW.seq ?_
        refine HW.region ?_
        refine HO.val (v := .int .i64 (-1)) (want_none) rfl (q_assign rfl) ?_
        refine HO.nil (thenQ_normal (?_))
        refine HW.ret (thenQ_ret (blockQ_ret (thenQ_ret (thenQ_ret (blockQ_ret (thenQ_ret (?_)))))))
        refine ⟨.inr rfl, .int .i64 (-1), res1 rfl (rt rfl), ?_⟩
        replace hS : St F_2 (fr) h_4 := hS.perm2 [] 2 rfl rfl
        exact ⟨F_2, (-1), rfl, hK, hS, hM⟩
      · replace hM := hM.2 (of_decide_eq_false c_6)
        refine HW.skip (thenQ_normal (?_))
        refine HW.seq ?_
        refine HW.regionA 9 mixed (fun h => (Blk h b_1 (.cells (e_api_Addr a).toArray 25 (0, 0))) ∧ (Blk h b_2 (.cells (e_api_Addr b).toArray 25 (0, 0)))) [] (by kernel_rfl) ?_
        refine HA.val (k := 0) (v := .int .i64 i_1) rfl rfl (by kernel_rfl) (by kernel_rfl) (want_none) rfl (fun _ ⟨c305, c306⟩ => q_move rfl) ?_
        refine HA.val (k := 1) (v := .pointer (some ⟨b_1, 1, none⟩)) rfl rfl (by kernel_rfl) (by kernel_rfl) (want_none) rfl (fun _ ⟨c305, c306⟩ => q_fieldAddr fa_25_1 rfl rfl) ?_
        refine HA.val (k := 2) (v := .pointer (some ⟨b_1, 1 + (i_1).toNat, none⟩)) rfl rfl (by kernel_rfl) (by kernel_rfl) (want_none) rfl (fun _ ⟨c305, c306⟩ => q_idxA (o := 1) (t := i_1) tr_23 rfl rfl ho_1) ?_
        refine HA.val (k := 3) (v := .int .u8 (b8 a.2 i_1)) rfl rfl (by kernel_rfl) (by kernel_rfl) (want_none) rfl (fun _ ⟨c305, c306⟩ => q_ldArr (o := 1) (t := i_1) (X := a.2) to_5 rfl c305 rfl ho_1) ?_
        refine HA.val (k := 4) (v := .int .i64 i_1) rfl rfl (by kernel_rfl) (by kernel_rfl) (want_none) rfl (fun _ ⟨c305, c306⟩ => q_move rfl) ?_
        refine HA.val (k := 5) (v := .pointer (some ⟨b_2, 1, none⟩)) rfl rfl (by kernel_rfl) (by kernel_rfl) (want_none) rfl (fun _ ⟨c305, c306⟩ => q_fieldAddr fa_25_1 rfl rfl) ?_
        refine HA.val (k := 6) (v := .pointer (some ⟨b_2, 1 + (i_1).toNat, none⟩)) rfl rfl (by kernel_rfl) (by kernel_rfl) (want_none) rfl (fun _ ⟨c305, c306⟩ => q_idxA (o := 1) (t := i_1) tr_23 rfl rfl ho_1) ?_
        refine HA.val (k := 7) (v := .int .u8 (b8 b.2 i_1)) rfl rfl (by kernel_rfl) (by kernel_rfl) (want_none) rfl (fun _ ⟨c305, c306⟩ => q_ldArr (o := 1) (t := i_1) (X := b.2) to_5 rfl c306 rfl ho_1) ?_
        refine HA.val (k := 8) (v := .bool (decide ((b8 b.2 i_1) < (b8 a.2 i_1)))) rfl rfl (by kernel_rfl) (by kernel_rfl) (want_none) rfl (fun _ ⟨c305, c306⟩ => q_gtr rfl rfl) ?_
        refine HA.nil ⟨⟨(hS.box 0 rfl), (hS.box 1 rfl)⟩, (Go.Wk.at_nil _ _)⟩ (by kernel_rfl) (thenQ_normal (?_))
        refine HW.cond (decide ((b8 b.2 i_1) < (b8 a.2 i_1))) rfl (fun c_7 => ?_) (fun c_7 => ?_)
        · replace hM := hM.1 (of_decide_eq_true c_7)
          refine HW.seq ?_
          refine HW.region ?_
          refine HO.val (v := .int .i64 1) (want_none) rfl (q_assign rfl) ?_
          refine HO.nil (thenQ_normal (?_))
          refine HW.ret (blockQ_ret (thenQ_ret (thenQ_ret (blockQ_ret (thenQ_ret (?_))))))
          refine ⟨.inr rfl, .int .i64 1, res1 rfl (rt rfl), ?_⟩
          replace hS : St F_2 (fr) h_4 := hS.perm2 [] 2 rfl rfl
          exact ⟨F_2, 1, rfl, hK, hS, hM⟩
        · replace hM := hM.2 (of_decide_eq_false c_7)
          refine HW.skip (blockQ_normal (thenQ_normal (?_)))
          refine HW.region ?_
          refine HO.val (v := .int .i64 i_1) (want_none) rfl (q_move rfl) ?_
          obtain ⟨ho_2, hM⟩ := hM
          refine HO.val (v := .int .i64 (i_1 + 1)) (want_none) rfl (q_addN _ rfl rfl rfl ho_2.1 ho_2.2) ?_
          refine HO.val (v := .int .i64 (i_1 + 1)) (want_none) rfl (q_assign rfl) ?_
          refine HO.nil (thenQ_normal (?_))
          rw [hKe_1] at hM
          exact ⟨i_1 + 1, ⟨F_2, rfl, rfl, rfl, rfl, hK, hS, hM.1⟩, hM.2⟩

def law03_AddrOrders_W (a : T_api_Addr) (b : T_api_Addr) (Q : Bool → Prop) : Prop :=
  ref03_Own_W a (fun r_2 => ref03_Own_W b (fun r_3 => addr_Cmp_W r_2 r_3 (fun r_4 => ref03_Cmp_W r_2 r_3 (fun r_5 => (r_4 = r_5 → addr_Cmp_W r_3 r_2 (fun r_6 => (I64 (0 - r_4)) ∧ ((r_6 = (0 - r_4) → (((decide (r_4 = 0)) == (decide ((r_2 : T_api_Addr) = r_3))) = true → law03_lives_W  (fun r_7 => Q r_7)) ∧ (((decide (r_4 = 0)) == (decide ((r_2 : T_api_Addr) = r_3))) = false → Q false)) ∧ (¬ (r_6 = (0 - r_4)) → Q false)))) ∧ (¬ (r_4 = r_5) → Q false)))))
set_option maxHeartbeats 40000000 in
set_option maxRecDepth 100000 in
theorem law03_AddrOrders_walk {F : Fz} {fr : List Ow} {h0 : Heap} (a : T_api_Addr) (b : T_api_Addr) (gm : Int) (gvS : Value) (gbS : Bool) (gvR : Value) (gbR : Bool) (hS : St F (fr) h0) (hG_0 : RoF (Ow.box 0 3 #[.int .i64 gm]) F h0) (hG_1 : RoF (Ow.box 1 64 #[gvS]) F h0) (hE_gvS : ErrF gbS gvS F h0) (hG_2 : RoF (Ow.box 2 64 #[gvR]) F h0) (hE_gvR : ErrF gbR gvR F h0) (hG_5 : RoF (Ow.box 5 130 (tab10 ()).toArray) F h0) (hG_7 : RoF (Ow.box 7 136 (arrCells tab64).toArray) F h0) (hD : DM.on = false) {Q : Bool → Prop} (hM : law03_AddrOrders_W a b Q) :
    HC Tryd.prog 4 #[.agg (e_api_Addr a).toArray, .agg (e_api_Addr b).toArray] h0 fun u h' => ∃ (F' : Fz) (r_1 : Bool), u = .bool r_1 ∧ Kp F h0 F' h' ∧ St F' (fr) h' ∧ (RoF (Ow.box 0 3 #[.int .i64 gm]) F' h') ∧ (RoF (Ow.box 1 64 #[gvS]) F' h') ∧ (ErrF gbS gvS F' h') ∧ (RoF (Ow.box 2 64 #[gvR]) F' h') ∧ (ErrF gbR gvR F' h') ∧ (RoF (Ow.box 5 130 (tab10 ()).toArray) F' h') ∧ (RoF (Ow.box 7 136 (arrCells tab64).toArray) F' h') ∧ Q r_1 := by
  unfold law03_AddrOrders_W at hM
  have hK := Kp.refl F h0
  refine HC.of_HW (n := 37) Tryd.func4 rfl rfl (Nat.le_of_ble_eq_true rfl) ?_
  refine HW.seq ?_
  refine HW.region ?_
  refine HO.eff (want_none) rfl (st_box (c := (e_api_Addr a).toArray) (k' := 17) hS rfl rfl) ?_
  rintro _ h_1 ⟨b_1, rfl, hS, hk⟩
  replace hK := hK.trans hk
  replace hG_0 := hG_0.kp hk
  replace hG_1 := hG_1.kp hk
  replace hE_gvS := hE_gvS.kp hk
  replace hG_2 := hG_2.kp hk
  replace hE_gvR := hE_gvR.kp hk
  replace hG_5 := hG_5.kp hk
  replace hG_7 := hG_7.kp hk
  refine HO.eff (want_none) rfl (st_box (c := (e_api_Addr b).toArray) (k' := 17) hS rfl rfl) ?_
  rintro _ h_2 ⟨b_2, rfl, hS, hk⟩
  replace hK := hK.trans hk
  replace hG_0 := hG_0.kp hk
  replace hG_1 := hG_1.kp hk
  replace hE_gvS := hE_gvS.kp hk
  replace hG_2 := hG_2.kp hk
  replace hE_gvR := hE_gvR.kp hk
  replace hG_5 := hG_5.kp hk
  replace hG_7 := hG_7.kp hk
  refine HO.val (v := .bool false) (want_none) rfl (q_assign rfl) ?_
  refine HO.nil (thenQ_normal (?_))
  refine HW.seq ?_
  refine HW.regionA 6 mixed (fun h => True) [(4, fun h => (Blk h b_1 (.cells (e_api_Addr a).toArray 25 (0, 0)))), (5, fun h => (Blk h b_2 (.cells (e_api_Addr b).toArray 25 (0, 0))))] (by kernel_rfl) ?_
  refine Go.Wk.HA.valN (k := 0) (v := .agg (e_api_Addr a).toArray) 0 4 (fun h => (Blk h b_1 (.cells (e_api_Addr a).toArray 25 (0, 0)))) rfl rfl (by kernel_rfl) (by kernel_rfl) (want_none) rfl rfl (by kernel_rfl) (fun _ _ c201 => q_loadAgg (cs := (e_api_Addr a)) ta_25 rfl rfl (Blk.cells (k := 17) c201 rfl)) ?_
  refine Go.Wk.HA.valN (k := 2) (v := .agg (e_api_Addr b).toArray) 1 5 (fun h => (Blk h b_2 (.cells (e_api_Addr b).toArray 25 (0, 0)))) rfl rfl (by kernel_rfl) (by kernel_rfl) (want_none) rfl rfl (by kernel_rfl) (fun _ _ c202 => q_loadAgg (cs := (e_api_Addr b)) ta_25 rfl rfl (Blk.cells (k := 17) c202 rfl)) ?_
  refine HA.one (k := 1) ⟨trivial, (at_now (hS.box 1 rfl) (at_now (hS.box 0 rfl) (Go.Wk.at_nil _ _)))⟩ (by kernel_rfl) ?_
  refine HS.call rfl (want_none) rfl (ec en_12 rfl rfl) (ref03_Own_walk (fr := (Ow.box b_2 25 (e_api_Addr b).toArray :: Ow.box b_1 25 (e_api_Addr a).toArray :: fr)) a hS hM) ?_
  rintro _ h_3 ⟨F_1, r_2, rfl, hk, hS, hM⟩
  replace hK := hK.trans hk
  replace hG_0 := hG_0.kp hk
  replace hG_1 := hG_1.kp hk
  replace hE_gvS := hE_gvS.kp hk
  replace hG_2 := hG_2.kp hk
  replace hE_gvR := hE_gvR.kp hk
  replace hG_5 := hG_5.kp hk
  replace hG_7 := hG_7.kp hk
  refine HA.one (k := 3) ⟨trivial, (at_now (hS.box 1 rfl) (at_now (hS.box 0 rfl) (Go.Wk.at_nil _ _)))⟩ (by kernel_rfl) ?_
  refine HS.call rfl (want_none) rfl (ec en_12 rfl rfl) (ref03_Own_walk (fr := (Ow.box b_2 25 (e_api_Addr b).toArray :: Ow.box b_1 25 (e_api_Addr a).toArray :: fr)) b hS hM) ?_
  rintro _ h_4 ⟨F_2, r_3, rfl, hk, hS, hM⟩
  replace hK := hK.trans hk
  replace hG_0 := hG_0.kp hk
  replace hG_1 := hG_1.kp hk
  replace hE_gvS := hE_gvS.kp hk
  replace hG_2 := hG_2.kp hk
  replace hE_gvR := hE_gvR.kp hk
  replace hG_5 := hG_5.kp hk
  replace hG_7 := hG_7.kp hk
  refine HA.one (k := 4) ⟨trivial, (at_now (hS.box 1 rfl) (at_now (hS.box 0 rfl) (Go.Wk.at_nil _ _)))⟩ (by kernel_rfl) ?_
  refine HS.sto rfl (want_none) rfl (st_storeAgg (c' := (e_api_Addr r_2).toArray) hS (i := 1) rfl ta_25 rfl rfl rfl (one_e_api_Addr _) (Nat.le_of_ble_eq_true rfl) rfl) ?_
  rintro h_5 ⟨hS, hk⟩
  replace hS : St F_2 (Ow.box b_2 25 (e_api_Addr b).toArray :: Ow.box b_1 25 (e_api_Addr r_2).toArray :: fr) h_5 := hS
  replace hK := hK.trans hk
  replace hG_0 := hG_0.kp hk
  replace hG_1 := hG_1.kp hk
  replace hE_gvS := hE_gvS.kp hk
  replace hG_2 := hG_2.kp hk
  replace hE_gvR := hE_gvR.kp hk
  replace hG_5 := hG_5.kp hk
  replace hG_7 := hG_7.kp hk
  refine HA.one (k := 5) ⟨trivial, (at_done (by kernel_rfl) (at_now (hS.box 0 rfl) (Go.Wk.at_nil _ _)))⟩ (by kernel_rfl) ?_
  refine HS.sto rfl (want_none) rfl (st_storeAgg (c' := (e_api_Addr r_3).toArray) hS (i := 0) rfl ta_25 rfl rfl rfl (one_e_api_Addr _) (Nat.le_of_ble_eq_true rfl) rfl) ?_
  rintro h_6 ⟨hS, hk⟩
  replace hS : St F_2 (Ow.box b_2 25 (e_api_Addr r_3).toArray :: Ow.box b_1 25 (e_api_Addr r_2).toArray :: fr) h_6 := hS
  replace hK := hK.trans hk
  replace hG_0 := hG_0.kp hk
  replace hG_1 := hG_1.kp hk
  replace hE_gvS := hE_gvS.kp hk
  replace hG_2 := hG_2.kp hk
  replace hE_gvR := hE_gvR.kp hk
  replace hG_5 := hG_5.kp hk
  replace hG_7 := hG_7.kp hk
  refine HA.nil ⟨trivial, (at_done (by kernel_rfl) (at_done (by kernel_rfl) (Go.Wk.at_nil _ _)))⟩ (by kernel_rfl) (thenQ_normal (?_))
  refine HW.seq ?_
  refine HW.region ?_
  refine HO.val (v := .agg (e_api_Addr r_2).toArray) (want_none) rfl (q_loadAgg (cs := (e_api_Addr r_2)) ta_25 rfl rfl (Blk.cells (k := 17) (hS.box 1 rfl) rfl)) ?_
  refine HO.val (v := .agg (e_api_Addr r_3).toArray) (want_none) rfl (q_loadAgg (cs := (e_api_Addr r_3)) ta_25 rfl rfl (Blk.cells (k := 17) (hS.box 0 rfl) rfl)) ?_
  refine HO.call (want_none) rfl (ec en_13 rfl rfl) (addr_Cmp_walk (fr := (Ow.box b_2 25 (e_api_Addr r_3).toArray :: Ow.box b_1 25 (e_api_Addr r_2).toArray :: fr)) r_2 r_3 hS hM) ?_
  rintro _ h_7 ⟨F_3, r_4, rfl, hk, hS, hM⟩
  replace hK := hK.trans hk
  replace hG_0 := hG_0.kp hk
  replace hG_1 := hG_1.kp hk
  replace hE_gvS := hE_gvS.kp hk
  replace hG_2 := hG_2.kp hk
  replace hE_gvR := hE_gvR.kp hk
  replace hG_5 := hG_5.kp hk
  replace hG_7 := hG_7.kp hk
  refine HO.val (v := .int .i64 r_4) (want_none) rfl (q_assign rfl) ?_
  refine HO.nil (thenQ_normal (?_))
  refine HW.seq ?_
  refine HW.region ?_
  refine HO.val (v := .int .i64 r_4) (want_none) rfl (q_move rfl) ?_
  refine HO.val (v := .agg (e_api_Addr r_2).toArray) (want_none) rfl (q_loadAgg (cs := (e_api_Addr r_2)) ta_25 rfl rfl (Blk.cells (k := 17) (hS.box 1 rfl) rfl)) ?_
  refine HO.val (v := .agg (e_api_Addr r_3).toArray) (want_none) rfl (q_loadAgg (cs := (e_api_Addr r_3)) ta_25 rfl rfl (Blk.cells (k := 17) (hS.box 0 rfl) rfl)) ?_
  refine HO.call (want_none) rfl (ec en_14 rfl rfl) (ref03_Cmp_walk (fr := (Ow.box b_2 25 (e_api_Addr r_3).toArray :: Ow.box b_1 25 (e_api_Addr r_2).toArray :: fr)) r_2 r_3 hS hM) ?_
  rintro _ h_8 ⟨F_4, r_5, rfl, hk, hS, hM⟩
  replace hK := hK.trans hk
  replace hG_0 := hG_0.kp hk
  replace hG_1 := hG_1.kp hk
  replace hE_gvS := hE_gvS.kp hk
  replace hG_2 := hG_2.kp hk
  replace hE_gvR := hE_gvR.kp hk
  replace hG_5 := hG_5.kp hk
  replace hG_7 := hG_7.kp hk
  refine HO.val (v := .bool (decide (r_4 = r_5))) (want_none) rfl (q_eql rfl rfl) ?_
  refine HO.val (v := .bool (decide (r_4 = r_5))) (want_none) rfl (q_move rfl) ?_
  rcases Bool.eq_false_or_eq_true (decide (r_4 = r_5)) with c_1 | c_1
  · replace hM := hM.1 (of_decide_eq_true c_1)
    refine HO.val (v := .agg (e_api_Addr r_3).toArray) (want_by rfl rfl c_1) rfl (q_loadAgg (cs := (e_api_Addr r_3)) ta_25 rfl rfl (Blk.cells (k := 17) (hS.box 0 rfl) rfl)) ?_
    refine HO.val (v := .agg (e_api_Addr r_2).toArray) (want_by rfl rfl c_1) rfl (q_loadAgg (cs := (e_api_Addr r_2)) ta_25 rfl rfl (Blk.cells (k := 17) (hS.box 1 rfl) rfl)) ?_
    refine HO.call (want_by rfl rfl c_1) rfl (ec en_13 rfl rfl) (addr_Cmp_walk (fr := (Ow.box b_2 25 (e_api_Addr r_3).toArray :: Ow.box b_1 25 (e_api_Addr r_2).toArray :: fr)) r_3 r_2 hS hM) ?_
    rintro _ h_9 ⟨F_5, r_6, rfl, hk, hS, hM⟩
    replace hK := hK.trans hk
    replace hG_0 := hG_0.kp hk
    replace hG_1 := hG_1.kp hk
    replace hE_gvS := hE_gvS.kp hk
    replace hG_2 := hG_2.kp hk
    replace hE_gvR := hE_gvR.kp hk
    replace hG_5 := hG_5.kp hk
    replace hG_7 := hG_7.kp hk
    refine HO.val (v := .int .i64 r_4) (want_by rfl rfl c_1) rfl (q_move rfl) ?_
    obtain ⟨ho_1, hM⟩ := hM
    refine HO.val (v := .int .i64 (0 - r_4)) (want_by rfl rfl c_1) rfl ((q_neg rfl).of_eq (by rw [wrap_i64 ho_1.1 ho_1.2])) ?_
    refine HO.val (v := .bool (decide (r_6 = (0 - r_4)))) (want_by rfl rfl c_1) rfl (q_eql rfl rfl) ?_
    refine HO.val (v := .bool (decide (r_6 = (0 - r_4)))) (want_none) rfl (q_pickK true rfl c_1 rfl) ?_
    refine HO.val (v := .bool (decide (r_6 = (0 - r_4)))) (want_none) rfl (q_move rfl) ?_
    rcases Bool.eq_false_or_eq_true (decide (r_6 = (0 - r_4))) with c_2 | c_2
    · replace hM := hM.1 (of_decide_eq_true c_2)
      refine HO.val (v := .int .i64 r_4) (want_by rfl rfl c_2) rfl (q_move rfl) ?_
      refine HO.val (v := .bool (decide (r_4 = 0))) (want_by rfl rfl c_2) rfl (q_eql rfl rfl) ?_
      refine HO.val (v := .agg (e_api_Addr r_2).toArray) (want_by rfl rfl c_2) rfl (q_loadAgg (cs := (e_api_Addr r_2)) ta_25 rfl rfl (Blk.cells (k := 17) (hS.box 1 rfl) rfl)) ?_
      refine HO.val (v := .agg (e_api_Addr r_3).toArray) (want_by rfl rfl c_2) rfl (q_loadAgg (cs := (e_api_Addr r_3)) ta_25 rfl rfl (Blk.cells (k := 17) (hS.box 0 rfl) rfl)) ?_
      refine HO.val (v := .bool (decide ((r_2 : T_api_Addr) = r_3))) (want_by rfl rfl c_2) rfl (q_eqlAgg (a := r_2) (b := r_3) (fun a b w => teq_25 9997 a b w) (by kernel_rfl) rfl rfl rfl rfl) ?_
      refine HO.val (v := .bool ((decide (r_4 = 0)) == (decide ((r_2 : T_api_Addr) = r_3)))) (want_by rfl rfl c_2) rfl (q_eqlB Tryd.underlying4 rfl rfl) ?_
      refine HO.val (v := .bool ((decide (r_4 = 0)) == (decide ((r_2 : T_api_Addr) = r_3)))) (want_none) rfl (q_pickK true rfl c_2 rfl) ?_
      refine HO.val (v := .bool ((decide (r_4 = 0)) == (decide ((r_2 : T_api_Addr) = r_3)))) (want_none) rfl (q_move rfl) ?_
      rcases Bool.eq_false_or_eq_true ((decide (r_4 = 0)) == (decide ((r_2 : T_api_Addr) = r_3))) with c_3 | c_3
      · replace hM := hM.1 c_3
        refine HO.call (want_by rfl rfl c_3) rfl (ec en_11 rfl rfl) (law03_lives_walk (fr := (Ow.box b_2 25 (e_api_Addr r_3).toArray :: Ow.box b_1 25 (e_api_Addr r_2).toArray :: fr)) gm gvS gbS gvR gbR hS hG_0 hG_1 hE_gvS hG_2 hE_gvR hG_5 hG_7 hD hM) ?_
        rintro _ h_10 ⟨F_6, r_7, rfl, hk, hS, _, _, _, _, _, _, _, hM⟩
        replace hK := hK.trans hk
        replace hG_0 := hG_0.kp hk
        replace hG_1 := hG_1.kp hk
        replace hE_gvS := hE_gvS.kp hk
        replace hG_2 := hG_2.kp hk
        replace hE_gvR := hE_gvR.kp hk
        replace hG_5 := hG_5.kp hk
        replace hG_7 := hG_7.kp hk
        refine HO.val (v := .bool r_7) (want_none) rfl (q_pickK true rfl c_3 rfl) ?_
        refine HO.val (v := .bool r_7) (want_none) rfl (q_assign rfl) ?_
        refine HO.nil (thenQ_normal (?_))
        refine HW.ret (?_)
        refine ⟨.inr rfl, .bool r_7, res1 rfl (rt rfl), ?_⟩
        replace hS : St F_6 (fr) h_10 := hS.perm2 [] 2 rfl rfl
        exact ⟨F_6, r_7, rfl, hK, hS, hG_0, hG_1, hE_gvS, hG_2, hE_gvR, hG_5, hG_7, hM⟩
      · replace hM := hM.2 c_3
        refine HO.past (past_by rfl rfl c_3) rfl ?_
        refine HO.val (v := .bool false) (want_none) rfl (q_pickK false rfl c_3 rfl) ?_
        refine HO.val (v := .bool false) (want_none) rfl (q_assign rfl) ?_
        refine HO.nil (thenQ_normal (?_))
        refine HW.ret (?_)
        refine ⟨.inr rfl, .bool false, res1 rfl (rt rfl), ?_⟩
        replace hS : St F_5 (fr) h_9 := hS.perm2 [] 2 rfl rfl
        exact ⟨F_5, false, rfl, hK, hS, hG_0, hG_1, hE_gvS, hG_2, hE_gvR, hG_5, hG_7, hM⟩
    · replace hM := hM.2 (of_decide_eq_false c_2)
      refine HO.past (past_by rfl rfl c_2) rfl ?_
      refine HO.past (past_by rfl rfl c_2) rfl ?_
      refine HO.past (past_by rfl rfl c_2) rfl ?_
      refine HO.past (past_by rfl rfl c_2) rfl ?_
      refine HO.past (past_by rfl rfl c_2) rfl ?_
      refine HO.past (past_by rfl rfl c_2) rfl ?_
      refine HO.val (v := .bool false) (want_none) rfl (q_pickK false rfl c_2 rfl) ?_
      refine HO.val (v := .bool false) (want_none) rfl (q_move rfl) ?_
      refine HO.past (past_some rfl rfl) rfl ?_
      refine HO.val (v := .bool false) (want_none) rfl (q_pick rfl rfl) ?_
      refine HO.val (v := .bool false) (want_none) rfl (q_assign rfl) ?_
      refine HO.nil (thenQ_normal (?_))
      refine HW.ret (?_)
      refine ⟨.inr rfl, .bool false, res1 rfl (rt rfl), ?_⟩
      replace hS : St F_5 (fr) h_9 := hS.perm2 [] 2 rfl rfl
      exact ⟨F_5, false, rfl, hK, hS, hG_0, hG_1, hE_gvS, hG_2, hE_gvR, hG_5, hG_7, hM⟩
  · replace hM := hM.2 (of_decide_eq_false c_1)
    refine HO.past (past_by rfl rfl c_1) rfl ?_
    refine HO.past (past_by rfl rfl c_1) rfl ?_
    refine HO.past (past_by rfl rfl c_1) rfl ?_
    refine HO.past (past_by rfl rfl c_1) rfl ?_
    refine HO.past (past_by rfl rfl c_1) rfl ?_
    refine HO.past (past_by rfl rfl c_1) rfl ?_
    refine HO.val (v := .bool false) (want_none) rfl (q_pickK false rfl c_1 rfl) ?_
    refine HO.val (v := .bool false) (want_none) rfl (q_move rfl) ?_
    refine HO.past (past_some rfl rfl) rfl ?_
    refine HO.past (past_some rfl rfl) rfl ?_
    refine HO.past (past_some rfl rfl) rfl ?_
    refine HO.past (past_some rfl rfl) rfl ?_
    refine HO.past (past_some rfl rfl) rfl ?_
    refine HO.past (past_some rfl rfl) rfl ?_
    refine HO.val (v := .bool false) (want_none) rfl (q_pick rfl rfl) ?_
    refine HO.val (v := .bool false) (want_none) rfl (q_move rfl) ?_
    refine HO.past (past_some rfl rfl) rfl ?_
    refine HO.val (v := .bool false) (want_none) rfl (q_pick rfl rfl) ?_
    refine HO.val (v := .bool false) (want_none) rfl (q_assign rfl) ?_
    refine HO.nil (thenQ_normal (?_))
    refine HW.ret (?_)
    refine ⟨.inr rfl, .bool false, res1 rfl (rt rfl), ?_⟩
    replace hS : St F_4 (fr) h_8 := hS.perm2 [] 2 rfl rfl
    exact ⟨F_4, false, rfl, hK, hS, hG_0, hG_1, hE_gvS, hG_2, hE_gvR, hG_5, hG_7, hM⟩

def ref01_Sign_W (n : Int) (Q : Str → Prop) : Prop :=
  ((0 : Int) ≤ n ∧ n ≤ ((u8w (n + 1)).toNat : Int) ∧ ((u8w (n + 1)).toNat : Int) ≤ ((([48, 49, 50, 51, 52, 53, 54, 55, 56, 57, 97, 98, 99, 100, 101, 102] : Str)).length : Int)) ∧ (Q (cut ([48, 49, 50, 51, 52, 53, 54, 55, 56, 57, 97, 98, 99, 100, 101, 102] : Str) n ((u8w (n + 1)).toNat : Int)))
set_option maxHeartbeats 40000000 in
set_option maxRecDepth 100000 in
theorem ref01_Sign_walk {F : Fz} {fr : List Ow} {h0 : Heap} (n : Int) (hS : St F (fr) h0)  {Q : Str → Prop} (hM : ref01_Sign_W n Q) :
    HC Tryd.prog 33 #[.int .u8 n] h0 fun u h' => ∃ (F' : Fz) (r_1 : Str), u = .string (bs r_1) ∧ Kp F h0 F' h' ∧ St F' (fr) h' ∧ Q r_1 := by
  unfold ref01_Sign_W at hM
  have hK := Kp.refl F h0
  refine HC.of_HW (n := 7) Tryd.func33 rfl rfl (Nat.le_of_ble_eq_true rfl) ?_
  refine HW.seq ?_
  refine HW.region ?_
  refine HO.val (v := .string (bs [])) (want_none) rfl (q_assign rfl) ?_
  refine HO.nil (thenQ_normal (?_))
  refine HW.seq ?_
  refine HW.region ?_
  refine HO.val (v := .int .u8 n) (want_none) rfl (q_move rfl) ?_
  refine HO.val (v := .int .u8 n) (want_none) rfl (q_move rfl) ?_
  refine HO.val (v := .int .u8 ((u8w (n + 1)).toNat : Int)) (want_none) rfl ((q_add rfl rfl).of_eq (u8w_v _)) ?_
  obtain ⟨ho_1, hM⟩ := hM
  refine HO.val (v := .string (bs (cut ([48, 49, 50, 51, 52, 53, 54, 55, 56, 57, 97, 98, 99, 100, 101, 102] : Str) n ((u8w (n + 1)).toNat : Int)))) (want_none) rfl (q_strLH Tryd.underlying9 rfl rfl rfl ho_1) ?_
  refine HO.val (v := .string (bs (cut ([48, 49, 50, 51, 52, 53, 54, 55, 56, 57, 97, 98, 99, 100, 101, 102] : Str) n ((u8w (n + 1)).toNat : Int)))) (want_none) rfl (q_assign rfl) ?_
  refine HO.nil (thenQ_normal (?_))
  refine HW.ret (?_)
  refine ⟨.inr rfl, .string (bs (cut ([48, 49, 50, 51, 52, 53, 54, 55, 56, 57, 97, 98, 99, 100, 101, 102] : Str) n ((u8w (n + 1)).toNat : Int))), res1 rfl (rt rfl), ?_⟩
  exact ⟨F, cut ([48, 49, 50, 51, 52, 53, 54, 55, 56, 57, 97, 98, 99, 100, 101, 102] : Str) n ((u8w (n + 1)).toNat : Int), rfl, hK, hS, hM⟩

def ref03_Num_j1 (base : Int) (n_1 : Int) (s_1 : Str) (K_1 : Int → Str → Prop) : Prop :=
  (base ≠ 0) ∧ (ref01_Sign_W ((u8w (n_1.tmod base)).toNat : Int) (fun r_2 => ((r_2.length : Int) + (s_1.length : Int) ≤ 9223372036854775807) ∧ ((I64 (n_1.tdiv base)) ∧ (K_1 (n_1.tdiv base) (r_2 ++ s_1)))))
def ref03_Num_l1 (base : Int) (Q : Str → Prop) (K_1 : Int → Str → Prop) (n_1 : Int) (s_1 : Str) : Prop :=
  ((s_1 : Str) = [] → ref03_Num_j1 base n_1 s_1 K_1) ∧ (¬ ((s_1 : Str) = []) → (0 < n_1 → ref03_Num_j1 base n_1 s_1 K_1) ∧ (¬ (0 < n_1) → Q s_1))
def ref03_Num_W (n : Int) (base : Int) (Q : Str → Prop) : Prop :=
  loopW (fun (K_1 : (Int × Str) → Prop) (s : Int × Str) => ref03_Num_l1 base Q (fun n_1 s_1 => K_1 (n_1, s_1)) s.1 s.2) (n, [])
set_option maxHeartbeats 40000000 in
set_option maxRecDepth 100000 in
theorem ref03_Num_walk {F : Fz} {fr : List Ow} {h0 : Heap} (n : Int) (base : Int) (hS : St F (fr) h0)  {Q : Str → Prop} (hM : ref03_Num_W n base Q) :
    HC Tryd.prog 30 #[.int .i64 n, .int .i64 base] h0 fun u h' => ∃ (F' : Fz) (r_1 : Str), u = .string (bs r_1) ∧ Kp F h0 F' h' ∧ St F' (fr) h' ∧ Q r_1 := by
  unfold ref03_Num_W at hM
  have hK := Kp.refl F h0
  refine HC.of_HW (n := 23) Tryd.func30 rfl rfl (Nat.le_of_ble_eq_true rfl) ?_
  refine HW.seq ?_
  refine HW.region ?_
  refine HO.val (v := .string (bs [])) (want_none) rfl (q_assign rfl) ?_
  refine HO.nil (thenQ_normal (?_))
  refine HW.seq ?_
  refine HW.region ?_
  refine HO.val (v := .string (bs [])) (want_none) rfl (q_assign rfl) ?_
  refine HO.nil (thenQ_normal (?_))
  refine HW.seq ?_
  refine HW.block ?_
  obtain ⟨I_1, m_1, hI_1, hR_1⟩ := hM
  refine HW.loop (S := Int × Str) (fun s f h => match s with | (n_1, s_1) => ∃ (F' : Fz), f 0 = .int .i64 n_1 ∧ f 1 = .int .i64 base ∧ f 4 = .string (bs []) ∧ f 5 = .string (bs s_1) ∧ Kp F h0 F' h ∧ St F' (fr) h ∧ I_1 (n_1, s_1)) m_1 (n, []) ⟨F, rfl, rfl, rfl, rfl, hK, hS, hI_1⟩ ?_
  rintro ⟨n_1, s_1⟩ f_1 h_1 ⟨F_1, e0, e1, e4, e5, hK, hS, hI0⟩
  obtain ⟨K_1, hKe_1⟩ : ∃ K : Int → Str → Prop, K = fun n_1' s_1' => I_1 (n_1', s_1') ∧ m_1 (n_1', s_1') < m_1 (n_1, s_1) := ⟨_, rfl⟩
  have hM : ref03_Num_l1 base Q K_1 n_1 s_1 := by rw [hKe_1]; exact hR_1 (n_1, s_1) hI0
  unfold ref03_Num_l1 at hM
  refine HW.fr [(0, .int .i64 n_1), (1, .int .i64 base), (4, .string (bs [])), (5, .string (bs s_1))] ⟨e0, e1, e4, e5, trivial⟩ ?_
  refine HW.seq_mid (fun f h => ∃ (F' : Fz), f 0 = .int .i64 n_1 ∧ f 1 = .int .i64 base ∧ f 4 = .string (bs []) ∧ f 5 = .string (bs s_1) ∧ Kp F h0 F' h ∧ St F' (fr) h ∧ ref03_Num_j1 base n_1 s_1 K_1) ?_ ?_
  · refine HW.seq ?_
    refine HW.region ?_
    refine HO.val (v := .string (bs s_1)) (want_none) rfl (q_move rfl) ?_
    refine HO.val (v := .bool (decide ((s_1 : Str) = []))) (want_none) rfl (q_eqlT rfl rfl) ?_
    refine HO.val (v := .bool (decide ((s_1 : Str) = []))) (want_none) rfl (q_move rfl) ?_
    rcases Bool.eq_false_or_eq_true (decide ((s_1 : Str) = [])) with c_1 | c_1
    · replace hM := hM.1 (of_decide_eq_true c_1)
      refine HO.past (past_by rfl rfl c_1) rfl ?_
      refine HO.past (past_by rfl rfl c_1) rfl ?_
      refine HO.val (v := .bool true) (want_none) rfl (q_pickK true rfl c_1 rfl) ?_
      refine HO.nil (thenQ_normal (?_))
      refine HW.condT rfl ?_
      refine HW.skip (thenQ_normal (?_))
      exact ⟨F_1, rfl, rfl, rfl, rfl, hK, hS, hM⟩
    · replace hM := hM.2 (of_decide_eq_false c_1)
      refine HO.val (v := .int .i64 n_1) (want_by rfl rfl c_1) rfl (q_move rfl) ?_
      refine HO.val (v := .bool (decide (0 < n_1))) (want_by rfl rfl c_1) rfl (q_gtr rfl rfl) ?_
      refine HO.val (v := .bool (decide (0 < n_1))) (want_none) rfl (q_pickK false rfl c_1 rfl) ?_
      refine HO.nil (thenQ_normal (?_))
      refine HW.cond (decide (0 < n_1)) rfl (fun c_2 => ?_) (fun c_2 => ?_)
      · replace hM := hM.1 (of_decide_eq_true c_2)
        refine HW.skip (thenQ_normal (?_))
        exact ⟨F_1, rfl, rfl, rfl, rfl, hK, hS, hM⟩
      · replace hM := hM.2 (of_decide_eq_false c_2)
        refine HW.exit (thenQ_exit (thenQ_exit (blockQ_exit (thenQ_normal (?_)))))
        refine HW.seq ?_
        refine HW.region ?_
        refine HO.val (v := .string (bs s_1)) (want_none) rfl (q_move rfl) ?_
        refine HO.val (v := .string (bs s_1)) (want_none) rfl (q_assign rfl) ?_
        refine HO.nil (thenQ_normal (?_))
        refine HW.ret (?_)
        refine ⟨.inr rfl, .string (bs s_1), res1 rfl (rt rfl), ?_⟩
        exact ⟨F_1, s_1, rfl, hK, hS, hM⟩
  · rintro f_2 h_2 ⟨F_2, e0, e1, e4, e5, hK, hS, hM⟩
    unfold ref03_Num_j1 at hM
    refine HW.fr [(0, .int .i64 n_1), (1, .int .i64 base), (4, .string (bs [])), (5, .string (bs s_1))] ⟨e0, e1, e4, e5, trivial⟩ ?_
    refine HW.block ?_
    refine HW.seq ?_
    refine HW.region ?_
    refine HO.val (v := .int .i64 n_1) (want_none) rfl (q_move rfl) ?_
    refine HO.val (v := .int .i64 base) (want_none) rfl (q_move rfl) ?_
    obtain ⟨ho_1, hM⟩ := hM
    refine HO.val (v := .int .i64 (n_1.tmod base)) (want_none) rfl (q_rem rfl rfl ho_1) ?_
    refine HO.val (v := .int .u8 ((u8w (n_1.tmod base)).toNat : Int)) (want_none) rfl ((q_convInt (n := n_1.tmod base) Tryd.underlying3 Tryd.underlying5 rfl rfl).of_eq (u8w_v _)) ?_
    refine HO.call (want_none) rfl (ec en_33 rfl rfl) (ref01_Sign_walk (fr := (fr)) ((u8w (n_1.tmod base)).toNat : Int) hS hM) ?_
    rintro _ h_3 ⟨F_3, r_2, rfl, hk, hS, hM⟩
    replace hK := hK.trans hk
    refine HO.val (v := .string (bs s_1)) (want_none) rfl (q_move rfl) ?_
    obtain ⟨ho_2, hM⟩ := hM
    refine HO.val (v := .string (bs (r_2 ++ s_1))) (want_none) rfl (q_addT rfl rfl ho_2) ?_
    refine HO.val (v := .string (bs (r_2 ++ s_1))) (want_none) rfl (q_assign rfl) ?_
    refine HO.nil (thenQ_normal (?_))
    refine HW.region ?_
    refine HO.val (v := .int .i64 n_1) (want_none) rfl (q_move rfl) ?_
    refine HO.val (v := .int .i64 base) (want_none) rfl (q_move rfl) ?_
    obtain ⟨ho_3, hM⟩ := hM
    refine HO.val (v := .int .i64 (n_1.tdiv base)) (want_none) rfl (q_quoN _ rfl rfl ho_1 rfl ho_3.1 ho_3.2) ?_
    refine HO.val (v := .int .i64 (n_1.tdiv base)) (want_none) rfl (q_assign rfl) ?_
    refine HO.nil (blockQ_normal (thenQ_normal (?_)))
    rw [hKe_1] at hM
    exact ⟨(n_1.tdiv base, r_2 ++ s_1), ⟨F_3, rfl, rfl, rfl, rfl, hK, hS, hM.1⟩, hM.2⟩

def ref03_Print_j1 (a : T_api_Addr) (i_1 : Int) (K_1 : Str → Int → Prop) (s_2 : Str) : Prop :=
  ((0 : Int) ≤ i_1 ∧ i_1 < 16) ∧ ((I64 (b8 a.2 i_1)) ∧ (ref03_Num_W (b8 a.2 i_1) 10 (fun r_2 => ((s_2.length : Int) + (r_2.length : Int) ≤ 9223372036854775807) ∧ ((I64 (i_1 + 1)) ∧ (K_1 (s_2 ++ r_2) (i_1 + 1))))))
def ref03_Print_l1 (a : T_api_Addr) (Q : Str → Prop) (K_1 : Str → Int → Prop) (s_1 : Str) (i_1 : Int) : Prop :=
  (i_1 < 4 → (0 < i_1 → ((s_1.length : Int) + ((([46] : Str)).length : Int) ≤ 9223372036854775807) ∧ (ref03_Print_j1 a i_1 K_1 (s_1 ++ ([46] : Str)))) ∧ (¬ (0 < i_1) → ref03_Print_j1 a i_1 K_1 s_1)) ∧ (¬ (i_1 < 4) → Q s_1)
def ref03_Print_j2 (n_1 : Int) (n_2 : Int) (i_2 : Int) (K_2 : Int → Int → Int → Prop) (k_1 : Int) : Prop :=
  (n_2 < k_1 → (I64 (i_2 + 1)) ∧ (K_2 i_2 k_1 (i_2 + 1))) ∧ (¬ (n_2 < k_1) → (I64 (i_2 + 1)) ∧ (K_2 n_1 n_2 (i_2 + 1)))
def ref03_Print_l3 (a : T_api_Addr) (n_1 : Int) (n_2 : Int) (i_2 : Int) (K_2 : Int → Int → Int → Prop) (K_3 : Int → Prop) (k_2 : Int) : Prop :=
  (I64 (i_2 + k_2)) ∧ (((i_2 + k_2) < 8 → (I64 (2 * (i_2 + k_2))) ∧ (((0 : Int) ≤ 2 * (i_2 + k_2) ∧ 2 * (i_2 + k_2) < 16) ∧ (((b8 a.2 (2 * (i_2 + k_2))) = 0 → (I64 ((2 * (i_2 + k_2)) + 1)) ∧ (((0 : Int) ≤ (2 * (i_2 + k_2)) + 1 ∧ (2 * (i_2 + k_2)) + 1 < 16) ∧ (((b8 a.2 ((2 * (i_2 + k_2)) + 1)) = 0 → (I64 (k_2 + 1)) ∧ (K_3 (k_2 + 1))) ∧ (¬ ((b8 a.2 ((2 * (i_2 + k_2)) + 1)) = 0) → ref03_Print_j2 n_1 n_2 i_2 K_2 k_2)))) ∧ (¬ ((b8 a.2 (2 * (i_2 + k_2))) = 0) → ref03_Print_j2 n_1 n_2 i_2 K_2 k_2)))) ∧ (¬ ((i_2 + k_2) < 8) → ref03_Print_j2 n_1 n_2 i_2 K_2 k_2))
def ref03_Print_j3 (a : T_api_Addr) (i_3 : Int) (K_4 : Str → Int → Prop) (s_4 : Str) : Prop :=
  (I64 (2 * i_3)) ∧ (((0 : Int) ≤ 2 * i_3 ∧ 2 * i_3 < 16) ∧ ((I64 (b8 a.2 (2 * i_3))) ∧ ((I64 (256 * (b8 a.2 (2 * i_3)))) ∧ ((I64 ((2 * i_3) + 1)) ∧ (((0 : Int) ≤ (2 * i_3) + 1 ∧ (2 * i_3) + 1 < 16) ∧ ((I64 (b8 a.2 ((2 * i_3) + 1))) ∧ ((I64 ((256 * (b8 a.2 (2 * i_3))) + (b8 a.2 ((2 * i_3) + 1)))) ∧ (ref03_Num_W ((256 * (b8 a.2 (2 * i_3))) + (b8 a.2 ((2 * i_3) + 1))) 16 (fun r_3 => ((s_4.length : Int) + (r_3.length : Int) ≤ 9223372036854775807) ∧ ((I64 (i_3 + 1)) ∧ (K_4 (s_4 ++ r_3) (i_3 + 1))))))))))))
def ref03_Print_l4 (a : T_api_Addr) (Q : Str → Prop) (n_1 : Int) (n_2 : Int) (K_4 : Str → Int → Prop) (s_3 : Str) (i_3 : Int) : Prop :=
  (i_3 < 8 → (i_3 = n_1 → ((s_3.length : Int) + ((([58, 58] : Str)).length : Int) ≤ 9223372036854775807) ∧ ((I64 (i_3 + n_2)) ∧ ((I64 ((i_3 + n_2) - 1)) ∧ ((I64 (((i_3 + n_2) - 1) + 1)) ∧ (K_4 (s_3 ++ ([58, 58] : Str)) (((i_3 + n_2) - 1) + 1)))))) ∧ (¬ (i_3 = n_1) → (¬ ((s_3 : Str) = []) → (I64 ((s_3.length : Int) - 1)) ∧ (((0 : Int) ≤ (s_3.length : Int) - 1 ∧ (s_3.length : Int) - 1 < (s_3.length : Int)) ∧ ((¬ (((gi s_3 ((s_3.length : Int) - 1)).toNat : Int) = 58) → ((s_3.length : Int) + ((([58] : Str)).length : Int) ≤ 9223372036854775807) ∧ (ref03_Print_j3 a i_3 K_4 (s_3 ++ ([58] : Str)))) ∧ (((gi s_3 ((s_3.length : Int) - 1)).toNat : Int) = 58 → ref03_Print_j3 a i_3 K_4 s_3)))) ∧ ((s_3 : Str) = [] → ref03_Print_j3 a i_3 K_4 s_3))) ∧ (¬ (i_3 < 8) → Q s_3)
def ref03_Print_l2 (a : T_api_Addr) (Q : Str → Prop) (K_2 : Int → Int → Int → Prop) (n_1 : Int) (n_2 : Int) (i_2 : Int) : Prop :=
  (i_2 < 8 → loopW (fun (K_3 : Int → Prop) (s : Int) => ref03_Print_l3 a n_1 n_2 i_2 K_2 K_3 s) 0) ∧ (¬ (i_2 < 8) → loopW (fun (K_4 : (Str × Int) → Prop) (s : Str × Int) => ref03_Print_l4 a Q n_1 n_2 (fun s_3 i_3 => K_4 (s_3, i_3)) s.1 s.2) ([], 0))
def ref03_Print_W (a : T_api_Addr) (Q : Str → Prop) : Prop :=
  ((!a.1) = true → loopW (fun (K_1 : (Str × Int) → Prop) (s : Str × Int) => ref03_Print_l1 a Q (fun s_1 i_1 => K_1 (s_1, i_1)) s.1 s.2) ([], 0)) ∧ ((!a.1) = false → loopW (fun (K_2 : (Int × Int × Int) → Prop) (s : Int × Int × Int) => ref03_Print_l2 a Q (fun n_1 n_2 i_2 => K_2 (n_1, n_2, i_2)) s.1 s.2.1 s.2.2) ((-1), 1, 0))
set_option maxHeartbeats 40000000 in
set_option maxRecDepth 100000 in
theorem ref03_Print_walk {F : Fz} {fr : List Ow} {h0 : Heap} (a : T_api_Addr) (hS : St F (fr) h0)  {Q : Str → Prop} (hM : ref03_Print_W a Q) :
    HC Tryd.prog 16 #[.agg (e_api_Addr a).toArray] h0 fun u h' => ∃ (F' : Fz) (r_1 : Str), u = .string (bs r_1) ∧ Kp F h0 F' h' ∧ St F' (fr) h' ∧ Q r_1 := by
  unfold ref03_Print_W at hM
  have hK := Kp.refl F h0
  refine HC.of_HW (n := 110) Tryd.func16 rfl rfl (Nat.le_of_ble_eq_true rfl) ?_
  refine HW.seq ?_
  refine HW.region ?_
  refine HO.eff (want_none) rfl (st_box (c := (e_api_Addr a).toArray) (k' := 17) hS rfl rfl) ?_
  rintro _ h_1 ⟨b_1, rfl, hS, hk⟩
  replace hK := hK.trans hk
  refine HO.val (v := .string (bs [])) (want_none) rfl (q_assign rfl) ?_
  refine HO.nil (thenQ_normal (?_))
  refine HW.seq ?_
  refine HW.region ?_
  refine HO.val (v := .string (bs [])) (want_none) rfl (q_assign rfl) ?_
  refine HO.nil (thenQ_normal (?_))
  refine HW.seq ?_
  refine HW.seq ?_
  refine HW.region ?_
  refine HO.val (v := .pointer (some ⟨b_1, 0, none⟩)) (want_none) rfl (q_fieldAddr fa_25_0 rfl rfl) ?_
  refine HO.val (v := .bool a.1) (want_none) rfl (q_load to_4 rfl (Blk.cell (hS.box 0 rfl) rfl)) ?_
  refine HO.val (v := .bool (!a.1)) (want_none) rfl (q_not rfl) ?_
  refine HO.nil (thenQ_normal (?_))
  refine HW.cond (!a.1) rfl (fun c_1 => ?_) (fun c_1 => ?_)
  · replace hM := hM.1 c_1
    refine HW.seq ?_
    refine HW.seq ?_
    refine HW.region ?_
    refine HO.val (v := .int .i64 0) (want_none) rfl (q_assign rfl) ?_
    refine HO.nil (thenQ_normal (?_))
    refine HW.block ?_
    obtain ⟨I_1, m_1, hI_1, hR_1⟩ := hM
    refine HW.loop (S := Str × Int) (fun s f h => match s with | (s_1, i_1) => ∃ (F' : Fz), f 1 = .pointer (some ⟨b_1, 0, none⟩) ∧ f 2 = .string (bs []) ∧ f 3 = .string (bs s_1) ∧ f 4 = .int .i64 i_1 ∧ Kp F h0 F' h ∧ St F' (Ow.box b_1 25 (e_api_Addr a).toArray :: fr) h ∧ I_1 (s_1, i_1)) m_1 ([], 0) ⟨F, rfl, rfl, rfl, rfl, hK, hS, hI_1⟩ ?_
    rintro ⟨s_1, i_1⟩ f_1 h_2 ⟨F_1, e1, e2, e3, e4, hK, hS, hI0⟩
    obtain ⟨K_1, hKe_1⟩ : ∃ K : Str → Int → Prop, K = fun s_1' i_1' => I_1 (s_1', i_1') ∧ m_1 (s_1', i_1') < m_1 (s_1, i_1) := ⟨_, rfl⟩
    have hM : ref03_Print_l1 a Q K_1 s_1 i_1 := by rw [hKe_1]; exact hR_1 (s_1, i_1) hI0
    unfold ref03_Print_l1 at hM
    refine HW.fr [(1, .pointer (some ⟨b_1, 0, none⟩)), (2, .string (bs [])), (3, .string (bs s_1)), (4, .int .i64 i_1)] ⟨e1, e2, e3, e4, trivial⟩ ?_
    refine HW.seq ?_
    refine HW.seq ?_
    refine HW.region ?_
    refine HO.val (v := .int .i64 i_1) (want_none) rfl (q_move rfl) ?_
    refine HO.val (v := .bool (decide (i_1 < 4))) (want_none) rfl (q_lss rfl rfl) ?_
    refine HO.nil (thenQ_normal (?_))
    refine HW.cond (decide (i_1 < 4)) rfl (fun c_2 => ?_) (fun c_2 => ?_)
    · replace hM := hM.1 (of_decide_eq_true c_2)
      refine HW.skip (thenQ_normal (?_))
      refine HW.seq ?_
      refine HW.block ?_
      refine HW.seq_mid (fun f h => ∃ (F' : Fz) (s_2 : Str), f 1 = .pointer (some ⟨b_1, 0, none⟩) ∧ f 2 = .string (bs []) ∧ f 3 = .string (bs s_2) ∧ f 4 = .int .i64 i_1 ∧ Kp F h0 F' h ∧ St F' (Ow.box b_1 25 (e_api_Addr a).toArray :: fr) h ∧ ref03_Print_j1 a i_1 K_1 s_2) ?_ ?_
      · refine HW.seq ?_
        refine HW.region ?_
        refine HO.val (v := .int .i64 i_1) (want_none) rfl (q_move rfl) ?_
        refine HO.val (v := .bool (decide (0 < i_1))) (want_none) rfl (q_gtr rfl rfl) ?_
        refine HO.nil (thenQ_normal (?_))
        refine HW.cond (decide (0 < i_1)) rfl (fun c_3 => ?_) (fun c_3 => ?_)
        · replace hM := hM.1 (of_decide_eq_true c_3)
          refine HW.region ?_
          refine HO.val (v := .string (bs s_1)) (want_none) rfl (q_move rfl) ?_
          obtain ⟨ho_1, hM⟩ := hM
          refine HO.val (v := .string (bs (s_1 ++ ([46] : Str)))) (want_none) rfl (q_addT rfl rfl ho_1) ?_
          refine HO.val (v := .string (bs (s_1 ++ ([46] : Str)))) (want_none) rfl (q_assign rfl) ?_
          refine HO.nil (thenQ_normal (?_))
          exact ⟨F_1, s_1 ++ ([46] : Str), rfl, rfl, rfl, rfl, hK, hS, hM⟩
        · replace hM := hM.2 (of_decide_eq_false c_3)
          refine HW.skip (thenQ_normal (?_))
          exact ⟨F_1, s_1, rfl, rfl, rfl, rfl, hK, hS, hM⟩
      · rintro f_2 h_3 ⟨F_2, s_2, e1, e2, e3, e4, hK, hS, hM⟩
        unfold ref03_Print_j1 at hM
        refine HW.fr [(1, .pointer (some ⟨b_1, 0, none⟩)), (2, .string (bs [])), (3, .string (bs s_2)), (4, .int .i64 i_1)] ⟨e1, e2, e3, e4, trivial⟩ ?_
        refine HW.region ?_
        refine HO.val (v := .string (bs s_2)) (want_none) rfl (q_move rfl) ?_
        refine HO.val (v := .int .i64 i_1) (want_none) rfl (q_move rfl) ?_
        refine HO.val (v := .pointer (some ⟨b_1, 1, none⟩)) (want_none) rfl (q_fieldAddr fa_25_1 rfl rfl) ?_
        obtain ⟨ho_2, hM⟩ := hM
        refine HO.val (v := .pointer (some ⟨b_1, 1 + (i_1).toNat, none⟩)) (want_none) rfl (q_idxA (o := 1) (t := i_1) tr_23 rfl rfl ho_2) ?_
        refine HO.val (v := .int .u8 (b8 a.2 i_1)) (want_none) rfl (q_ldArr (o := 1) (t := i_1) (X := a.2) to_5 rfl (hS.box 0 rfl) rfl ho_2) ?_
        obtain ⟨ho_3, hM⟩ := hM
        refine HO.val (v := .int .i64 (b8 a.2 i_1)) (want_none) rfl (q_convInt Tryd.underlying5 Tryd.underlying3 rfl (wrap_i64 ho_3.1 ho_3.2)) ?_
        refine HO.call (want_none) rfl (ec en_30 rfl rfl) (ref03_Num_walk (fr := (Ow.box b_1 25 (e_api_Addr a).toArray :: fr)) (b8 a.2 i_1) 10 hS hM) ?_
        rintro _ h_4 ⟨F_3, r_2, rfl, hk, hS, hM⟩
        replace hK := hK.trans hk
        obtain ⟨ho_4, hM⟩ := hM
        refine HO.val (v := .string (bs (s_2 ++ r_2))) (want_none) rfl (q_addT rfl rfl ho_4) ?_
        refine HO.val (v := .string (bs (s_2 ++ r_2))) (want_none) rfl (q_assign rfl) ?_
        refine HO.nil (blockQ_normal (thenQ_normal (?_)))
        refine HW.region ?_
        refine HO.val (v := .int .i64 i_1) (want_none) rfl (q_move rfl) ?_
        obtain ⟨ho_5, hM⟩ := hM
        refine HO.val (v := .int .i64 (i_1 + 1)) (want_none) rfl (q_addN _ rfl rfl rfl ho_5.1 ho_5.2) ?_
        refine HO.val (v := .int .i64 (i_1 + 1)) (want_none) rfl (q_assign rfl) ?_
        refine HO.nil (thenQ_normal (?_))
        rw [hKe_1] at hM
        exact ⟨(s_2 ++ r_2, i_1 + 1), ⟨F_3, rfl, rfl, rfl, rfl, hK, hS, hM.1⟩, hM.2⟩
    · replace hM := hM.2 (of_decide_eq_false c_2)
      refine HW.exit (thenQ_exit (thenQ_exit (blockQ_exit (thenQ_normal (?_)))))
      refine HW.seq ?_
      refine HW.region ?_
      refine HO.val (v := .string (bs s_1)) (want_none) rfl (q_move rfl) ?_
      refine HO.val (v := .string (bs s_1)) (want_none) rfl (q_assign rfl) ?_
      refine HO.nil (thenQ_normal (?_))
      refine HW.ret (thenQ_ret (?_))
      refine ⟨.inr rfl, .string (bs s_1), res1 rfl (rt rfl), ?_⟩
      replace hS : St F_1 (fr) h_2 := hS.perm2 [] 1 rfl rfl
      exact ⟨F_1, s_1, rfl, hK, hS, hM⟩
  · replace hM := hM.2 c_1
    refine HW.skip (thenQ_normal (?_))
    refine HW.seq ?_
    refine HW.region ?_
    refine HO.val (v := .int .i64 (-1)) (want_none) rfl (q_assign rfl) ?_
    refine HO.val (v := .int .i64 1) (want_none) rfl (q_assign rfl) ?_
    refine HO.nil (thenQ_normal (?_))
    refine HW.seq ?_
    refine HW.seq ?_
    refine HW.region ?_
    refine HO.val (v := .int .i64 0) (want_none) rfl (q_assign rfl) ?_
    refine HO.nil (thenQ_normal (?_))
    refine HW.block ?_
    obtain ⟨I_2, m_2, hI_2, hR_2⟩ := hM
    refine HW.loop (S := Int × Int × Int) (fun s f h => match s with | (n_1, n_2, i_2) => ∃ (F' : Fz), f 1 = .pointer (some ⟨b_1, 0, none⟩) ∧ f 2 = .string (bs []) ∧ f 3 = .string (bs []) ∧ f 5 = .int .i64 n_1 ∧ f 6 = .int .i64 n_2 ∧ f 7 = .int .i64 i_2 ∧ Kp F h0 F' h ∧ St F' (Ow.box b_1 25 (e_api_Addr a).toArray :: fr) h ∧ I_2 (n_1, n_2, i_2)) m_2 ((-1), 1, 0) ⟨F, rfl, rfl, rfl, rfl, rfl, rfl, hK, hS, hI_2⟩ ?_
    rintro ⟨n_1, n_2, i_2⟩ f_3 h_5 ⟨F_4, e1, e2, e3, e5, e6, e7, hK, hS, hI0⟩
    obtain ⟨K_2, hKe_2⟩ : ∃ K : Int → Int → Int → Prop, K = fun n_1' n_2' i_2' => I_2 (n_1', n_2', i_2') ∧ m_2 (n_1', n_2', i_2') < m_2 (n_1, n_2, i_2) := ⟨_, rfl⟩
    have hM : ref03_Print_l2 a Q K_2 n_1 n_2 i_2 := by rw [hKe_2]; exact hR_2 (n_1, n_2, i_2) hI0
    unfold ref03_Print_l2 at hM
    refine HW.fr [(1, .pointer (some ⟨b_1, 0, none⟩)), (2, .string (bs [])), (3, .string (bs [])), (5, .int .i64 n_1), (6, .int .i64 n_2), (7, .int .i64 i_2)] ⟨e1, e2, e3, e5, e6, e7, trivial⟩ ?_
    refine HW.seq ?_
    refine HW.seq ?_
    refine HW.region ?_
    refine HO.val (v := .int .i64 i_2) (want_none) rfl (q_move rfl) ?_
    refine HO.val (v := .bool (decide (i_2 < 8))) (want_none) rfl (q_lss rfl rfl) ?_
    refine HO.nil (thenQ_normal (?_))
    refine HW.cond (decide (i_2 < 8)) rfl (fun c_4 => ?_) (fun c_4 => ?_)
    · replace hM := hM.1 (of_decide_eq_true c_4)
      refine HW.skip (thenQ_normal (?_))
      refine HW.seq ?_
      refine HW.block ?_
      refine HW.seq ?_
      refine HW.region ?_
      refine HO.val (v := .int .i64 0) (want_none) rfl (q_assign rfl) ?_
      refine HO.nil (thenQ_normal (?_))
      refine HW.seq_mid (fun f h => ∃ (F' : Fz) (k_1 : Int), f 1 = .pointer (some ⟨b_1, 0, none⟩) ∧ f 2 = .string (bs []) ∧ f 3 = .string (bs []) ∧ f 5 = .int .i64 n_1 ∧ f 6 = .int .i64 n_2 ∧ f 7 = .int .i64 i_2 ∧ f 8 = .int .i64 k_1 ∧ Kp F h0 F' h ∧ St F' (Ow.box b_1 25 (e_api_Addr a).toArray :: fr) h ∧ ref03_Print_j2 n_1 n_2 i_2 K_2 k_1) ?_ ?_
      · refine HW.block ?_
        obtain ⟨I_3, m_3, hI_3, hR_3⟩ := hM
        refine HW.loop (S := Int) (fun k_2 f h => ∃ (F' : Fz), f 1 = .pointer (some ⟨b_1, 0, none⟩) ∧ f 2 = .string (bs []) ∧ f 3 = .string (bs []) ∧ f 5 = .int .i64 n_1 ∧ f 6 = .int .i64 n_2 ∧ f 7 = .int .i64 i_2 ∧ f 8 = .int .i64 k_2 ∧ Kp F h0 F' h ∧ St F' (Ow.box b_1 25 (e_api_Addr a).toArray :: fr) h ∧ I_3 k_2) m_3 0 ⟨F_4, rfl, rfl, rfl, rfl, rfl, rfl, rfl, hK, hS, hI_3⟩ ?_
        rintro k_2 f_4 h_6 ⟨F_5, e1, e2, e3, e5, e6, e7, e8, hK, hS, hI0⟩
        obtain ⟨K_3, hKe_3⟩ : ∃ K : Int → Prop, K = fun k_2' => I_3 k_2' ∧ m_3 k_2' < m_3 k_2 := ⟨_, rfl⟩
        have hM : ref03_Print_l3 a n_1 n_2 i_2 K_2 K_3 k_2 := by rw [hKe_3]; exact hR_3 k_2 hI0
        unfold ref03_Print_l3 at hM
        refine HW.fr [(1, .pointer (some ⟨b_1, 0, none⟩)), (2, .string (bs [])), (3, .string (bs [])), (5, .int .i64 n_1), (6, .int .i64 n_2), (7, .int .i64 i_2), (8, .int .i64 k_2)] ⟨e1, e2, e3, e5, e6, e7, e8, trivial⟩ ?_
        refine HW.seq ?_
        refine HW.seq ?_
        refine HW.region ?_
        refine HO.val (v := .int .i64 i_2) (want_none) rfl (q_move rfl) ?_
        refine HO.val (v := .int .i64 k_2) (want_none) rfl (q_move rfl) ?_
        obtain ⟨ho_6, hM⟩ := hM
        refine HO.val (v := .int .i64 (i_2 + k_2)) (want_none) rfl (q_addN _ rfl rfl rfl ho_6.1 ho_6.2) ?_
        refine HO.val (v := .bool (decide ((i_2 + k_2) < 8))) (want_none) rfl (q_lss rfl rfl) ?_
        refine HO.val (v := .bool (decide ((i_2 + k_2) < 8))) (want_none) rfl (q_move rfl) ?_
        rcases Bool.eq_false_or_eq_true (decide ((i_2 + k_2) < 8)) with c_5 | c_5
        · replace hM := hM.1 (of_decide_eq_true c_5)
          refine HO.val (v := .int .i64 i_2) (want_by rfl rfl c_5) rfl (q_move rfl) ?_
          refine HO.val (v := .int .i64 k_2) (want_by rfl rfl c_5) rfl (q_move rfl) ?_
          refine HO.val (v := .int .i64 (i_2 + k_2)) (want_by rfl rfl c_5) rfl (q_addN _ rfl rfl rfl ho_6.1 ho_6.2) ?_
          obtain ⟨ho_7, hM⟩ := hM
          refine HO.val (v := .int .i64 (2 * (i_2 + k_2))) (want_by rfl rfl c_5) rfl (q_mulN _ rfl rfl rfl ho_7.1 ho_7.2) ?_
          refine HO.val (v := .pointer (some ⟨b_1, 1, none⟩)) (want_by rfl rfl c_5) rfl (q_fieldAddr fa_25_1 rfl rfl) ?_
          obtain ⟨ho_8, hM⟩ := hM
          refine HO.val (v := .pointer (some ⟨b_1, 1 + (2 * (i_2 + k_2)).toNat, none⟩)) (want_by rfl rfl c_5) rfl (q_idxA (o := 1) (t := 2 * (i_2 + k_2)) tr_23 rfl rfl ho_8) ?_
          refine HO.val (v := .int .u8 (b8 a.2 (2 * (i_2 + k_2)))) (want_by rfl rfl c_5) rfl (q_ldArr (o := 1) (t := 2 * (i_2 + k_2)) (X := a.2) to_5 rfl (hS.box 0 rfl) rfl ho_8) ?_
          refine HO.val (v := .bool (decide ((b8 a.2 (2 * (i_2 + k_2))) = 0))) (want_by rfl rfl c_5) rfl (q_eql rfl rfl) ?_
          refine HO.val (v := .bool (decide ((b8 a.2 (2 * (i_2 + k_2))) = 0))) (want_none) rfl (q_pickK true rfl c_5 rfl) ?_
          refine HO.val (v := .bool (decide ((b8 a.2 (2 * (i_2 + k_2))) = 0))) (want_none) rfl (q_move rfl) ?_
          rcases Bool.eq_false_or_eq_true (decide ((b8 a.2 (2 * (i_2 + k_2))) = 0)) with c_6 | c_6
          · replace hM := hM.1 (of_decide_eq_true c_6)
            refine HO.val (v := .int .i64 i_2) (want_by rfl rfl c_6) rfl (q_move rfl) ?_
            refine HO.val (v := .int .i64 k_2) (want_by rfl rfl c_6) rfl (q_move rfl) ?_
            refine HO.val (v := .int .i64 (i_2 + k_2)) (want_by rfl rfl c_6) rfl (q_addN _ rfl rfl rfl ho_6.1 ho_6.2) ?_
            refine HO.val (v := .int .i64 (2 * (i_2 + k_2))) (want_by rfl rfl c_6) rfl (q_mulN _ rfl rfl rfl ho_7.1 ho_7.2) ?_
            obtain ⟨ho_9, hM⟩ := hM
            refine HO.val (v := .int .i64 ((2 * (i_2 + k_2)) + 1)) (want_by rfl rfl c_6) rfl (q_addN _ rfl rfl rfl ho_9.1 ho_9.2) ?_
            refine HO.val (v := .pointer (some ⟨b_1, 1, none⟩)) (want_by rfl rfl c_6) rfl (q_fieldAddr fa_25_1 rfl rfl) ?_
            obtain ⟨ho_10, hM⟩ := hM
            refine HO.val (v := .pointer (some ⟨b_1, 1 + ((2 * (i_2 + k_2)) + 1).toNat, none⟩)) (want_by rfl rfl c_6) rfl (q_idxA (o := 1) (t := (2 * (i_2 + k_2)) + 1) tr_23 rfl rfl ho_10) ?_
            refine HO.val (v := .int .u8 (b8 a.2 ((2 * (i_2 + k_2)) + 1))) (want_by rfl rfl c_6) rfl (q_ldArr (o := 1) (t := (2 * (i_2 + k_2)) + 1) (X := a.2) to_5 rfl (hS.box 0 rfl) rfl ho_10) ?_
            refine HO.val (v := .bool (decide ((b8 a.2 ((2 * (i_2 + k_2)) + 1)) = 0))) (want_by rfl rfl c_6) rfl (q_eql rfl rfl) ?_
            refine HO.val (v := .bool (decide ((b8 a.2 ((2 * (i_2 + k_2)) + 1)) = 0))) (want_none) rfl (q_pickK true rfl c_6 rfl) ?_
            refine HO.nil (thenQ_normal (?_))
            refine HW.cond (decide ((b8 a.2 ((2 * (i_2 + k_2)) + 1)) = 0)) rfl (fun c_7 => ?_) (fun c_7 => ?_)
            · replace hM := hM.1 (of_decide_eq_true c_7)
              refine HW.skip (thenQ_normal (?_))
              refine HW.block ?_
              refine HW.region ?_
              refine HO.val (v := .int .i64 k_2) (want_none) rfl (q_move rfl) ?_
              obtain ⟨ho_11, hM⟩ := hM
              refine HO.val (v := .int .i64 (k_2 + 1)) (want_none) rfl (q_addN _ rfl rfl rfl ho_11.1 ho_11.2) ?_
              refine HO.val (v := .int .i64 (k_2 + 1)) (want_none) rfl (q_assign rfl) ?_
              refine HO.nil (blockQ_normal (thenQ_normal (?_)))
              rw [hKe_3] at hM
              exact ⟨k_2 + 1, ⟨F_5, rfl, rfl, rfl, rfl, rfl, rfl, rfl, hK, hS, hM.1⟩, hM.2⟩
            · replace hM := hM.2 (of_decide_eq_false c_7)
              refine HW.exit (thenQ_exit (thenQ_exit (blockQ_exit (thenQ_normal (?_)))))
              exact ⟨F_5, k_2, rfl, rfl, rfl, rfl, rfl, rfl, rfl, hK, hS, hM⟩
          · replace hM := hM.2 (of_decide_eq_false c_6)
            refine HO.past (past_by rfl rfl c_6) rfl ?_
            refine HO.past (past_by rfl rfl c_6) rfl ?_
            refine HO.past (past_by rfl rfl c_6) rfl ?_
            refine HO.past (past_by rfl rfl c_6) rfl ?_
            refine HO.past (past_by rfl rfl c_6) rfl ?_
            refine HO.past (past_by rfl rfl c_6) rfl ?_
            refine HO.past (past_by rfl rfl c_6) rfl ?_
            refine HO.past (past_by rfl rfl c_6) rfl ?_
            refine HO.past (past_by rfl rfl c_6) rfl ?_
            refine HO.val (v := .bool false) (want_none) rfl (q_pickK false rfl c_6 rfl) ?_
            refine HO.nil (thenQ_normal (?_))
            refine HW.condF rfl ?_
            refine HW.exit (thenQ_exit (thenQ_exit (blockQ_exit (thenQ_normal (?_)))))
            exact ⟨F_5, k_2, rfl, rfl, rfl, rfl, rfl, rfl, rfl, hK, hS, hM⟩
        · replace hM := hM.2 (of_decide_eq_false c_5)
          refine HO.past (past_by rfl rfl c_5) rfl ?_
          refine HO.past (past_by rfl rfl c_5) rfl ?_
          refine HO.past (past_by rfl rfl c_5) rfl ?_
          refine HO.past (past_by rfl rfl c_5) rfl ?_
          refine HO.past (past_by rfl rfl c_5) rfl ?_
          refine HO.past (past_by rfl rfl c_5) rfl ?_
          refine HO.past (past_by rfl rfl c_5) rfl ?_
          refine HO.past (past_by rfl rfl c_5) rfl ?_
          refine HO.val (v := .bool false) (want_none) rfl (q_pickK false rfl c_5 rfl) ?_
          refine HO.val (v := .bool false) (want_none) rfl (q_move rfl) ?_
          refine HO.past (past_some rfl rfl) rfl ?_
          refine HO.past (past_some rfl rfl) rfl ?_
          refine HO.past (past_some rfl rfl) rfl ?_
          refine HO.past (past_some rfl rfl) rfl ?_
          refine HO.past (past_some rfl rfl) rfl ?_
          refine HO.past (past_some rfl rfl) rfl ?_
          refine HO.past (past_some rfl rfl) rfl ?_
          refine HO.past (past_some rfl rfl) rfl ?_
          refine HO.past (past_some rfl rfl) rfl ?_
          refine HO.val (v := .bool false) (want_none) rfl (q_pick rfl rfl) ?_
          refine HO.nil (thenQ_normal (?_))
          refine HW.condF rfl ?_
          refine HW.exit (thenQ_exit (thenQ_exit (blockQ_exit (thenQ_normal (?_)))))
          exact ⟨F_5, k_2, rfl, rfl, rfl, rfl, rfl, rfl, rfl, hK, hS, hM⟩
      · rintro f_5 h_7 ⟨F_6, k_1, e1, e2, e3, e5, e6, e7, e8, hK, hS, hM⟩
        unfold ref03_Print_j2 at hM
        refine HW.fr [(1, .pointer (some ⟨b_1, 0, none⟩)), (2, .string (bs [])), (3, .string (bs [])), (5, .int .i64 n_1), (6, .int .i64 n_2), (7, .int .i64 i_2), (8, .int .i64 k_1)] ⟨e1, e2, e3, e5, e6, e7, e8, trivial⟩ ?_
        refine HW.seq ?_
        refine HW.region ?_
        refine HO.val (v := .int .i64 k_1) (want_none) rfl (q_move rfl) ?_
        refine HO.val (v := .int .i64 n_2) (want_none) rfl (q_move rfl) ?_
        refine HO.val (v := .bool (decide (n_2 < k_1))) (want_none) rfl (q_gtr rfl rfl) ?_
        refine HO.nil (thenQ_normal (?_))
        refine HW.cond (decide (n_2 < k_1)) rfl (fun c_8 => ?_) (fun c_8 => ?_)
        · replace hM := hM.1 (of_decide_eq_true c_8)
          refine HW.region ?_
          refine HO.val (v := .int .i64 i_2) (want_none) rfl (q_move rfl) ?_
          refine HO.val (v := .int .i64 k_1) (want_none) rfl (q_move rfl) ?_
          refine HO.val (v := .int .i64 i_2) (want_none) rfl (q_assign rfl) ?_
          refine HO.val (v := .int .i64 k_1) (want_none) rfl (q_assign rfl) ?_
          refine HO.nil (blockQ_normal (thenQ_normal (?_)))
          refine HW.region ?_
          refine HO.val (v := .int .i64 i_2) (want_none) rfl (q_move rfl) ?_
          obtain ⟨ho_12, hM⟩ := hM
          refine HO.val (v := .int .i64 (i_2 + 1)) (want_none) rfl (q_addN _ rfl rfl rfl ho_12.1 ho_12.2) ?_
          refine HO.val (v := .int .i64 (i_2 + 1)) (want_none) rfl (q_assign rfl) ?_
          refine HO.nil (thenQ_normal (?_))
          rw [hKe_2] at hM
          exact ⟨(i_2, k_1, i_2 + 1), ⟨F_6, rfl, rfl, rfl, rfl, rfl, rfl, hK, hS, hM.1⟩, hM.2⟩
        · replace hM := hM.2 (of_decide_eq_false c_8)
          refine HW.skip (blockQ_normal (thenQ_normal (?_)))
          refine HW.region ?_
          refine HO.val (v := .int .i64 i_2) (want_none) rfl (q_move rfl) ?_
          obtain ⟨ho_13, hM⟩ := hM
          refine HO.val (v := .int .i64 (i_2 + 1)) (want_none) rfl (q_addN _ rfl rfl rfl ho_13.1 ho_13.2) ?_
          refine HO.val (v := .int .i64 (i_2 + 1)) (want_none) rfl (q_assign rfl) ?_
          refine HO.nil (thenQ_normal (?_))
          rw [hKe_2] at hM
          exact ⟨(n_1, n_2, i_2 + 1), ⟨F_6, rfl, rfl, rfl, rfl, rfl, rfl, hK, hS, hM.1⟩, hM.2⟩
    · replace hM := hM.2 (of_decide_eq_false c_4)
      refine HW.exit (thenQ_exit (thenQ_exit (blockQ_exit (thenQ_normal (?_)))))
      refine HW.seq ?_
      refine HW.seq ?_
      refine HW.region ?_
      refine HO.val (v := .int .i64 0) (want_none) rfl (q_assign rfl) ?_
      refine HO.nil (thenQ_normal (?_))
      refine HW.block ?_
      obtain ⟨I_4, m_4, hI_4, hR_4⟩ := hM
      refine HW.loop (S := Str × Int) (fun s f h => match s with | (s_3, i_3) => ∃ (F' : Fz), f 1 = .pointer (some ⟨b_1, 0, none⟩) ∧ f 2 = .string (bs []) ∧ f 3 = .string (bs s_3) ∧ f 5 = .int .i64 n_1 ∧ f 6 = .int .i64 n_2 ∧ f 9 = .int .i64 i_3 ∧ Kp F h0 F' h ∧ St F' (Ow.box b_1 25 (e_api_Addr a).toArray :: fr) h ∧ I_4 (s_3, i_3)) m_4 ([], 0) ⟨F_4, rfl, rfl, rfl, rfl, rfl, rfl, hK, hS, hI_4⟩ ?_
      rintro ⟨s_3, i_3⟩ f_6 h_8 ⟨F_7, e1, e2, e3, e5, e6, e9, hK, hS, hI0⟩
      obtain ⟨K_4, hKe_4⟩ : ∃ K : Str → Int → Prop, K = fun s_3' i_3' => I_4 (s_3', i_3') ∧ m_4 (s_3', i_3') < m_4 (s_3, i_3) := ⟨_, rfl⟩
      have hM : ref03_Print_l4 a Q n_1 n_2 K_4 s_3 i_3 := by rw [hKe_4]; exact hR_4 (s_3, i_3) hI0
      unfold ref03_Print_l4 at hM
      refine HW.fr [(1, .pointer (some ⟨b_1, 0, none⟩)), (2, .string (bs [])), (3, .string (bs s_3)), (5, .int .i64 n_1), (6, .int .i64 n_2), (9, .int .i64 i_3)] ⟨e1, e2, e3, e5, e6, e9, trivial⟩ ?_
      refine HW.seq ?_
      refine HW.seq ?_
      refine HW.region ?_
      refine HO.val (v := .int .i64 i_3) (want_none) rfl (q_move rfl) ?_
      refine HO.val (v := .bool (decide (i_3 < 8))) (want_none) rfl (q_lss rfl rfl) ?_
      refine HO.nil (thenQ_normal (?_))
      refine HW.cond (decide (i_3 < 8)) rfl (fun c_9 => ?_) (fun c_9 => ?_)
      · replace hM := hM.1 (of_decide_eq_true c_9)
        refine HW.skip (thenQ_normal (?_))
        refine HW.seq ?_
        refine HW.block ?_
        refine HW.seq ?_
        refine HW.seq ?_
        refine HW.region ?_
        refine HO.val (v := .int .i64 i_3) (want_none) rfl (q_move rfl) ?_
        refine HO.val (v := .int .i64 n_1) (want_none) rfl (q_move rfl) ?_
        refine HO.val (v := .bool (decide (i_3 = n_1))) (want_none) rfl (q_eql rfl rfl) ?_
        refine HO.nil (thenQ_normal (?_))
        refine HW.cond (decide (i_3 = n_1)) rfl (fun c_10 => ?_) (fun c_10 => ?_)
        · replace hM := hM.1 (of_decide_eq_true c_10)
          refine HW.seq ?_
          refine HW.region ?_
          refine HO.val (v := .string (bs s_3)) (want_none) rfl (q_move rfl) ?_
          obtain ⟨ho_14, hM⟩ := hM
          refine HO.val (v := .string (bs (s_3 ++ ([58, 58] : Str)))) (want_none) rfl (q_addT rfl rfl ho_14) ?_
          refine HO.val (v := .string (bs (s_3 ++ ([58, 58] : Str)))) (want_none) rfl (q_assign rfl) ?_
          refine HO.nil (thenQ_normal (?_))
          refine HW.seq ?_
          refine HW.region ?_
          refine HO.val (v := .int .i64 i_3) (want_none) rfl (q_move rfl) ?_
          refine HO.val (v := .int .i64 n_2) (want_none) rfl (q_move rfl) ?_
          obtain ⟨ho_15, hM⟩ := hM
          refine HO.val (v := .int .i64 (i_3 + n_2)) (want_none) rfl (q_addN _ rfl rfl rfl ho_15.1 ho_15.2) ?_
          obtain ⟨ho_16, hM⟩ := hM
          refine HO.val (v := .int .i64 ((i_3 + n_2) - 1)) (want_none) rfl (q_subN _ rfl rfl rfl ho_16.1 ho_16.2) ?_
          refine HO.val (v := .int .i64 ((i_3 + n_2) - 1)) (want_none) rfl (q_assign rfl) ?_
          refine HO.nil (thenQ_normal (?_))
          refine HW.exit (thenQ_exit (blockQ_exit (thenQ_normal (?_))))
          refine HW.region ?_
          refine HO.val (v := .int .i64 ((i_3 + n_2) - 1)) (want_none) rfl (q_move rfl) ?_
          obtain ⟨ho_17, hM⟩ := hM
          refine HO.val (v := .int .i64 (((i_3 + n_2) - 1) + 1)) (want_none) rfl (q_addN _ rfl rfl rfl ho_17.1 ho_17.2) ?_
          refine HO.val (v := .int .i64 (((i_3 + n_2) - 1) + 1)) (want_none) rfl (q_assign rfl) ?_
          refine HO.nil (thenQ_normal (?_))
          rw [hKe_4] at hM
          exact ⟨(s_3 ++ ([58, 58] : Str), ((i_3 + n_2) - 1) + 1), ⟨F_7, rfl, rfl, rfl, rfl, rfl, rfl, hK, hS, hM.1⟩, hM.2⟩
        · replace hM := hM.2 (of_decide_eq_false c_10)
          refine HW.skip (thenQ_normal (?_))
          refine HW.seq_mid (fun f h => ∃ (F' : Fz) (s_4 : Str), f 1 = .pointer (some ⟨b_1, 0, none⟩) ∧ f 2 = .string (bs []) ∧ f 3 = .string (bs s_4) ∧ f 5 = .int .i64 n_1 ∧ f 6 = .int .i64 n_2 ∧ f 9 = .int .i64 i_3 ∧ Kp F h0 F' h ∧ St F' (Ow.box b_1 25 (e_api_Addr a).toArray :: fr) h ∧ ref03_Print_j3 a i_3 K_4 s_4) ?_ ?_
          · refine HW.seq ?_
            refine HW.region ?_
            refine HO.val (v := .string (bs s_3)) (want_none) rfl (q_move rfl) ?_
            refine HO.val (v := .bool (!decide ((s_3 : Str) = []))) (want_none) rfl (q_neqT rfl rfl) ?_
            refine HO.val (v := .bool (!decide ((s_3 : Str) = []))) (want_none) rfl (q_move rfl) ?_
            rcases Bool.eq_false_or_eq_true (!decide ((s_3 : Str) = [])) with c_11 | c_11
            · replace hM := hM.1 (nd_true c_11)
              refine HO.val (v := .string (bs s_3)) (want_by rfl rfl c_11) rfl (q_move rfl) ?_
              refine HO.val (v := .string (bs s_3)) (want_by rfl rfl c_11) rfl (q_move rfl) ?_
              refine HO.val (v := .int .i64 (s_3.length : Int)) (want_by rfl rfl c_11) rfl (q_lenT Tryd.underlying9 rfl rfl) ?_
              obtain ⟨ho_18, hM⟩ := hM
              refine HO.val (v := .int .i64 ((s_3.length : Int) - 1)) (want_by rfl rfl c_11) rfl (q_subN _ rfl rfl rfl ho_18.1 ho_18.2) ?_
              obtain ⟨ho_19, hM⟩ := hM
              refine HO.val (v := .int .u8 ((gi s_3 ((s_3.length : Int) - 1)).toNat : Int)) (want_by rfl rfl c_11) rfl (q_idxT Tryd.underlying9 rfl rfl ho_19) ?_
              refine HO.val (v := .bool (!decide (((gi s_3 ((s_3.length : Int) - 1)).toNat : Int) = 58))) (want_by rfl rfl c_11) rfl (q_neq rfl rfl) ?_
              refine HO.val (v := .bool (!decide (((gi s_3 ((s_3.length : Int) - 1)).toNat : Int) = 58))) (want_none) rfl (q_pickK true rfl c_11 rfl) ?_
              refine HO.nil (thenQ_normal (?_))
              refine HW.cond (!decide (((gi s_3 ((s_3.length : Int) - 1)).toNat : Int) = 58)) rfl (fun c_12 => ?_) (fun c_12 => ?_)
              · replace hM := hM.1 (nd_true c_12)
                refine HW.region ?_
                refine HO.val (v := .string (bs s_3)) (want_none) rfl (q_move rfl) ?_
                obtain ⟨ho_20, hM⟩ := hM
                refine HO.val (v := .string (bs (s_3 ++ ([58] : Str)))) (want_none) rfl (q_addT rfl rfl ho_20) ?_
                refine HO.val (v := .string (bs (s_3 ++ ([58] : Str)))) (want_none) rfl (q_assign rfl) ?_
                refine HO.nil (thenQ_normal (?_))
                exact ⟨F_7, s_3 ++ ([58] : Str), rfl, rfl, rfl, rfl, rfl, rfl, hK, hS, hM⟩
              · replace hM := hM.2 (nd_false c_12)
                refine HW.skip (thenQ_normal (?_))
                exact ⟨F_7, s_3, rfl, rfl, rfl, rfl, rfl, rfl, hK, hS, hM⟩
            · replace hM := hM.2 (nd_false c_11)
              refine HO.past (past_by rfl rfl c_11) rfl ?_
              refine HO.past (past_by rfl rfl c_11) rfl ?_
              refine HO.past (past_by rfl rfl c_11) rfl ?_
              refine HO.past (past_by rfl rfl c_11) rfl ?_
              refine HO.past (past_by rfl rfl c_11) rfl ?_
              refine HO.past (past_by rfl rfl c_11) rfl ?_
              refine HO.val (v := .bool false) (want_none) rfl (q_pickK false rfl c_11 rfl) ?_
              refine HO.nil (thenQ_normal (?_))
              refine HW.condF rfl ?_
              refine HW.skip (thenQ_normal (?_))
              exact ⟨F_7, s_3, rfl, rfl, rfl, rfl, rfl, rfl, hK, hS, hM⟩
          · rintro f_7 h_9 ⟨F_8, s_4, e1, e2, e3, e5, e6, e9, hK, hS, hM⟩
            unfold ref03_Print_j3 at hM
            refine HW.fr [(1, .pointer (some ⟨b_1, 0, none⟩)), (2, .string (bs [])), (3, .string (bs s_4)), (5, .int .i64 n_1), (6, .int .i64 n_2), (9, .int .i64 i_3)] ⟨e1, e2, e3, e5, e6, e9, trivial⟩ ?_
            refine HW.regionA 19 mixed (fun h => (Blk h b_1 (.cells (e_api_Addr a).toArray 25 (0, 0)))) [] (by kernel_rfl) ?_
            refine HA.val (k := 0) (v := .string (bs s_4)) rfl rfl (by kernel_rfl) (by kernel_rfl) (want_none) rfl (fun _ c404 => q_move rfl) ?_
            refine HA.val (k := 1) (v := .int .i64 i_3) rfl rfl (by kernel_rfl) (by kernel_rfl) (want_none) rfl (fun _ c404 => q_move rfl) ?_
            obtain ⟨ho_21, hM⟩ := hM
            refine HA.val (k := 2) (v := .int .i64 (2 * i_3)) rfl rfl (by kernel_rfl) (by kernel_rfl) (want_none) rfl (fun _ c404 => q_mulN _ rfl rfl rfl ho_21.1 ho_21.2) ?_
            refine HA.val (k := 3) (v := .pointer (some ⟨b_1, 1, none⟩)) rfl rfl (by kernel_rfl) (by kernel_rfl) (want_none) rfl (fun _ c404 => q_fieldAddr fa_25_1 rfl rfl) ?_
            obtain ⟨ho_22, hM⟩ := hM
            refine HA.val (k := 4) (v := .pointer (some ⟨b_1, 1 + (2 * i_3).toNat, none⟩)) rfl rfl (by kernel_rfl) (by kernel_rfl) (want_none) rfl (fun _ c404 => q_idxA (o := 1) (t := 2 * i_3) tr_23 rfl rfl ho_22) ?_
            refine HA.val (k := 5) (v := .int .u8 (b8 a.2 (2 * i_3))) rfl rfl (by kernel_rfl) (by kernel_rfl) (want_none) rfl (fun _ c404 => q_ldArr (o := 1) (t := 2 * i_3) (X := a.2) to_5 rfl c404 rfl ho_22) ?_
            obtain ⟨ho_23, hM⟩ := hM
            refine HA.val (k := 6) (v := .int .i64 (b8 a.2 (2 * i_3))) rfl rfl (by kernel_rfl) (by kernel_rfl) (want_none) rfl (fun _ c404 => q_convInt Tryd.underlying5 Tryd.underlying3 rfl (wrap_i64 ho_23.1 ho_23.2)) ?_
            obtain ⟨ho_24, hM⟩ := hM
            refine HA.val (k := 7) (v := .int .i64 (256 * (b8 a.2 (2 * i_3)))) rfl rfl (by kernel_rfl) (by kernel_rfl) (want_none) rfl (fun _ c404 => q_mulN _ rfl rfl rfl ho_24.1 ho_24.2) ?_
            refine HA.val (k := 8) (v := .int .i64 i_3) rfl rfl (by kernel_rfl) (by kernel_rfl) (want_none) rfl (fun _ c404 => q_move rfl) ?_
            refine HA.val (k := 9) (v := .int .i64 (2 * i_3)) rfl rfl (by kernel_rfl) (by kernel_rfl) (want_none) rfl (fun _ c404 => q_mulN _ rfl rfl rfl ho_21.1 ho_21.2) ?_
            obtain ⟨ho_25, hM⟩ := hM
            refine HA.val (k := 10) (v := .int .i64 ((2 * i_3) + 1)) rfl rfl (by kernel_rfl) (by kernel_rfl) (want_none) rfl (fun _ c404 => q_addN _ rfl rfl rfl ho_25.1 ho_25.2) ?_
            refine HA.val (k := 11) (v := .pointer (some ⟨b_1, 1, none⟩)) rfl rfl (by kernel_rfl) (by kernel_rfl) (want_none) rfl (fun _ c404 => q_fieldAddr fa_25_1 rfl rfl) ?_
            obtain ⟨ho_26, hM⟩ := hM
            refine HA.val (k := 12) (v := .pointer (some ⟨b_1, 1 + ((2 * i_3) + 1).toNat, none⟩)) rfl rfl (by kernel_rfl) (by kernel_rfl) (want_none) rfl (fun _ c404 => q_idxA (o := 1) (t := (2 * i_3) + 1) tr_23 rfl rfl ho_26) ?_
            refine HA.val (k := 13) (v := .int .u8 (b8 a.2 ((2 * i_3) + 1))) rfl rfl (by kernel_rfl) (by kernel_rfl) (want_none) rfl (fun _ c404 => q_ldArr (o := 1) (t := (2 * i_3) + 1) (X := a.2) to_5 rfl c404 rfl ho_26) ?_
            obtain ⟨ho_27, hM⟩ := hM
            refine HA.val (k := 14) (v := .int .i64 (b8 a.2 ((2 * i_3) + 1))) rfl rfl (by kernel_rfl) (by kernel_rfl) (want_none) rfl (fun _ c404 => q_convInt Tryd.underlying5 Tryd.underlying3 rfl (wrap_i64 ho_27.1 ho_27.2)) ?_
            obtain ⟨ho_28, hM⟩ := hM
            refine HA.val (k := 15) (v := .int .i64 ((256 * (b8 a.2 (2 * i_3))) + (b8 a.2 ((2 * i_3) + 1)))) rfl rfl (by kernel_rfl) (by kernel_rfl) (want_none) rfl (fun _ c404 => q_addN _ rfl rfl rfl ho_28.1 ho_28.2) ?_
            refine HA.one (k := 16) ⟨(hS.box 0 rfl), (Go.Wk.at_nil _ _)⟩ (by kernel_rfl) ?_
            refine HS.call rfl (want_none) rfl (ec en_30 rfl rfl) (ref03_Num_walk (fr := (Ow.box b_1 25 (e_api_Addr a).toArray :: fr)) ((256 * (b8 a.2 (2 * i_3))) + (b8 a.2 ((2 * i_3) + 1))) 16 hS hM) ?_
            rintro _ h_10 ⟨F_9, r_3, rfl, hk, hS, hM⟩
            replace hK := hK.trans hk
            obtain ⟨ho_29, hM⟩ := hM
            refine HA.val (k := 17) (v := .string (bs (s_4 ++ r_3))) rfl rfl (by kernel_rfl) (by kernel_rfl) (want_none) rfl (fun _ c404 => q_addT rfl rfl ho_29) ?_
            refine HA.val (k := 18) (v := .string (bs (s_4 ++ r_3))) rfl rfl (by kernel_rfl) (by kernel_rfl) (want_none) rfl (fun _ c404 => q_assign rfl) ?_
            refine HA.nil ⟨(hS.box 0 rfl), (Go.Wk.at_nil _ _)⟩ (by kernel_rfl) (blockQ_normal (thenQ_normal (?_)))
            refine HW.region ?_
            refine HO.val (v := .int .i64 i_3) (want_none) rfl (q_move rfl) ?_
            obtain ⟨ho_30, hM⟩ := hM
            refine HO.val (v := .int .i64 (i_3 + 1)) (want_none) rfl (q_addN _ rfl rfl rfl ho_30.1 ho_30.2) ?_
            refine HO.val (v := .int .i64 (i_3 + 1)) (want_none) rfl (q_assign rfl) ?_
            refine HO.nil (thenQ_normal (?_))
            rw [hKe_4] at hM
            exact ⟨(s_4 ++ r_3, i_3 + 1), ⟨F_9, rfl, rfl, rfl, rfl, rfl, rfl, hK, hS, hM.1⟩, hM.2⟩
      · replace hM := hM.2 (of_decide_eq_false c_9)
        refine HW.exit (thenQ_exit (thenQ_exit (blockQ_exit (thenQ_normal (?_)))))
        refine HW.seq ?_
        refine HW.region ?_
        refine HO.val (v := .string (bs s_3)) (want_none) rfl (q_move rfl) ?_
        refine HO.val (v := .string (bs s_3)) (want_none) rfl (q_assign rfl) ?_
        refine HO.nil (thenQ_normal (?_))
        refine HW.ret (?_)
        refine ⟨.inr rfl, .string (bs s_3), res1 rfl (rt rfl), ?_⟩
        replace hS : St F_7 (fr) h_8 := hS.perm2 [] 1 rfl rfl
        exact ⟨F_7, s_3, rfl, hK, hS, hM⟩

def ref03_PrintMac_j1 (m1 : Ba 6) (i_1 : Int) (K_1 : Str → Int → Prop) (s_2 : Str) : Prop :=
  ((0 : Int) ≤ i_1 ∧ i_1 < 6) ∧ (((0 : Int) ≤ ((b8 m1 i_1).tmod 16) ∧ ((b8 m1 i_1).tmod 16) < 256) ∧ (ref01_Sign_W ((u8w ((b8 m1 i_1).tdiv 16)).toNat : Int) (fun r_2 => ((s_2.length : Int) + (r_2.length : Int) ≤ 9223372036854775807) ∧ (ref01_Sign_W ((u8w ((b8 m1 i_1).tmod 16)).toNat : Int) (fun r_3 => (((s_2 ++ r_2).length : Int) + (r_3.length : Int) ≤ 9223372036854775807) ∧ ((I64 (i_1 + 1)) ∧ (K_1 ((s_2 ++ r_2) ++ r_3) (i_1 + 1))))))))
def ref03_PrintMac_l1 (m1 : Ba 6) (Q : Str → Prop) (K_1 : Str → Int → Prop) (s_1 : Str) (i_1 : Int) : Prop :=
  (i_1 < 6 → (0 < i_1 → ((s_1.length : Int) + ((([58] : Str)).length : Int) ≤ 9223372036854775807) ∧ (ref03_PrintMac_j1 m1 i_1 K_1 (s_1 ++ ([58] : Str)))) ∧ (¬ (0 < i_1) → ref03_PrintMac_j1 m1 i_1 K_1 s_1)) ∧ (¬ (i_1 < 6) → Q s_1)
def ref03_PrintMac_W (m1 : Ba 6) (Q : Str → Prop) : Prop :=
  loopW (fun (K_1 : (Str × Int) → Prop) (s : Str × Int) => ref03_PrintMac_l1 m1 Q (fun s_1 i_1 => K_1 (s_1, i_1)) s.1 s.2) ([], 0)
set_option maxHeartbeats 40000000 in
set_option maxRecDepth 100000 in
theorem ref03_PrintMac_walk {F : Fz} {fr : List Ow} {h0 : Heap} (m1 : Ba 6) (hS : St F (fr) h0)  {Q : Str → Prop} (hM : ref03_PrintMac_W m1 Q) :
    HC Tryd.prog 18 #[.agg (arrCells m1).toArray] h0 fun u h' => ∃ (F' : Fz) (r_1 : Str), u = .string (bs r_1) ∧ Kp F h0 F' h' ∧ St F' (fr) h' ∧ Q r_1 := by
  unfold ref03_PrintMac_W at hM
  have hK := Kp.refl F h0
  refine HC.of_HW (n := 27) Tryd.func18 rfl rfl (Nat.le_of_ble_eq_true rfl) ?_
  refine HW.seq ?_
  refine HW.region ?_
  refine HO.eff (want_none) rfl (st_box (c := (arrCells m1).toArray) (k' := 6) hS rfl rfl) ?_
  rintro _ h_1 ⟨b_1, rfl, hS, hk⟩
  replace hK := hK.trans hk
  refine HO.val (v := .string (bs [])) (want_none) rfl (q_assign rfl) ?_
  refine HO.nil (thenQ_normal (?_))
  refine HW.seq ?_
  refine HW.region ?_
  refine HO.val (v := .string (bs [])) (want_none) rfl (q_assign rfl) ?_
  refine HO.nil (thenQ_normal (?_))
  refine HW.seq ?_
  refine HW.seq ?_
  refine HW.region ?_
  refine HO.val (v := .int .i64 0) (want_none) rfl (q_assign rfl) ?_
  refine HO.nil (thenQ_normal (?_))
  refine HW.block ?_
  obtain ⟨I_1, m_1, hI_1, hR_1⟩ := hM
  refine HW.loop (S := Str × Int) (fun s f h => match s with | (s_1, i_1) => ∃ (F' : Fz), f 1 = .pointer (some ⟨b_1, 0, none⟩) ∧ f 2 = .string (bs []) ∧ f 3 = .string (bs s_1) ∧ f 4 = .int .i64 i_1 ∧ Kp F h0 F' h ∧ St F' (Ow.box b_1 38 (arrCells m1).toArray :: fr) h ∧ I_1 (s_1, i_1)) m_1 ([], 0) ⟨F, rfl, rfl, rfl, rfl, hK, hS, hI_1⟩ ?_
  rintro ⟨s_1, i_1⟩ f_1 h_2 ⟨F_1, e1, e2, e3, e4, hK, hS, hI0⟩
  obtain ⟨K_1, hKe_1⟩ : ∃ K : Str → Int → Prop, K = fun s_1' i_1' => I_1 (s_1', i_1') ∧ m_1 (s_1', i_1') < m_1 (s_1, i_1) := ⟨_, rfl⟩
  have hM : ref03_PrintMac_l1 m1 Q K_1 s_1 i_1 := by rw [hKe_1]; exact hR_1 (s_1, i_1) hI0
  unfold ref03_PrintMac_l1 at hM
  refine HW.fr [(1, .pointer (some ⟨b_1, 0, none⟩)), (2, .string (bs [])), (3, .string (bs s_1)), (4, .int .i64 i_1)] ⟨e1, e2, e3, e4, trivial⟩ ?_
  refine HW.seq ?_
  refine HW.seq ?_
  refine HW.region ?_
  refine HO.val (v := .int .i64 i_1) (want_none) rfl (q_move rfl) ?_
  refine HO.val (v := .bool (decide (i_1 < 6))) (want_none) rfl (q_lss rfl rfl) ?_
  refine HO.nil (thenQ_normal (?_))
  refine HW.cond (decide (i_1 < 6)) rfl (fun c_1 => ?_) (fun c_1 => ?_)
  · replace hM := hM.1 (of_decide_eq_true c_1)
    refine HW.skip (thenQ_normal (?_))
    refine HW.seq ?_
    refine HW.block ?_
    refine HW.seq_mid (fun f h => ∃ (F' : Fz) (s_2 : Str), f 1 = .pointer (some ⟨b_1, 0, none⟩) ∧ f 2 = .string (bs []) ∧ f 3 = .string (bs s_2) ∧ f 4 = .int .i64 i_1 ∧ Kp F h0 F' h ∧ St F' (Ow.box b_1 38 (arrCells m1).toArray :: fr) h ∧ ref03_PrintMac_j1 m1 i_1 K_1 s_2) ?_ ?_
    · refine HW.seq ?_
      refine HW.region ?_
      refine HO.val (v := .int .i64 i_1) (want_none) rfl (q_move rfl) ?_
      refine HO.val (v := .bool (decide (0 < i_1))) (want_none) rfl (q_gtr rfl rfl) ?_
      refine HO.nil (thenQ_normal (?_))
      refine HW.cond (decide (0 < i_1)) rfl (fun c_2 => ?_) (fun c_2 => ?_)
      · replace hM := hM.1 (of_decide_eq_true c_2)
        refine HW.region ?_
        refine HO.val (v := .string (bs s_1)) (want_none) rfl (q_move rfl) ?_
        obtain ⟨ho_1, hM⟩ := hM
        refine HO.val (v := .string (bs (s_1 ++ ([58] : Str)))) (want_none) rfl (q_addT rfl rfl ho_1) ?_
        refine HO.val (v := .string (bs (s_1 ++ ([58] : Str)))) (want_none) rfl (q_assign rfl) ?_
        refine HO.nil (thenQ_normal (?_))
        exact ⟨F_1, s_1 ++ ([58] : Str), rfl, rfl, rfl, rfl, hK, hS, hM⟩
      · replace hM := hM.2 (of_decide_eq_false c_2)
        refine HW.skip (thenQ_normal (?_))
        exact ⟨F_1, s_1, rfl, rfl, rfl, rfl, hK, hS, hM⟩
    · rintro f_2 h_3 ⟨F_2, s_2, e1, e2, e3, e4, hK, hS, hM⟩
      unfold ref03_PrintMac_j1 at hM
      refine HW.fr [(1, .pointer (some ⟨b_1, 0, none⟩)), (2, .string (bs [])), (3, .string (bs s_2)), (4, .int .i64 i_1)] ⟨e1, e2, e3, e4, trivial⟩ ?_
      refine HW.regionA 14 mixed (fun h => (Blk h b_1 (.cells (arrCells m1).toArray 38 (0, 0)))) [] (by kernel_rfl) ?_
      refine HA.val (k := 0) (v := .string (bs s_2)) rfl rfl (by kernel_rfl) (by kernel_rfl) (want_none) rfl (fun _ c303 => q_move rfl) ?_
      refine HA.val (k := 1) (v := .int .i64 i_1) rfl rfl (by kernel_rfl) (by kernel_rfl) (want_none) rfl (fun _ c303 => q_move rfl) ?_
      obtain ⟨ho_2, hM⟩ := hM
      refine HA.val (k := 2) (v := .pointer (some ⟨b_1, 0 + (i_1).toNat, none⟩)) rfl rfl (by kernel_rfl) (by kernel_rfl) (want_none) rfl (fun _ c303 => q_idxA (o := 0) (t := i_1) tr_38 rfl rfl ho_2) ?_
      refine HA.val (k := 3) (v := .int .u8 (b8 m1 i_1)) rfl rfl (by kernel_rfl) (by kernel_rfl) (want_none) rfl (fun _ c303 => q_ldArr (o := 0) (t := i_1) (X := m1) to_5 rfl c303 rfl ho_2) ?_
      refine HA.val (k := 4) (v := .int .u8 ((u8w ((b8 m1 i_1).tdiv 16)).toNat : Int)) rfl rfl (by kernel_rfl) (by kernel_rfl) (want_none) rfl (fun _ c303 => (q_quo rfl rfl (by decide)).of_eq (u8w_v _)) ?_
      refine HA.val (k := 7) (v := .int .i64 i_1) rfl rfl (by kernel_rfl) (by kernel_rfl) (want_none) rfl (fun _ c303 => q_move rfl) ?_
      refine HA.val (k := 8) (v := .pointer (some ⟨b_1, 0 + (i_1).toNat, none⟩)) rfl rfl (by kernel_rfl) (by kernel_rfl) (want_none) rfl (fun _ c303 => q_idxA (o := 0) (t := i_1) tr_38 rfl rfl ho_2) ?_
      refine HA.val (k := 9) (v := .int .u8 (b8 m1 i_1)) rfl rfl (by kernel_rfl) (by kernel_rfl) (want_none) rfl (fun _ c303 => q_ldArr (o := 0) (t := i_1) (X := m1) to_5 rfl c303 rfl ho_2) ?_
      obtain ⟨ho_3, hM⟩ := hM
      refine HA.val (k := 10) (v := .int .u8 ((u8w ((b8 m1 i_1).tmod 16)).toNat : Int)) rfl rfl (by kernel_rfl) (by kernel_rfl) (want_none) rfl (fun _ c303 => (q_rem rfl rfl (by decide)).of_eq (u8r_v ho_3)) ?_
      refine HA.one (k := 5) ⟨(hS.box 0 rfl), (Go.Wk.at_nil _ _)⟩ (by kernel_rfl) ?_
      refine HS.call rfl (want_none) rfl (ec en_33 rfl rfl) (ref01_Sign_walk (fr := (Ow.box b_1 38 (arrCells m1).toArray :: fr)) ((u8w ((b8 m1 i_1).tdiv 16)).toNat : Int) hS hM) ?_
      rintro _ h_4 ⟨F_3, r_2, rfl, hk, hS, hM⟩
      replace hK := hK.trans hk
      obtain ⟨ho_4, hM⟩ := hM
      refine HA.val (k := 6) (v := .string (bs (s_2 ++ r_2))) rfl rfl (by kernel_rfl) (by kernel_rfl) (want_none) rfl (fun _ c303 => q_addT rfl rfl ho_4) ?_
      refine HA.one (k := 11) ⟨(hS.box 0 rfl), (Go.Wk.at_nil _ _)⟩ (by kernel_rfl) ?_
      refine HS.call rfl (want_none) rfl (ec en_33 rfl rfl) (ref01_Sign_walk (fr := (Ow.box b_1 38 (arrCells m1).toArray :: fr)) ((u8w ((b8 m1 i_1).tmod 16)).toNat : Int) hS hM) ?_
      rintro _ h_5 ⟨F_4, r_3, rfl, hk, hS, hM⟩
      replace hK := hK.trans hk
      obtain ⟨ho_5, hM⟩ := hM
      refine HA.val (k := 12) (v := .string (bs ((s_2 ++ r_2) ++ r_3))) rfl rfl (by kernel_rfl) (by kernel_rfl) (want_none) rfl (fun _ c303 => q_addT rfl rfl ho_5) ?_
      refine HA.val (k := 13) (v := .string (bs ((s_2 ++ r_2) ++ r_3))) rfl rfl (by kernel_rfl) (by kernel_rfl) (want_none) rfl (fun _ c303 => q_assign rfl) ?_
      refine HA.nil ⟨(hS.box 0 rfl), (Go.Wk.at_nil _ _)⟩ (by kernel_rfl) (blockQ_normal (thenQ_normal (?_)))
      refine HW.region ?_
      refine HO.val (v := .int .i64 i_1) (want_none) rfl (q_move rfl) ?_
      obtain ⟨ho_6, hM⟩ := hM
      refine HO.val (v := .int .i64 (i_1 + 1)) (want_none) rfl (q_addN _ rfl rfl rfl ho_6.1 ho_6.2) ?_
      refine HO.val (v := .int .i64 (i_1 + 1)) (want_none) rfl (q_assign rfl) ?_
      refine HO.nil (thenQ_normal (?_))
      rw [hKe_1] at hM
      exact ⟨((s_2 ++ r_2) ++ r_3, i_1 + 1), ⟨F_4, rfl, rfl, rfl, rfl, hK, hS, hM.1⟩, hM.2⟩
  · replace hM := hM.2 (of_decide_eq_false c_1)
    refine HW.exit (thenQ_exit (thenQ_exit (blockQ_exit (thenQ_normal (?_)))))
    refine HW.seq ?_
    refine HW.region ?_
    refine HO.val (v := .string (bs s_1)) (want_none) rfl (q_move rfl) ?_
    refine HO.val (v := .string (bs s_1)) (want_none) rfl (q_assign rfl) ?_
    refine HO.nil (thenQ_normal (?_))
    refine HW.ret (?_)
    refine ⟨.inr rfl, .string (bs s_1), res1 rfl (rt rfl), ?_⟩
    replace hS : St F_1 (fr) h_2 := hS.perm2 [] 1 rfl rfl
    exact ⟨F_1, s_1, rfl, hK, hS, hM⟩

def octet_digit_j3 (b : Int) (Q : Int → Bool → Prop) (b_3 : Bool) : Prop :=
  (b_3 = true → Q ((u8w (((u8w (b - 65)).toNat : Int) + 10)).toNat : Int) true) ∧ (b_3 = false → Q 0 false)
def octet_digit_j2 (b : Int) (Q : Int → Bool → Prop) (b_2 : Bool) : Prop :=
  (b_2 = true → Q ((u8w (((u8w (b - 97)).toNat : Int) + 10)).toNat : Int) true) ∧ (b_2 = false → (65 ≤ b → octet_digit_j3 b Q (decide (b ≤ 70))) ∧ (¬ (65 ≤ b) → octet_digit_j3 b Q false))
def octet_digit_j1 (b : Int) (Q : Int → Bool → Prop) (b_1 : Bool) : Prop :=
  (b_1 = true → Q ((u8w (b - 48)).toNat : Int) true) ∧ (b_1 = false → (97 ≤ b → octet_digit_j2 b Q (decide (b ≤ 102))) ∧ (¬ (97 ≤ b) → octet_digit_j2 b Q false))
def octet_digit_W (b : Int) (Q : Int → Bool → Prop) : Prop :=
  (48 ≤ b → octet_digit_j1 b Q (decide (b ≤ 57))) ∧ (¬ (48 ≤ b) → octet_digit_j1 b Q false)
set_option maxHeartbeats 40000000 in
set_option maxRecDepth 100000 in
theorem octet_digit_walk {F : Fz} {fr : List Ow} {h0 : Heap} (b : Int) (hS : St F (fr) h0)  {Q : Int → Bool → Prop} (hM : octet_digit_W b Q) :
    HC Tryd.prog 47 #[.int .u8 b] h0 fun u h' => ∃ (F' : Fz) (r0_1 : Int) (r1_1 : Bool), u = .tuple #[.int .u8 r0_1, .bool r1_1] ∧ Kp F h0 F' h' ∧ St F' (fr) h' ∧ Q r0_1 r1_1 := by
  unfold octet_digit_W at hM
  have hK := Kp.refl F h0
  refine HC.of_HW (n := 33) Tryd.func47 rfl rfl (Nat.le_of_ble_eq_true rfl) ?_
  refine HW.seq ?_
  refine HW.region ?_
  refine HO.val (v := .int .u8 0) (want_none) rfl (q_assign rfl) ?_
  refine HO.val (v := .bool false) (want_none) rfl (q_assign rfl) ?_
  refine HO.nil (thenQ_normal (?_))
  refine HW.seq ?_
  refine HW.block ?_
  refine HW.seq_mid (fun f h => ∃ (F' : Fz) (b_1 : Bool), f 0 = .int .u8 b ∧ f 2 = .int .u8 0 ∧ f 3 = .bool false ∧ f 4 = .bool b_1 ∧ Kp F h0 F' h ∧ St F' (fr) h ∧ octet_digit_j1 b Q b_1) ?_ ?_
  · refine HW.region ?_
    refine HO.val (v := .int .u8 b) (want_none) rfl (q_move rfl) ?_
    refine HO.val (v := .bool (decide (48 ≤ b))) (want_none) rfl (q_geq rfl rfl) ?_
    refine HO.val (v := .bool (decide (48 ≤ b))) (want_none) rfl (q_move rfl) ?_
    rcases Bool.eq_false_or_eq_true (decide (48 ≤ b)) with c_1 | c_1
    · replace hM := hM.1 (of_decide_eq_true c_1)
      refine HO.val (v := .int .u8 b) (want_by rfl rfl c_1) rfl (q_move rfl) ?_
      refine HO.val (v := .bool (decide (b ≤ 57))) (want_by rfl rfl c_1) rfl (q_leq rfl rfl) ?_
      refine HO.val (v := .bool (decide (b ≤ 57))) (want_none) rfl (q_pickK true rfl c_1 rfl) ?_
      refine HO.val (v := .bool (decide (b ≤ 57))) (want_none) rfl (q_assign rfl) ?_
      refine HO.nil (thenQ_normal (?_))
      exact ⟨F, decide (b ≤ 57), rfl, rfl, rfl, rfl, hK, hS, hM⟩
    · replace hM := hM.2 (of_decide_eq_false c_1)
      refine HO.past (past_by rfl rfl c_1) rfl ?_
      refine HO.past (past_by rfl rfl c_1) rfl ?_
      refine HO.val (v := .bool false) (want_none) rfl (q_pickK false rfl c_1 rfl) ?_
      refine HO.val (v := .bool false) (want_none) rfl (q_assign rfl) ?_
      refine HO.nil (thenQ_normal (?_))
      exact ⟨F, false, rfl, rfl, rfl, rfl, hK, hS, hM⟩
  · rintro f_1 h_1 ⟨F_1, b_1, e0, e2, e3, e4, hK, hS, hM⟩
    unfold octet_digit_j1 at hM
    refine HW.fr [(0, .int .u8 b), (2, .int .u8 0), (3, .bool false), (4, .bool b_1)] ⟨e0, e2, e3, e4, trivial⟩ ?_
    refine HW.cond b_1 rfl (fun c_2 => ?_) (fun c_2 => ?_)
    · replace hM := hM.1 c_2
      refine HW.seq ?_
      refine HW.region ?_
      refine HO.val (v := .int .u8 b) (want_none) rfl (q_move rfl) ?_
      refine HO.val (v := .int .u8 ((u8w (b - 48)).toNat : Int)) (want_none) rfl ((q_sub rfl rfl).of_eq (u8w_v _)) ?_
      refine HO.val (v := .int .u8 ((u8w (b - 48)).toNat : Int)) (want_none) rfl (q_assign rfl) ?_
      refine HO.val (v := .bool true) (want_none) rfl (q_assign rfl) ?_
      refine HO.nil (thenQ_normal (?_))
      refine HW.ret (blockQ_ret (thenQ_ret (?_)))
      refine ⟨.inr rfl, .tuple #[.int .u8 ((u8w (b - 48)).toNat : Int), .bool true], res2 rfl (rt rfl) (rt rfl), ?_⟩
      exact ⟨F_1, ((u8w (b - 48)).toNat : Int), true, rfl, hK, hS, hM⟩
    · replace hM := hM.2 c_2
      refine HW.seq_mid (fun f h => ∃ (F' : Fz) (b_2 : Bool), f 0 = .int .u8 b ∧ f 2 = .int .u8 0 ∧ f 3 = .bool false ∧ f 13 = .bool b_2 ∧ Kp F h0 F' h ∧ St F' (fr) h ∧ octet_digit_j2 b Q b_2) ?_ ?_
      · refine HW.region ?_
        refine HO.val (v := .int .u8 b) (want_none) rfl (q_move rfl) ?_
        refine HO.val (v := .bool (decide (97 ≤ b))) (want_none) rfl (q_geq rfl rfl) ?_
        refine HO.val (v := .bool (decide (97 ≤ b))) (want_none) rfl (q_move rfl) ?_
        rcases Bool.eq_false_or_eq_true (decide (97 ≤ b)) with c_3 | c_3
        · replace hM := hM.1 (of_decide_eq_true c_3)
          refine HO.val (v := .int .u8 b) (want_by rfl rfl c_3) rfl (q_move rfl) ?_
          refine HO.val (v := .bool (decide (b ≤ 102))) (want_by rfl rfl c_3) rfl (q_leq rfl rfl) ?_
          refine HO.val (v := .bool (decide (b ≤ 102))) (want_none) rfl (q_pickK true rfl c_3 rfl) ?_
          refine HO.val (v := .bool (decide (b ≤ 102))) (want_none) rfl (q_assign rfl) ?_
          refine HO.nil (thenQ_normal (?_))
          exact ⟨F_1, decide (b ≤ 102), rfl, rfl, rfl, rfl, hK, hS, hM⟩
        · replace hM := hM.2 (of_decide_eq_false c_3)
          refine HO.past (past_by rfl rfl c_3) rfl ?_
          refine HO.past (past_by rfl rfl c_3) rfl ?_
          refine HO.val (v := .bool false) (want_none) rfl (q_pickK false rfl c_3 rfl) ?_
          refine HO.val (v := .bool false) (want_none) rfl (q_assign rfl) ?_
          refine HO.nil (thenQ_normal (?_))
          exact ⟨F_1, false, rfl, rfl, rfl, rfl, hK, hS, hM⟩
      · rintro f_2 h_2 ⟨F_2, b_2, e0, e2, e3, e13, hK, hS, hM⟩
        unfold octet_digit_j2 at hM
        refine HW.fr [(0, .int .u8 b), (2, .int .u8 0), (3, .bool false), (13, .bool b_2)] ⟨e0, e2, e3, e13, trivial⟩ ?_
        refine HW.cond b_2 rfl (fun c_4 => ?_) (fun c_4 => ?_)
        · replace hM := hM.1 c_4
          refine HW.seq ?_
          refine HW.region ?_
          refine HO.val (v := .int .u8 b) (want_none) rfl (q_move rfl) ?_
          refine HO.val (v := .int .u8 ((u8w (b - 97)).toNat : Int)) (want_none) rfl ((q_sub rfl rfl).of_eq (u8w_v _)) ?_
          refine HO.val (v := .int .u8 ((u8w (((u8w (b - 97)).toNat : Int) + 10)).toNat : Int)) (want_none) rfl ((q_add rfl rfl).of_eq (u8w_v _)) ?_
          refine HO.val (v := .int .u8 ((u8w (((u8w (b - 97)).toNat : Int) + 10)).toNat : Int)) (want_none) rfl (q_assign rfl) ?_
          refine HO.val (v := .bool true) (want_none) rfl (q_assign rfl) ?_
          refine HO.nil (thenQ_normal (?_))
          refine HW.ret (blockQ_ret (thenQ_ret (?_)))
          refine ⟨.inr rfl, .tuple #[.int .u8 ((u8w (((u8w (b - 97)).toNat : Int) + 10)).toNat : Int), .bool true], res2 rfl (rt rfl) (rt rfl), ?_⟩
          exact ⟨F_2, ((u8w (((u8w (b - 97)).toNat : Int) + 10)).toNat : Int), true, rfl, hK, hS, hM⟩
        · replace hM := hM.2 c_4
          refine HW.seq_mid (fun f h => ∃ (F' : Fz) (b_3 : Bool), f 0 = .int .u8 b ∧ f 2 = .int .u8 0 ∧ f 3 = .bool false ∧ f 23 = .bool b_3 ∧ Kp F h0 F' h ∧ St F' (fr) h ∧ octet_digit_j3 b Q b_3) ?_ ?_
          · refine HW.region ?_
            refine HO.val (v := .int .u8 b) (want_none) rfl (q_move rfl) ?_
            refine HO.val (v := .bool (decide (65 ≤ b))) (want_none) rfl (q_geq rfl rfl) ?_
            refine HO.val (v := .bool (decide (65 ≤ b))) (want_none) rfl (q_move rfl) ?_
            rcases Bool.eq_false_or_eq_true (decide (65 ≤ b)) with c_5 | c_5
            · replace hM := hM.1 (of_decide_eq_true c_5)
              refine HO.val (v := .int .u8 b) (want_by rfl rfl c_5) rfl (q_move rfl) ?_
              refine HO.val (v := .bool (decide (b ≤ 70))) (want_by rfl rfl c_5) rfl (q_leq rfl rfl) ?_
              refine HO.val (v := .bool (decide (b ≤ 70))) (want_none) rfl (q_pickK true rfl c_5 rfl) ?_
              refine HO.val (v := .bool (decide (b ≤ 70))) (want_none) rfl (q_assign rfl) ?_
              refine HO.nil (thenQ_normal (?_))
              exact ⟨F_2, decide (b ≤ 70), rfl, rfl, rfl, rfl, hK, hS, hM⟩
            · replace hM := hM.2 (of_decide_eq_false c_5)
              refine HO.past (past_by rfl rfl c_5) rfl ?_
              refine HO.past (past_by rfl rfl c_5) rfl ?_
              refine HO.val (v := .bool false) (want_none) rfl (q_pickK false rfl c_5 rfl) ?_
              refine HO.val (v := .bool false) (want_none) rfl (q_assign rfl) ?_
              refine HO.nil (thenQ_normal (?_))
              exact ⟨F_2, false, rfl, rfl, rfl, rfl, hK, hS, hM⟩
          · rintro f_3 h_3 ⟨F_3, b_3, e0, e2, e3, e23, hK, hS, hM⟩
            unfold octet_digit_j3 at hM
            refine HW.fr [(0, .int .u8 b), (2, .int .u8 0), (3, .bool false), (23, .bool b_3)] ⟨e0, e2, e3, e23, trivial⟩ ?_
            refine HW.cond b_3 rfl (fun c_6 => ?_) (fun c_6 => ?_)
            · replace hM := hM.1 c_6
              refine HW.seq ?_
              refine HW.region ?_
              refine HO.val (v := .int .u8 b) (want_none) rfl (q_move rfl) ?_
              refine HO.val (v := .int .u8 ((u8w (b - 65)).toNat : Int)) (want_none) rfl ((q_sub rfl rfl).of_eq (u8w_v _)) ?_
              refine HO.val (v := .int .u8 ((u8w (((u8w (b - 65)).toNat : Int) + 10)).toNat : Int)) (want_none) rfl ((q_add rfl rfl).of_eq (u8w_v _)) ?_
              refine HO.val (v := .int .u8 ((u8w (((u8w (b - 65)).toNat : Int) + 10)).toNat : Int)) (want_none) rfl (q_assign rfl) ?_
              refine HO.val (v := .bool true) (want_none) rfl (q_assign rfl) ?_
              refine HO.nil (thenQ_normal (?_))
              refine HW.ret (blockQ_ret (thenQ_ret (?_)))
              refine ⟨.inr rfl, .tuple #[.int .u8 ((u8w (((u8w (b - 65)).toNat : Int) + 10)).toNat : Int), .bool true], res2 rfl (rt rfl) (rt rfl), ?_⟩
              exact ⟨F_3, ((u8w (((u8w (b - 65)).toNat : Int) + 10)).toNat : Int), true, rfl, hK, hS, hM⟩
            · replace hM := hM.2 c_6
              refine HW.skip (blockQ_normal (thenQ_normal (?_)))
              refine HW.seq ?_
              refine HW.region ?_
              refine HO.val (v := .int .u8 0) (want_none) rfl (q_assign rfl) ?_
              refine HO.val (v := .bool false) (want_none) rfl (q_assign rfl) ?_
              refine HO.nil (thenQ_normal (?_))
              refine HW.ret (?_)
              refine ⟨.inr rfl, .tuple #[.int .u8 0, .bool false], res2 rfl (rt rfl) (rt rfl), ?_⟩
              exact ⟨F_3, 0, false, rfl, hK, hS, hM⟩

def octet_Unhex_j1 (Q : Str → Int → Prop) (out_1 : List UInt8) (i_1 : Int) (K_1 : (List UInt8) → Int → Prop) (r0_2 : Int) (r0_3 : Int) (b_1 : Bool) : Prop :=
  (b_1 = true → Q [] 2) ∧ (b_1 = false → ((0 : Int) ≤ (bits .or .u8 ((u8w (r0_2 * 2 ^ (min (4 : Int).toNat IntKind.u8.bits))).toNat : Int) r0_3) ∧ (bits .or .u8 ((u8w (r0_2 * 2 ^ (min (4 : Int).toNat IntKind.u8.bits))).toNat : Int) r0_3) < 256) ∧ (((out_1.length + ([(u8w (bits .or .u8 ((u8w (r0_2 * 2 ^ (min (4 : Int).toNat IntKind.u8.bits))).toNat : Int) r0_3))] : List UInt8).length) * 1 ≤ 140737488355328) ∧ ((I64 (i_1 + 2)) ∧ (K_1 (out_1 ++ ([(u8w (bits .or .u8 ((u8w (r0_2 * 2 ^ (min (4 : Int).toNat IntKind.u8.bits))).toNat : Int) r0_3))] : List UInt8)) (i_1 + 2)))))
def octet_Unhex_l1 (s1 : Str) (Q : Str → Int → Prop) (K_1 : (List UInt8) → Int → Prop) (out_1 : List UInt8) (i_1 : Int) : Prop :=
  (i_1 < (s1.length : Int) → ((0 : Int) ≤ i_1 ∧ i_1 < (s1.length : Int)) ∧ (octet_digit_W ((gi s1 i_1).toNat : Int) (fun r0_2 r1_2 => (I64 (i_1 + 1)) ∧ (((0 : Int) ≤ i_1 + 1 ∧ i_1 + 1 < (s1.length : Int)) ∧ (octet_digit_W ((gi s1 (i_1 + 1)).toNat : Int) (fun r0_3 r1_3 => ((!r1_2) = true → octet_Unhex_j1 Q out_1 i_1 K_1 r0_2 r0_3 true) ∧ ((!r1_2) = false → octet_Unhex_j1 Q out_1 i_1 K_1 r0_2 r0_3 (!r1_3)))))))) ∧ (¬ (i_1 < (s1.length : Int)) → Q out_1 0)
def octet_Unhex_W (s1 : Str) (Q : Str → Int → Prop) : Prop :=
  (¬ ((bits .and .i64 (s1.length : Int) 1) = 0) → Q [] 2) ∧ ((bits .and .i64 (s1.length : Int) 1) = 0 → loopW (fun (K_1 : (List UInt8 × Int) → Prop) (s : List UInt8 × Int) => octet_Unhex_l1 s1 Q (fun out_1 i_1 => K_1 (out_1, i_1)) s.1 s.2) ([], 0))
set_option maxHeartbeats 40000000 in
set_option maxRecDepth 100000 in
theorem octet_Unhex_walk {F : Fz} {fr : List Ow} {h0 : Heap} (s1 : Str) (hS : St F (fr) h0)  {Q : Str → Int → Prop} (hM : octet_Unhex_W s1 Q) :
    HC Tryd.prog 31 #[.string (bs s1)] h0 fun u h' => ∃ (F' : Fz) (r0_1 : Str) (r1_1 : Int), u = .tuple #[.string (bs r0_1), .int .i64 r1_1] ∧ Kp F h0 F' h' ∧ St F' (fr) h' ∧ Q r0_1 r1_1 := by
  unfold octet_Unhex_W at hM
  have hK := Kp.refl F h0
  refine HC.of_HW (n := 50) Tryd.func31 rfl rfl (Nat.le_of_ble_eq_true rfl) ?_
  refine HW.seq ?_
  refine HW.region ?_
  refine HO.val (v := .string (bs [])) (want_none) rfl (q_assign rfl) ?_
  refine HO.val (v := .int .i64 0) (want_none) rfl (q_assign rfl) ?_
  refine HO.nil (thenQ_normal (?_))
  refine HW.seq ?_
  refine HW.region ?_
  refine HO.val (v := .slice none 0 0) (want_none) rfl (q_assign rfl) ?_
  refine HO.nil (thenQ_normal (?_))
  refine HW.seq ?_
  refine HW.seq ?_
  refine HW.region ?_
  refine HO.val (v := .string (bs s1)) (want_none) rfl (q_move rfl) ?_
  refine HO.val (v := .int .i64 (s1.length : Int)) (want_none) rfl (q_lenT Tryd.underlying9 rfl rfl) ?_
  refine HO.val (v := .int .i64 (bits .and .i64 (s1.length : Int) 1)) (want_none) rfl (q_bits (by simp) rfl rfl) ?_
  refine HO.val (v := .bool (!decide ((bits .and .i64 (s1.length : Int) 1) = 0))) (want_none) rfl (q_neq rfl rfl) ?_
  refine HO.nil (thenQ_normal (?_))
  refine HW.cond (!decide ((bits .and .i64 (s1.length : Int) 1) = 0)) rfl (fun c_1 => ?_) (fun c_1 => ?_)
  · replace hM := hM.1 (nd_true c_1)
    refine HW.seq ?_
    refine HW.region ?_
    refine HO.val (v := .string (bs [])) (want_none) rfl (q_assign rfl) ?_
    refine HO.val (v := .int .i64 2) (want_none) rfl (q_assign rfl) ?_
    refine HO.nil (thenQ_normal (?_))
    refine HW.ret (thenQ_ret (?_))
    refine ⟨.inr rfl, .tuple #[.string (bs []), .int .i64 2], res2 rfl (rt rfl) (rt rfl), ?_⟩
    exact ⟨F, [], 2, rfl, hK, hS, hM⟩
  · replace hM := hM.2 (nd_false c_1)
    refine HW.skip (thenQ_normal (?_))
    refine HW.seq ?_
    refine HW.seq ?_
    refine HW.region ?_
    refine HO.val (v := .int .i64 0) (want_none) rfl (q_assign rfl) ?_
    refine HO.nil (thenQ_normal (?_))
    refine HW.block ?_
    obtain ⟨I_1, m_1, hI_1, hR_1⟩ := hM
    replace hS := hS.nilOwn 5 1 enc8
    refine HW.loop (S := List UInt8 × Int) (fun s f h => match s with | (out_1, i_1) => ∃ (F' : Fz) (vout_1 : Value), f 0 = .string (bs s1) ∧ f 2 = .string (bs []) ∧ f 3 = .int .i64 0 ∧ f 4 = vout_1 ∧ f 5 = .int .i64 i_1 ∧ Kp F h0 F' h ∧ St F' (Ow.own 5 1 enc8 vout_1 out_1 :: fr) h ∧ I_1 (out_1, i_1)) m_1 ([], 0) ⟨F, .slice none 0 0, rfl, rfl, rfl, rfl, rfl, hK, hS, hI_1⟩ ?_
    rintro ⟨out_1, i_1⟩ f_1 h_1 ⟨F_1, vout_1, e0, e2, e3, e4, e5, hK, hS, hI0⟩
    obtain ⟨K_1, hKe_1⟩ : ∃ K : (List UInt8) → Int → Prop, K = fun out_1' i_1' => I_1 (out_1', i_1') ∧ m_1 (out_1', i_1') < m_1 (out_1, i_1) := ⟨_, rfl⟩
    have hM : octet_Unhex_l1 s1 Q K_1 out_1 i_1 := by rw [hKe_1]; exact hR_1 (out_1, i_1) hI0
    unfold octet_Unhex_l1 at hM
    refine HW.fr [(0, .string (bs s1)), (2, .string (bs [])), (3, .int .i64 0), (4, vout_1), (5, .int .i64 i_1)] ⟨e0, e2, e3, e4, e5, trivial⟩ ?_
    refine HW.seq ?_
    refine HW.seq ?_
    refine HW.region ?_
    refine HO.val (v := .int .i64 i_1) (want_none) rfl (q_move rfl) ?_
    refine HO.val (v := .string (bs s1)) (want_none) rfl (q_move rfl) ?_
    refine HO.val (v := .int .i64 (s1.length : Int)) (want_none) rfl (q_lenT Tryd.underlying9 rfl rfl) ?_
    refine HO.val (v := .bool (decide (i_1 < (s1.length : Int)))) (want_none) rfl (q_lss rfl rfl) ?_
    refine HO.nil (thenQ_normal (?_))
    refine HW.cond (decide (i_1 < (s1.length : Int))) rfl (fun c_2 => ?_) (fun c_2 => ?_)
    · replace hM := hM.1 (of_decide_eq_true c_2)
      refine HW.skip (thenQ_normal (?_))
      refine HW.seq ?_
      refine HW.block ?_
      refine HW.seq ?_
      refine HW.region ?_
      refine HO.val (v := .string (bs s1)) (want_none) rfl (q_move rfl) ?_
      refine HO.val (v := .int .i64 i_1) (want_none) rfl (q_move rfl) ?_
      obtain ⟨ho_1, hM⟩ := hM
      refine HO.val (v := .int .u8 ((gi s1 i_1).toNat : Int)) (want_none) rfl (q_idxT Tryd.underlying9 rfl rfl ho_1) ?_
      refine HO.call (want_none) rfl (ec en_47 rfl rfl) (octet_digit_walk (fr := (Ow.own 5 1 enc8 vout_1 out_1 :: fr)) ((gi s1 i_1).toNat : Int) hS hM) ?_
      rintro _ h_2 ⟨F_2, r0_2, r1_2, rfl, hk, hS, hM⟩
      replace hK := hK.trans hk
      refine HO.val (v := .tuple #[.int .u8 r0_2, .bool r1_2]) (want_none) rfl (q_move rfl) ?_
      refine HO.val (v := .int .u8 r0_2) (want_none) rfl (q_extract rfl rfl) ?_
      refine HO.val (v := .bool r1_2) (want_none) rfl (q_extract rfl rfl) ?_
      refine HO.val (v := .int .u8 r0_2) (want_none) rfl (q_assign rfl) ?_
      refine HO.val (v := .bool r1_2) (want_none) rfl (q_assign rfl) ?_
      refine HO.nil (thenQ_normal (?_))
      refine HW.seq ?_
      refine HW.region ?_
      refine HO.val (v := .string (bs s1)) (want_none) rfl (q_move rfl) ?_
      refine HO.val (v := .int .i64 i_1) (want_none) rfl (q_move rfl) ?_
      obtain ⟨ho_2, hM⟩ := hM
      refine HO.val (v := .int .i64 (i_1 + 1)) (want_none) rfl (q_addN _ rfl rfl rfl ho_2.1 ho_2.2) ?_
      obtain ⟨ho_3, hM⟩ := hM
      refine HO.val (v := .int .u8 ((gi s1 (i_1 + 1)).toNat : Int)) (want_none) rfl (q_idxT Tryd.underlying9 rfl rfl ho_3) ?_
      refine HO.call (want_none) rfl (ec en_47 rfl rfl) (octet_digit_walk (fr := (Ow.own 5 1 enc8 vout_1 out_1 :: fr)) ((gi s1 (i_1 + 1)).toNat : Int) hS hM) ?_
      rintro _ h_3 ⟨F_3, r0_3, r1_3, rfl, hk, hS, hM⟩
      replace hK := hK.trans hk
      refine HO.val (v := .tuple #[.int .u8 r0_3, .bool r1_3]) (want_none) rfl (q_move rfl) ?_
      refine HO.val (v := .int .u8 r0_3) (want_none) rfl (q_extract rfl rfl) ?_
      refine HO.val (v := .bool r1_3) (want_none) rfl (q_extract rfl rfl) ?_
      refine HO.val (v := .int .u8 r0_3) (want_none) rfl (q_assign rfl) ?_
      refine HO.val (v := .bool r1_3) (want_none) rfl (q_assign rfl) ?_
      refine HO.nil (thenQ_normal (?_))
      refine HW.seq ?_
      refine HW.seq_mid (fun f h => ∃ (F' : Fz) (b_1 : Bool), f 0 = .string (bs s1) ∧ f 2 = .string (bs []) ∧ f 3 = .int .i64 0 ∧ f 4 = vout_1 ∧ f 5 = .int .i64 i_1 ∧ f 6 = .int .u8 r0_2 ∧ f 8 = .int .u8 r0_3 ∧ f 40 = .bool b_1 ∧ Kp F h0 F' h ∧ St F' (Ow.own 5 1 enc8 vout_1 out_1 :: fr) h ∧ octet_Unhex_j1 Q out_1 i_1 K_1 r0_2 r0_3 b_1) ?_ ?_
      · refine HW.region ?_
        refine HO.val (v := .bool r1_2) (want_none) rfl (q_move rfl) ?_
        refine HO.val (v := .bool (!r1_2)) (want_none) rfl (q_not rfl) ?_
        refine HO.val (v := .bool (!r1_2)) (want_none) rfl (q_move rfl) ?_
        rcases Bool.eq_false_or_eq_true (!r1_2) with c_3 | c_3
        · replace hM := hM.1 c_3
          refine HO.past (past_by rfl rfl c_3) rfl ?_
          refine HO.past (past_by rfl rfl c_3) rfl ?_
          refine HO.val (v := .bool true) (want_none) rfl (q_pickK true rfl c_3 rfl) ?_
          refine HO.nil (thenQ_normal (?_))
          exact ⟨F_3, true, rfl, rfl, rfl, rfl, rfl, rfl, rfl, rfl, hK, hS, hM⟩
        · replace hM := hM.2 c_3
          refine HO.val (v := .bool r1_3) (want_by rfl rfl c_3) rfl (q_move rfl) ?_
          refine HO.val (v := .bool (!r1_3)) (want_by rfl rfl c_3) rfl (q_not rfl) ?_
          refine HO.val (v := .bool (!r1_3)) (want_none) rfl (q_pickK false rfl c_3 rfl) ?_
          refine HO.nil (thenQ_normal (?_))
          exact ⟨F_3, !r1_3, rfl, rfl, rfl, rfl, rfl, rfl, rfl, rfl, hK, hS, hM⟩
      · rintro f_2 h_4 ⟨F_4, b_1, e0, e2, e3, e4, e5, e6, e8, e40, hK, hS, hM⟩
        unfold octet_Unhex_j1 at hM
        refine HW.fr [(0, .string (bs s1)), (2, .string (bs [])), (3, .int .i64 0), (4, vout_1), (5, .int .i64 i_1), (6, .int .u8 r0_2), (8, .int .u8 r0_3), (40, .bool b_1)] ⟨e0, e2, e3, e4, e5, e6, e8, e40, trivial⟩ ?_
        refine HW.cond b_1 rfl (fun c_4 => ?_) (fun c_4 => ?_)
        · replace hM := hM.1 c_4
          refine HW.seq ?_
          refine HW.region ?_
          refine HO.val (v := .string (bs [])) (want_none) rfl (q_assign rfl) ?_
          refine HO.val (v := .int .i64 2) (want_none) rfl (q_assign rfl) ?_
          refine HO.nil (thenQ_normal (?_))
          refine HW.ret (thenQ_ret (blockQ_ret (thenQ_ret (thenQ_ret (blockQ_ret (thenQ_ret (?_)))))))
          refine ⟨.inr rfl, .tuple #[.string (bs []), .int .i64 2], res2 rfl (rt rfl) (rt rfl), ?_⟩
          replace hS : St F_4 (fr) h_4 := hS.perm2 [] 1 rfl rfl
          exact ⟨F_4, [], 2, rfl, hK, hS, hM⟩
        · replace hM := hM.2 c_4
          refine HW.skip (thenQ_normal (?_))
          refine HW.region ?_
          refine HO.val (v := vout_1) (want_none) rfl (q_move rfl) ?_
          refine HO.val (v := .int .u8 r0_2) (want_none) rfl (q_move rfl) ?_
          refine HO.val (v := .int .u8 ((u8w (r0_2 * 2 ^ (min (4 : Int).toNat IntKind.u8.bits))).toNat : Int)) (want_none) rfl ((q_shl rfl rfl (by decide) rfl).of_eq (u8w_v _)) ?_
          refine HO.val (v := .int .u8 r0_3) (want_none) rfl (q_move rfl) ?_
          obtain ⟨ho_4, hM⟩ := hM
          refine HO.val (v := .int .u8 ((u8w (bits .or .u8 ((u8w (r0_2 * 2 ^ (min (4 : Int).toNat IntKind.u8.bits))).toNat : Int) r0_3)).toNat : Int)) (want_none) rfl ((q_bits (by simp) rfl rfl).of_eq (u8r_v ho_4)) ?_
          refine HO.eff (want_none) rfl (st_lit (enc := enc8) (cells := #[.int .u8 ((u8w (bits .or .u8 ((u8w (r0_2 * 2 ^ (min (4 : Int).toNat IntKind.u8.bits))).toNat : Int) r0_3)).toNat : Int)]) #[.int .u8 0] ([(u8w (bits .or .u8 ((u8w (r0_2 * 2 ^ (min (4 : Int).toNat IntKind.u8.bits))).toNat : Int) r0_3))] : List UInt8) hS tl_44 (by decide) (by decide) (by kernel_rfl) (by kernel_rfl) rfl (by intro x hx; rfl) rfl) ?_
          rintro _ h_5 ⟨b_2, rfl, hS, hk⟩
          replace hK := hK.trans hk
          obtain ⟨ho_5, hM⟩ := hM
          refine HO.eff (want_none) rfl (st_append te_44 hS (i := 1) rfl (hS.own 0 rfl).slice rfl rfl rfl (by intro a _ u hu; simp [enc8, encI, encN, encB, encT] at hu; subst hu; rfl) ho_5 (by omega)) ?_
          rintro v_1 h_6 ⟨hS, hk⟩
          replace hS : St F_4 (Ow.own 5 1 enc8 (.slice (some ⟨b_2, 0, none⟩) 1 1) ([(u8w (bits .or .u8 ((u8w (r0_2 * 2 ^ (min (4 : Int).toNat IntKind.u8.bits))).toNat : Int) r0_3))] : List UInt8) :: Ow.own 5 1 enc8 v_1 (out_1 ++ ([(u8w (bits .or .u8 ((u8w (r0_2 * 2 ^ (min (4 : Int).toNat IntKind.u8.bits))).toNat : Int) r0_3))] : List UInt8)) :: fr) h_6 := hS
          replace hK := hK.trans hk
          refine HO.val (v := v_1) (want_none) rfl (q_assign rfl) ?_
          refine HO.nil (blockQ_normal (thenQ_normal (?_)))
          refine HW.region ?_
          refine HO.val (v := .int .i64 i_1) (want_none) rfl (q_move rfl) ?_
          obtain ⟨ho_6, hM⟩ := hM
          refine HO.val (v := .int .i64 (i_1 + 2)) (want_none) rfl (q_addN _ rfl rfl rfl ho_6.1 ho_6.2) ?_
          refine HO.val (v := .int .i64 (i_1 + 2)) (want_none) rfl (q_assign rfl) ?_
          refine HO.nil (thenQ_normal (?_))
          replace hS : St F_4 (Ow.own 5 1 enc8 v_1 (out_1 ++ ([(u8w (bits .or .u8 ((u8w (r0_2 * 2 ^ (min (4 : Int).toNat IntKind.u8.bits))).toNat : Int) r0_3))] : List UInt8)) :: fr) h_6 := hS.perm2 [1] 2 rfl rfl
          rw [hKe_1] at hM
          exact ⟨(out_1 ++ ([(u8w (bits .or .u8 ((u8w (r0_2 * 2 ^ (min (4 : Int).toNat IntKind.u8.bits))).toNat : Int) r0_3))] : List UInt8), i_1 + 2), ⟨F_4, v_1, rfl, rfl, rfl, rfl, rfl, hK, hS, hM.1⟩, hM.2⟩
    · replace hM := hM.2 (of_decide_eq_false c_2)
      refine HW.exit (thenQ_exit (thenQ_exit (blockQ_exit (thenQ_normal (?_)))))
      refine HW.seq ?_
      refine HW.region ?_
      refine HO.val (v := vout_1) (want_none) rfl (q_move rfl) ?_
      refine HO.val (v := .string (bs out_1)) (want_none) rfl (q_bytesStr ts_44 Tryd.underlying5 Tryd.underlying9 (hS.own 0 rfl).slice rfl) ?_
      refine HO.val (v := .string (bs out_1)) (want_none) rfl (q_assign rfl) ?_
      refine HO.val (v := .int .i64 0) (want_none) rfl (q_assign rfl) ?_
      refine HO.nil (thenQ_normal (?_))
      refine HW.ret (?_)
      refine ⟨.inr rfl, .tuple #[.string (bs out_1), .int .i64 0], res2 rfl (rt rfl) (rt rfl), ?_⟩
      replace hS : St F_1 (fr) h_1 := hS.perm2 [] 1 rfl rfl
      exact ⟨F_1, out_1, 0, rfl, hK, hS, hM⟩

def addr_ParseMac_j1 (Q : (Ba 6) → Int → Prop) (r0_2 : Str) (b_3 : Bool) : Prop :=
  (b_3 = true → Q (mkB 6 [0, 0, 0, 0, 0, 0]) 2) ∧ (b_3 = false → Q (cpyB (default : Ba 6) r0_2) 0)
def addr_ParseMac_W (s1 : Str) (Q : (Ba 6) → Int → Prop) : Prop :=
  ((s1.length : Int) ≤ 1000000 ∧ ((([] : Str)).length : Int) ≤ 1000000 ∧ 1 ≤ ((([58] : Str)).length : Int)) ∧ (octet_Unhex_W (replS s1 ([58] : Str) ([] : Str)) (fun r0_2 r1_2 => (¬ (r1_2 = 0) → addr_ParseMac_j1 Q r0_2 true) ∧ (r1_2 = 0 → addr_PrintMac_W (cpyB (default : Ba 6) r0_2) (fun r_1 => addr_ParseMac_j1 Q r0_2 (!decide ((r_1 : Str) = s1))))))
set_option maxHeartbeats 40000000 in
set_option maxRecDepth 100000 in
theorem addr_ParseMac_walk {F : Fz} {fr : List Ow} {h0 : Heap} (s1 : Str) (gm : Int) (hS : St F (fr) h0) (hG_0 : RoF (Ow.box 0 3 #[.int .i64 gm]) F h0) (hD : DM.on = false) {Q : (Ba 6) → Int → Prop} (hM : addr_ParseMac_W s1 Q) :
    HC Tryd.prog 17 #[.string (bs s1)] h0 fun u h' => ∃ (F' : Fz) (r0_1 : Ba 6) (r1_1 : Int), u = .tuple #[.agg (arrCells r0_1).toArray, .int .i64 r1_1] ∧ Kp F h0 F' h' ∧ St F' (fr) h' ∧ (RoF (Ow.box 0 3 #[.int .i64 gm]) F' h') ∧ Q r0_1 r1_1 := by
  unfold addr_ParseMac_W at hM
  have hK := Kp.refl F h0
  refine HC.of_HW (n := 26) Tryd.func17 rfl rfl (Nat.le_of_ble_eq_true rfl) ?_
  refine HW.seq ?_
  refine HW.region ?_
  refine HO.eff (want_none) rfl (st_alloc (c := (arrCells (default : Ba 6)).toArray) hS tz_38 rfl) ?_
  rintro _ h_1 ⟨b_1, rfl, hS, hk⟩
  replace hK := hK.trans hk
  replace hG_0 := hG_0.kp hk
  refine HO.val (v := .int .i64 0) (want_none) rfl (q_assign rfl) ?_
  refine HO.nil (thenQ_normal (?_))
  refine HW.seq ?_
  refine HW.region ?_
  refine HO.eff (want_none) rfl (st_alloc (c := (arrCells (default : Ba 6)).toArray) hS tz_38 rfl) ?_
  rintro _ h_2 ⟨b_2, rfl, hS, hk⟩
  replace hK := hK.trans hk
  replace hG_0 := hG_0.kp hk
  refine HO.nil (thenQ_normal (?_))
  refine HW.seq ?_
  refine HW.region ?_
  refine HO.val (v := .string (bs s1)) (want_none) rfl (q_move rfl) ?_
  obtain ⟨ho_1, hM⟩ := hM
  refine HO.call (want_none) rfl (ec en_32 rfl rfl) (strReplaceAll_hc hD Tryd.repl Tryd.replX hG_0 hS s1 ([58] : Str) ([] : Str) ho_1) ?_
  rintro _ h_3 ⟨rfl, hS, hk⟩
  replace hK := hK.trans hk
  replace hG_0 := hG_0.kp hk
  refine HO.call (want_none) rfl (ec en_31 rfl rfl) (octet_Unhex_walk (fr := (Ow.box b_2 38 (arrCells (default : Ba 6)).toArray :: Ow.box b_1 38 (arrCells (default : Ba 6)).toArray :: fr)) (replS s1 ([58] : Str) ([] : Str)) hS hM) ?_
  rintro _ h_4 ⟨F_1, r0_2, r1_2, rfl, hk, hS, hM⟩
  replace hK := hK.trans hk
  replace hG_0 := hG_0.kp hk
  refine HO.val (v := .tuple #[.string (bs r0_2), .int .i64 r1_2]) (want_none) rfl (q_move rfl) ?_
  refine HO.val (v := .string (bs r0_2)) (want_none) rfl (q_extract rfl rfl) ?_
  refine HO.val (v := .int .i64 r1_2) (want_none) rfl (q_extract rfl rfl) ?_
  refine HO.val (v := .string (bs r0_2)) (want_none) rfl (q_assign rfl) ?_
  refine HO.val (v := .int .i64 r1_2) (want_none) rfl (q_assign rfl) ?_
  refine HO.nil (thenQ_normal (?_))
  refine HW.seq ?_
  refine HW.region ?_
  refine HO.val (v := arrV b_2 0 6 0 6) (want_none) rfl (q_sliceA (o := 0) (lo := 0) (hi := 6) (kl := .i64) (kh := .i64) tr_38 rfl (.inl ⟨rfl, rfl⟩) (.inl ⟨rfl, rfl⟩) ⟨by decide, by decide, by decide⟩) ?_
  refine HO.val (v := .string (bs r0_2)) (want_none) rfl (q_move rfl) ?_
  refine HO.eff (want_none) rfl (st_copyA (n := 6) (o := 0) (X := (default : Ba 6)) (s := r0_2) (c' := (arrCells (cpyB (default : Ba 6) r0_2)).toArray) hS (i := 0) rfl ts_44 rfl rfl rfl rfl rfl (by decide)) ?_
  rintro _ h_5 ⟨rfl, hS, hk⟩
  replace hS : St F_1 (Ow.box b_2 38 (arrCells (cpyB (default : Ba 6) r0_2)).toArray :: Ow.box b_1 38 (arrCells (default : Ba 6)).toArray :: fr) h_5 := hS
  replace hK := hK.trans hk
  replace hG_0 := hG_0.kp hk
  refine HO.nil (thenQ_normal (?_))
  refine HW.seq ?_
  refine HW.seq_mid (fun f h => ∃ (F' : Fz) (b_3 : Bool), f 2 = .pointer (some ⟨b_1, 0, none⟩) ∧ f 3 = .int .i64 0 ∧ f 4 = .pointer (some ⟨b_2, 0, none⟩) ∧ f 23 = .bool b_3 ∧ Kp F h0 F' h ∧ St F' (Ow.box b_1 38 (arrCells (default : Ba 6)).toArray :: Ow.box b_2 38 (arrCells (cpyB (default : Ba 6) r0_2)).toArray :: fr) h ∧ (RoF (Ow.box 0 3 #[.int .i64 gm]) F' h) ∧ addr_ParseMac_j1 Q r0_2 b_3) ?_ ?_
  · refine HW.region ?_
    refine HO.val (v := .int .i64 r1_2) (want_none) rfl (q_move rfl) ?_
    refine HO.val (v := .bool (!decide (r1_2 = 0))) (want_none) rfl (q_neq rfl rfl) ?_
    refine HO.val (v := .bool (!decide (r1_2 = 0))) (want_none) rfl (q_move rfl) ?_
    rcases Bool.eq_false_or_eq_true (!decide (r1_2 = 0)) with c_1 | c_1
    · replace hM := hM.1 (nd_true c_1)
      refine HO.past (past_by rfl rfl c_1) rfl ?_
      refine HO.past (past_by rfl rfl c_1) rfl ?_
      refine HO.past (past_by rfl rfl c_1) rfl ?_
      refine HO.past (past_by rfl rfl c_1) rfl ?_
      refine HO.val (v := .bool true) (want_none) rfl (q_pickK true rfl c_1 rfl) ?_
      refine HO.nil (thenQ_normal (?_))
      replace hS : St F_1 (Ow.box b_1 38 (arrCells (default : Ba 6)).toArray :: Ow.box b_2 38 (arrCells (cpyB (default : Ba 6) r0_2)).toArray :: fr) h_5 := hS.perm2 [1, 0] 2 rfl rfl
      exact ⟨F_1, true, rfl, rfl, rfl, rfl, hK, hS, hG_0, hM⟩
    · replace hM := hM.2 (nd_false c_1)
      refine HO.val (v := .agg (arrCells (cpyB (default : Ba 6) r0_2)).toArray) (want_by rfl rfl c_1) rfl (q_loadAgg (cs := (arrCells (cpyB (default : Ba 6) r0_2))) ta_38 rfl rfl (Blk.cells (k := 6) (hS.box 0 rfl) rfl)) ?_
      refine HO.call (want_by rfl rfl c_1) rfl (ec en_20 rfl rfl) (addr_PrintMac_walk (fr := (Ow.box b_2 38 (arrCells (cpyB (default : Ba 6) r0_2)).toArray :: Ow.box b_1 38 (arrCells (default : Ba 6)).toArray :: fr)) (cpyB (default : Ba 6) r0_2) hS hD hM) ?_
      rintro _ h_6 ⟨F_2, r_1, rfl, hk, hS, hM⟩
      replace hK := hK.trans hk
      replace hG_0 := hG_0.kp hk
      refine HO.val (v := .string (bs s1)) (want_by rfl rfl c_1) rfl (q_move rfl) ?_
      refine HO.val (v := .bool (!decide ((r_1 : Str) = s1))) (want_by rfl rfl c_1) rfl (q_neqT rfl rfl) ?_
      refine HO.val (v := .bool (!decide ((r_1 : Str) = s1))) (want_none) rfl (q_pickK false rfl c_1 rfl) ?_
      refine HO.nil (thenQ_normal (?_))
      replace hS : St F_2 (Ow.box b_1 38 (arrCells (default : Ba 6)).toArray :: Ow.box b_2 38 (arrCells (cpyB (default : Ba 6) r0_2)).toArray :: fr) h_6 := hS.perm2 [1, 0] 2 rfl rfl
      exact ⟨F_2, !decide ((r_1 : Str) = s1), rfl, rfl, rfl, rfl, hK, hS, hG_0, hM⟩
  · rintro f_1 h_7 ⟨F_3, b_3, e2, e3, e4, e23, hK, hS, hG_0, hM⟩
    unfold addr_ParseMac_j1 at hM
    refine HW.fr [(2, .pointer (some ⟨b_1, 0, none⟩)), (3, .int .i64 0), (4, .pointer (some ⟨b_2, 0, none⟩)), (23, .bool b_3)] ⟨e2, e3, e4, e23, trivial⟩ ?_
    refine HW.cond b_3 rfl (fun c_2 => ?_) (fun c_2 => ?_)
    · replace hM := hM.1 c_2
      refine HW.seq ?_
      refine HW.region ?_
      refine HO.val (v := .agg (arrCells (mkB 6 [0, 0, 0, 0, 0, 0])).toArray) (want_none) rfl ((q_buildA (cells := #[.int .u8 0, .int .u8 0, .int .u8 0, .int .u8 0, .int .u8 0, .int .u8 0]) tb_38 rfl).of_eq (mkB_agg (n := 6) (l := [0, 0, 0, 0, 0, 0]) rfl ⟨⟨by decide, by decide⟩, ⟨⟨by decide, by decide⟩, ⟨⟨by decide, by decide⟩, ⟨⟨by decide, by decide⟩, ⟨⟨by decide, by decide⟩, ⟨⟨by decide, by decide⟩, trivial⟩⟩⟩⟩⟩⟩)) ?_
      refine HO.sto (want_none) rfl (st_storeAgg (c' := (arrCells (mkB 6 [0, 0, 0, 0, 0, 0])).toArray) hS (i := 0) rfl ta_38 rfl rfl rfl (one_arr _) (Nat.le_of_ble_eq_true rfl) rfl) ?_
      rintro h_8 ⟨hS, hk⟩
      replace hS : St F_3 (Ow.box b_1 38 (arrCells (mkB 6 [0, 0, 0, 0, 0, 0])).toArray :: Ow.box b_2 38 (arrCells (cpyB (default : Ba 6) r0_2)).toArray :: fr) h_8 := hS
      replace hK := hK.trans hk
      replace hG_0 := hG_0.kp hk
      refine HO.val (v := .int .i64 2) (want_none) rfl (q_assign rfl) ?_
      refine HO.nil (thenQ_normal (?_))
      refine HW.ret (thenQ_ret (?_))
      refine ⟨.inr rfl, .tuple #[.agg (arrCells (mkB 6 [0, 0, 0, 0, 0, 0])).toArray, .int .i64 2], res2 rfl (rca (cs := (arrCells (mkB 6 [0, 0, 0, 0, 0, 0]))) ta_38 rfl rfl (Blk.cells (k := 6) (hS.box 0 rfl) rfl)) (rt rfl), ?_⟩
      replace hS : St F_3 (fr) h_8 := hS.perm2 [] 2 rfl rfl
      exact ⟨F_3, mkB 6 [0, 0, 0, 0, 0, 0], 2, rfl, hK, hS, hG_0, hM⟩
    · replace hM := hM.2 c_2
      refine HW.skip (thenQ_normal (?_))
      refine HW.seq ?_
      refine HW.region ?_
      refine HO.val (v := .agg (arrCells (cpyB (default : Ba 6) r0_2)).toArray) (want_none) rfl (q_loadAgg (cs := (arrCells (cpyB (default : Ba 6) r0_2))) ta_38 rfl rfl (Blk.cells (k := 6) (hS.box 1 rfl) rfl)) ?_
      refine HO.sto (want_none) rfl (st_storeAgg (c' := (arrCells (cpyB (default : Ba 6) r0_2)).toArray) hS (i := 0) rfl ta_38 rfl rfl rfl (one_arr _) (Nat.le_of_ble_eq_true rfl) rfl) ?_
      rintro h_9 ⟨hS, hk⟩
      replace hS : St F_3 (Ow.box b_1 38 (arrCells (cpyB (default : Ba 6) r0_2)).toArray :: Ow.box b_2 38 (arrCells (cpyB (default : Ba 6) r0_2)).toArray :: fr) h_9 := hS
      replace hK := hK.trans hk
      replace hG_0 := hG_0.kp hk
      refine HO.val (v := .int .i64 0) (want_none) rfl (q_assign rfl) ?_
      refine HO.nil (thenQ_normal (?_))
      refine HW.ret (?_)
      refine ⟨.inr rfl, .tuple #[.agg (arrCells (cpyB (default : Ba 6) r0_2)).toArray, .int .i64 0], res2 rfl (rca (cs := (arrCells (cpyB (default : Ba 6) r0_2))) ta_38 rfl rfl (Blk.cells (k := 6) (hS.box 0 rfl) rfl)) (rt rfl), ?_⟩
      replace hS : St F_3 (fr) h_9 := hS.perm2 [] 2 rfl rfl
      exact ⟨F_3, (cpyB (default : Ba 6) r0_2), 0, rfl, hK, hS, hG_0, hM⟩
end Go.Wk
