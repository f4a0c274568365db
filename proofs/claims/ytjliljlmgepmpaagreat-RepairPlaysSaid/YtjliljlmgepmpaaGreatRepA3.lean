/- Walks of repair: what both laws share. -/
import Derived.Test.YtjliljlmgepmpaaGreatRepA2
set_option linter.unusedSimpArgs false
set_option linter.unusedVariables false
set_option linter.unusedSectionVars false
set_option maxHeartbeats 40000000
set_option maxRecDepth 100000
namespace Go.Wk
open Go.HL
open Go.Proofs hiding encI
variable [DM]
def ref33_Make_l3 (services : List Int) (fan : Int) (i_2 : Int) (K_2 : (List Int) → Int → Prop) (K_3 : (List Int) → Int → Prop) (places_3 : List Int) (j_2 : Int) : Prop :=
 (j_2 < fan → ((0 : Int) ≤ i_2 ∧ i_2 < (services.length : Int)) ∧ (((places_3.length + ([(gi services i_2)] : List Int).length) * 8 ≤ 140737488355328) ∧ ((I64 (j_2 + 1)) ∧ (K_3 (places_3 ++ ([(gi services i_2)] : List Int)) (j_2 + 1))))) ∧ (¬ (j_2 < fan) → (I64 (i_2 + 1)) ∧ (K_2 places_3 (i_2 + 1)))
def ref33_Make_l4 (root : Int) (members : List Int) (services : List Int) (Q : Int → (List TB) → Prop) (r_1 : Int) (places_2 : List Int) (K_4 : (List TB) → Int → Prop) (t_1_1 : List TB) (i_3 : Int) : Prop :=
 (i_3 < (((([] : List Int) ++ (cut services 0 r_1)) ++ members).length : Int) → ((0 : Int) ≤ i_3 ∧ i_3 < (places_2.length : Int)) ∧ (((0 : Int) ≤ i_3 ∧ i_3 < (((([] : List Int) ++ (cut services 0 r_1)) ++ members).length : Int)) ∧ (((t_1_1.length + ([((gi places_2 i_3), (gi ((([] : List Int) ++ (cut services 0 r_1)) ++ members) i_3))] : List TB).length) * 16 ≤ 140737488355328) ∧ ((I64 (i_3 + 1)) ∧ (K_4 (t_1_1 ++ ([((gi places_2 i_3), (gi ((([] : List Int) ++ (cut services 0 r_1)) ++ members) i_3))] : List TB)) (i_3 + 1)))))) ∧ (¬ (i_3 < (((([] : List Int) ++ (cut services 0 r_1)) ++ members).length : Int)) → ref32_Sorted_W t_1_1 (fun r_2 => Q root r_2))
def ref33_Make_l2 (root : Int) (members : List Int) (services : List Int) (fan : Int) (Q : Int → (List TB) → Prop) (r_1 : Int) (K_2 : (List Int) → Int → Prop) (places_2 : List Int) (i_2 : Int) : Prop :=
 (i_2 < r_1 → loopW (fun (K_3 : (List Int × Int) → Prop) (s : List Int × Int) => ref33_Make_l3 services fan i_2 K_2 (fun places_3 j_2 => K_3 (places_3, j_2)) s.1 s.2) (places_2, 0)) ∧ (¬ (i_2 < r_1) → loopW (fun (K_4 : (List TB × Int) → Prop) (s : List TB × Int) => ref33_Make_l4 root members services Q r_1 places_2 (fun t_1_1 i_3 => K_4 (t_1_1, i_3)) s.1 s.2) ([], 0))
def ref33_Make_l1 (root : Int) (members : List Int) (services : List Int) (fan : Int) (Q : Int → (List TB) → Prop) (r_1 : Int) (K_1 : (List Int) → Int → Prop) (places_1 : List Int) (i_1 : Int) : Prop :=
 (i_1 < fan → ((places_1.length + ([root] : List Int).length) * 8 ≤ 140737488355328) ∧ ((I64 (i_1 + 1)) ∧ (K_1 (places_1 ++ ([root] : List Int)) (i_1 + 1)))) ∧ (¬ (i_1 < fan) → loopW (fun (K_2 : (List Int × Int) → Prop) (s : List Int × Int) => ref33_Make_l2 root members services fan Q r_1 (fun places_2 i_2 => K_2 (places_2, i_2)) s.1 s.2) (places_1, 0))
def ref33_Make_j1 (root : Int) (members : List Int) (services : List Int) (fan : Int) (Q : Int → (List TB) → Prop) (r_1 : Int) (b_2 : Bool) : Prop :=
 (b_2 = true → ref33_Star_W root members (fun r_0_2 r_1_2 => Q r_0_2 r_1_2)) ∧ (b_2 = false → ((0 : Int) ≤ r_1 ∧ r_1 ≤ (services.length : Int)) ∧ (((([] : List Int).length + (cut services 0 r_1).length) * 8 ≤ 140737488355328) ∧ ((((([] : List Int) ++ (cut services 0 r_1)).length + members.length) * 8 ≤ 140737488355328) ∧ (loopW (fun (K_1 : (List Int × Int) → Prop) (s : List Int × Int) => ref33_Make_l1 root members services fan Q r_1 (fun places_1 i_1 => K_1 (places_1, i_1)) s.1 s.2) ([], 0)))))
def ref33_Make_W (root : Int) (members : List Int) (services : List Int) (fan : Int) (Q : Int → (List TB) → Prop) : Prop :=
 ref33_Need_W (members.length : Int) fan (fun r_1 => (r_1 < 0 → ref33_Make_j1 root members services fan Q r_1 true) ∧ (¬ (r_1 < 0) → ref33_Make_j1 root members services fan Q r_1 (decide ((services.length : Int) < r_1))))
theorem ref33_Make_walk {F : Fz} {fr : List Ow} {h0 : Heap} (root : Int) (members : List Int) (services : List Int) (fan : Int) (vmembers : Value) (vs_ : Value) (hS : St F (fr) h0) (hLm : SliceF F h0 1 encI vmembers members) (hLs : SliceF F h0 1 encI vs_ services) {Q : Int → (List TB) → Prop} (hM : ref33_Make_W root members services fan Q) :
  HC Tryz.prog 7 #[.int .i64 root, vmembers, vs_, .int .i64 fan] h0 fun u h' => ∃ (F' : Fz) (r_0_1 : Int) (r_1_1 : List TB) (vr_1_1 : Value), u = .agg #[.int .i64 r_0_1, vr_1_1] ∧ Kp F h0 F' h' ∧ St F' (Ow.own 52 2 eB vr_1_1 r_1_1 :: fr) h' ∧ (SliceF F' h' 1 encI vmembers members) ∧ (SliceF F' h' 1 encI vs_ services) ∧ Q r_0_1 r_1_1 := by
 unfold ref33_Make_W at hM
 have hK := Kp.refl F h0
 refine HC.of_HW (n := 93) Tryz.func7 rfl rfl (Nat.le_of_ble_eq_true rfl) ?_
 refine HW.seq ?_
 refine HW.region ?_
 refine HO.eff (wn) rfl (st_alloc (c := #[.int .i64 0, .slice none 0 0]) hS tz_31 rfl) ?_
 rintro _ h_1 ⟨b_1, rfl, hS, hk⟩
 replace hK := hK.trans hk
 replace hLm := hLm.kp hk
 replace hLs := hLs.kp hk
 refine HO.nil (tqn (?_))
 refine HW.seq ?_
 refine HW.region ?_
 refine oM (vmembers) rfl rfl ?_
 refine oV (.int .i64 (members.length : Int)) (q_len ts_22 (shp hLm.is) rfl rfl) rfl ?_
 refine oM (.int .i64 fan) rfl rfl ?_
 refine HO.call (wn) rfl (ec en_27 rfl rfl) (ref33_Need_walk (fr := (Ow.box b_1 31 #[.int .i64 0, .slice none 0 0] :: fr)) (members.length : Int) fan hS hM) ?_
 rintro _ h_2 ⟨F_1, r_1, rfl, hk, hS, hM⟩
 replace hK := hK.trans hk
 replace hLm := hLm.kp hk
 replace hLs := hLs.kp hk
 refine oA (.int .i64 r_1) rfl rfl ?_
 refine HO.nil (tqn (?_))
 refine HW.seq ?_
 refine HW.seq_mid (fun f h => ∃ (F' : Fz) (b_2 : Bool), f 0 = .int .i64 root ∧ f 1 = vmembers ∧ f 2 = vs_ ∧ f 3 = .int .i64 fan ∧ f 8 = .pointer (some ⟨b_1, 0, none⟩) ∧ f 9 = .int .i64 r_1 ∧ f 28 = .bool b_2 ∧ Kp F h0 F' h ∧ St F' (Ow.box b_1 31 #[.int .i64 0, .slice none 0 0] :: fr) h ∧ (SliceF F' h 1 encI vmembers members) ∧ (SliceF F' h 1 encI vs_ services) ∧ ref33_Make_j1 root members services fan Q r_1 b_2) ?_ ?_
 ·
  refine HW.region ?_
  refine oM (.int .i64 r_1) rfl rfl ?_
  refine oV (.bool (decide (r_1 < 0))) (q_lss rfl rfl) rfl ?_
  refine oM (.bool (decide (r_1 < 0))) rfl rfl ?_
  rcases Bool.eq_false_or_eq_true (decide (r_1 < 0)) with c_1 | c_1
  ·
   replace hM := hM.1 (of_decide_eq_true c_1)
   refine HO.past (pby rfl rfl c_1) rfl ?_
   refine HO.past (pby rfl rfl c_1) rfl ?_
   refine HO.past (pby rfl rfl c_1) rfl ?_
   refine HO.past (pby rfl rfl c_1) rfl ?_
   refine oV (.bool true) (q_pickK true rfl c_1 rfl) rfl ?_
   refine HO.nil (tqn (?_))
   exact ⟨F_1, true, rfl, rfl, rfl, rfl, rfl, rfl, rfl, hK, hS, hLm, hLs, hM⟩
  ·
   replace hM := hM.2 (of_decide_eq_false c_1)
   refine HO.val (v := .int .i64 r_1) (wby rfl rfl c_1) rfl (q_move rfl) ?_
   refine HO.val (v := vs_) (wby rfl rfl c_1) rfl (q_move rfl) ?_
   refine HO.val (v := .int .i64 (services.length : Int)) (wby rfl rfl c_1) rfl (q_len ts_22 (shp hLs.is) rfl rfl) ?_
   refine HO.val (v := .bool (decide ((services.length : Int) < r_1))) (wby rfl rfl c_1) rfl (q_gtr rfl rfl) ?_
   refine oV (.bool (decide ((services.length : Int) < r_1))) (q_pickK false rfl c_1 rfl) rfl ?_
   refine HO.nil (tqn (?_))
   exact ⟨F_1, decide ((services.length : Int) < r_1), rfl, rfl, rfl, rfl, rfl, rfl, rfl, hK, hS, hLm, hLs, hM⟩
 ·
  rintro f_1 h_3 ⟨F_2, b_2, e0, e1, e2, e3, e8, e9, e28, hK, hS, hLm, hLs, hM⟩
  unfold ref33_Make_j1 at hM
  refine HW.fr [(0, .int .i64 root), (1, vmembers), (2, vs_), (3, .int .i64 fan), (8, .pointer (some ⟨b_1, 0, none⟩)), (9, .int .i64 r_1), (28, .bool b_2)] ⟨e0, e1, e2, e3, e8, e9, e28, trivial⟩ ?_
  refine HW.cond b_2 rfl (fun c_2 => ?_) (fun c_2 => ?_)
  ·
   replace hM := hM.1 c_2
   refine HW.seq ?_
   refine HW.region ?_
   refine oM (.int .i64 root) rfl rfl ?_
   refine oM (vmembers) rfl rfl ?_
   refine HO.call (wn) rfl (ec en_28 rfl rfl) (ref33_Star_walk (fr := (Ow.box b_1 31 #[.int .i64 0, .slice none 0 0] :: fr)) root members vmembers hS hLm hM) ?_
   rintro _ h_4 ⟨F_3, r_0_2, r_1_2, vr_1_2, rfl, hk, hS, _, hM⟩
   replace hK := hK.trans hk
   replace hLm := hLm.kp hk
   replace hLs := hLs.kp hk
   refine HO.sto (wn) rfl (st_storeAgg (c' := #[.int .i64 r_0_2, vr_1_2]) hS (i := 1) rfl ta_31 rfl rfl rfl (List.forall_mem_cons.2 ⟨rfl, (List.forall_mem_cons.2 ⟨(shp (hS.own 0 rfl).slice).one, (fun _ h => by cases h)⟩)⟩) (Nat.le_of_ble_eq_true rfl) rfl) ?_
   rintro h_5 ⟨hS, hk⟩
   replace hK := hK.trans hk
   replace hLm := hLm.kp hk
   replace hLs := hLs.kp hk
   refine HO.nil (tqn (?_))
   refine HW.ret (thenQ_ret (?_))
   refine ⟨.inr rfl, .agg #[.int .i64 r_0_2, vr_1_2], res1 rfl (rca (cs := [.int .i64 r_0_2, vr_1_2]) ta_31 rfl rfl (Blk.cells (k := 2) (hS.box 1 rfl) rfl)), ?_⟩
   replace hS : St F_3 (Ow.own 52 2 eB vr_1_2 r_1_2 :: fr) h_5 := hS.perm2 [0] 2 rfl rfl
   exact ⟨F_3, r_0_2, r_1_2, vr_1_2, rfl, hK, hS, hLm, hLs, hM⟩
  ·
   replace hM := hM.2 c_2
   refine HW.skip (tqn (?_))
   refine HW.seq ?_
   refine HW.region ?_
   refine oM (.int .i64 root) rfl rfl ?_
   refine oV (.agg #[.int .i64 root, .slice none 0 0]) (q_build tp_31 rfl) rfl ?_
   refine HO.eff (wn) rfl (st_litEmpty (α := Int) encI hS tl_22) ?_
   rintro _ h_6 ⟨b_3, rfl, hS, hk⟩
   replace hK := hK.trans hk
   replace hLm := hLm.kp hk
   replace hLs := hLs.kp hk
   refine HO.eff (wn) rfl (st_litEmpty (α := Int) encI hS tl_22) ?_
   rintro _ h_7 ⟨b_4, rfl, hS, hk⟩
   replace hK := hK.trans hk
   replace hLm := hLm.kp hk
   replace hLs := hLs.kp hk
   refine oM (vs_) rfl rfl ?_
   refine oM (.int .i64 r_1) rfl rfl ?_
   obtain ⟨ho_1, hM⟩ := hM
   refine oV (cutV 1 vs_ (0 : Int).toNat (r_1).toNat) (q_slH ts_22 hLs.is rfl rfl ho_1) rfl ?_
   obtain ⟨ho_2, hM⟩ := hM
   refine HO.eff (wn) rfl (st_append te_22 hS (i := 0) rfl (cutIs hLs.is 0 r_1 (Int.le_refl _) ho_1.1 ho_1.2) rfl rfl rfl (by intro a _ u hu; simp [encI, encI, encN, encB, encT] at hu; subst hu; rfl) ho_2 (by omega)) ?_
   rintro v_1 h_8 ⟨hS, hk⟩
   replace hK := hK.trans hk
   replace hLm := hLm.kp hk
   replace hLs := hLs.kp hk
   refine oM (vmembers) rfl rfl ?_
   obtain ⟨ho_3, hM⟩ := hM
   refine HO.eff (wn) rfl (st_append te_22 hS (i := 0) rfl hLm.is rfl rfl rfl (by intro a _ u hu; simp [encI, encI, encN, encB, encT] at hu; subst hu; rfl) ho_3 (by omega)) ?_
   rintro v_2 h_9 ⟨hS, hk⟩
   replace hK := hK.trans hk
   replace hLm := hLm.kp hk
   replace hLs := hLs.kp hk
   refine HO.eff (wn) rfl (st_alloc (c := #[.int .i64 0, .slice none 0 0]) hS tz_31 rfl) ?_
   rintro _ h_10 ⟨b_5, rfl, hS, hk⟩
   replace hK := hK.trans hk
   replace hLm := hLm.kp hk
   replace hLs := hLs.kp hk
   refine HO.sto (wn) rfl (st_storeAgg (c' := #[.int .i64 root, .slice none 0 0]) hS (i := 0) rfl ta_31 rfl rfl rfl (by simp [Value.oneCell']) (Nat.le_of_ble_eq_true rfl) rfl) ?_
   rintro h_11 ⟨hS, hk⟩
   replace hK := hK.trans hk
   replace hLm := hLm.kp hk
   replace hLs := hLs.kp hk
   refine oA (.slice (some ⟨b_3, 0, none⟩) 0 0) rfl rfl ?_
   refine oA (v_2) rfl rfl ?_
   refine HO.nil (tqn (?_))
   refine HW.seq ?_
   refine HW.seq ?_
   refine HW.region ?_
   refine oA (.int .i64 0) rfl rfl ?_
   refine HO.nil (tqn (?_))
   refine HW.block ?_
   obtain ⟨I_1, m_1, hI_1, hR_1⟩ := hM
   replace hS : St F_2 (Ow.box b_1 31 #[.int .i64 0, .slice none 0 0] :: Ow.box b_5 31 #[.int .i64 root, .slice none 0 0] :: Ow.own 3 1 encI (.slice (some ⟨b_3, 0, none⟩) 0 0) ([] : List Int) :: Ow.own 3 1 encI v_2 ((([] : List Int) ++ (cut services 0 r_1)) ++ members) :: fr) h_11 := hS.perm2 [3, 0, 2, 1] 4 rfl rfl
   refine HW.loop (S := List Int × Int) (fun s f h => match s with | (places_1, i_1) => ∃ (F' : Fz) (vplaces_1 : Value), f 0 = .int .i64 root ∧ f 2 = vs_ ∧ f 3 = .int .i64 fan ∧ f 8 = .pointer (some ⟨b_1, 0, none⟩) ∧ f 9 = .int .i64 r_1 ∧ f 10 = .pointer (some ⟨b_5, 0, none⟩) ∧ f 11 = vplaces_1 ∧ f 12 = v_2 ∧ f 13 = .int .i64 i_1 ∧ Kp F h0 F' h ∧ St F' (Ow.box b_1 31 #[.int .i64 0, .slice none 0 0] :: Ow.box b_5 31 #[.int .i64 root, .slice none 0 0] :: Ow.own 3 1 encI vplaces_1 places_1 :: Ow.own 3 1 encI v_2 ((([] : List Int) ++ (cut services 0 r_1)) ++ members) :: fr) h ∧ (SliceF F' h 1 encI vmembers members) ∧ (SliceF F' h 1 encI vs_ services) ∧ I_1 (places_1, i_1)) m_1 ([], 0) ⟨F_2, .slice (some ⟨b_3, 0, none⟩) 0 0, rfl, rfl, rfl, rfl, rfl, rfl, rfl, rfl, rfl, hK, hS, hLm, hLs, hI_1⟩ ?_
   rintro ⟨places_1, i_1⟩ f_2 h_12 ⟨F_4, vplaces_1, e0, e2, e3, e8, e9, e10, e11, e12, e13, hK, hS, hLm, hLs, hI0⟩
   obtain ⟨K_1, hKe_1⟩ : ∃ K : (List Int) → Int → Prop, K = fun places_1' i_1' => I_1 (places_1', i_1') ∧ m_1 (places_1', i_1') < m_1 (places_1, i_1) := ⟨_, rfl⟩
   have hM : ref33_Make_l1 root members services fan Q r_1 K_1 places_1 i_1 := by rw [hKe_1]; exact hR_1 (places_1, i_1) hI0
   unfold ref33_Make_l1 at hM
   refine HW.fr [(0, .int .i64 root), (2, vs_), (3, .int .i64 fan), (8, .pointer (some ⟨b_1, 0, none⟩)), (9, .int .i64 r_1), (10, .pointer (some ⟨b_5, 0, none⟩)), (11, vplaces_1), (12, v_2), (13, .int .i64 i_1)] ⟨e0, e2, e3, e8, e9, e10, e11, e12, e13, trivial⟩ ?_
   refine HW.seq ?_
   refine HW.seq ?_
   refine HW.region ?_
   refine oM (.int .i64 i_1) rfl rfl ?_
   refine oM (.int .i64 fan) rfl rfl ?_
   refine oV (.bool (decide (i_1 < fan))) (q_lss rfl rfl) rfl ?_
   refine HO.nil (tqn (?_))
   refine HW.cond (decide (i_1 < fan)) rfl (fun c_3 => ?_) (fun c_3 => ?_)
   ·
    replace hM := hM.1 (of_decide_eq_true c_3)
    refine HW.skip (tqn (?_))
    refine HW.seq ?_
    refine HW.block ?_
    refine HW.region ?_
    refine oM (vplaces_1) rfl rfl ?_
    refine oM (.int .i64 root) rfl rfl ?_
    refine HO.eff (wn) rfl (st_lit (enc := encI) (cells := #[.int .i64 root]) #[.int .i64 0] ([root] : List Int) hS tl_22 (by decide) (by decide) (by kernel_rfl) (by kernel_rfl) rfl (by intro x hx; rfl) rfl) ?_
    rintro _ h_13 ⟨b_6, rfl, hS, hk⟩
    replace hK := hK.trans hk
    replace hLm := hLm.kp hk
    replace hLs := hLs.kp hk
    obtain ⟨ho_4, hM⟩ := hM
    refine HO.eff (wn) rfl (st_append te_22 hS (i := 3) rfl (hS.own 0 rfl).slice rfl rfl rfl (by intro a _ u hu; simp [encI, encI, encN, encB, encT] at hu; subst hu; rfl) ho_4 (by omega)) ?_
    rintro v_3 h_14 ⟨hS, hk⟩
    replace hK := hK.trans hk
    replace hLm := hLm.kp hk
    replace hLs := hLs.kp hk
    refine oA (v_3) rfl rfl ?_
    refine HO.nil (blockQ_normal (tqn (?_)))
    refine HW.region ?_
    refine oM (.int .i64 i_1) rfl rfl ?_
    obtain ⟨ho_5, hM⟩ := hM
    refine oV (.int .i64 (i_1 + 1)) (q_addN _ rfl rfl rfl ho_5.1 ho_5.2) rfl ?_
    refine oA (.int .i64 (i_1 + 1)) rfl rfl ?_
    refine HO.nil (tqn (?_))
    replace hS : St F_4 (Ow.box b_1 31 #[.int .i64 0, .slice none 0 0] :: Ow.box b_5 31 #[.int .i64 root, .slice none 0 0] :: Ow.own 3 1 encI v_3 (places_1 ++ ([root] : List Int)) :: Ow.own 3 1 encI v_2 ((([] : List Int) ++ (cut services 0 r_1)) ++ members) :: fr) h_14 := hS.perm2 [1, 2, 3, 4] 5 rfl rfl
    rw [hKe_1] at hM
    exact ⟨(places_1 ++ ([root] : List Int), i_1 + 1), ⟨F_4, v_3, rfl, rfl, rfl, rfl, rfl, rfl, rfl, rfl, rfl, hK, hS, hLm, hLs, hM.1⟩, hM.2⟩
   ·
    replace hM := hM.2 (of_decide_eq_false c_3)
    refine HW.exit (thenQ_exit (thenQ_exit (blockQ_exit (tqn (?_)))))
    refine HW.seq ?_
    refine HW.seq ?_
    refine HW.region ?_
    refine oA (.int .i64 0) rfl rfl ?_
    refine HO.nil (tqn (?_))
    refine HW.block ?_
    obtain ⟨I_2, m_2, hI_2, hR_2⟩ := hM
    refine HW.loop (S := List Int × Int) (fun s f h => match s with | (places_2, i_2) => ∃ (F' : Fz) (vplaces_2 : Value), f 2 = vs_ ∧ f 3 = .int .i64 fan ∧ f 8 = .pointer (some ⟨b_1, 0, none⟩) ∧ f 9 = .int .i64 r_1 ∧ f 10 = .pointer (some ⟨b_5, 0, none⟩) ∧ f 11 = vplaces_2 ∧ f 12 = v_2 ∧ f 14 = .int .i64 i_2 ∧ Kp F h0 F' h ∧ St F' (Ow.box b_1 31 #[.int .i64 0, .slice none 0 0] :: Ow.box b_5 31 #[.int .i64 root, .slice none 0 0] :: Ow.own 3 1 encI vplaces_2 places_2 :: Ow.own 3 1 encI v_2 ((([] : List Int) ++ (cut services 0 r_1)) ++ members) :: fr) h ∧ (SliceF F' h 1 encI vmembers members) ∧ (SliceF F' h 1 encI vs_ services) ∧ I_2 (places_2, i_2)) m_2 (places_1, 0) ⟨F_4, vplaces_1, rfl, rfl, rfl, rfl, rfl, rfl, rfl, rfl, hK, hS, hLm, hLs, hI_2⟩ ?_
    rintro ⟨places_2, i_2⟩ f_3 h_15 ⟨F_5, vplaces_2, e2, e3, e8, e9, e10, e11, e12, e14, hK, hS, hLm, hLs, hI0⟩
    obtain ⟨K_2, hKe_2⟩ : ∃ K : (List Int) → Int → Prop, K = fun places_2' i_2' => I_2 (places_2', i_2') ∧ m_2 (places_2', i_2') < m_2 (places_2, i_2) := ⟨_, rfl⟩
    have hM : ref33_Make_l2 root members services fan Q r_1 K_2 places_2 i_2 := by rw [hKe_2]; exact hR_2 (places_2, i_2) hI0
    unfold ref33_Make_l2 at hM
    refine HW.fr [(2, vs_), (3, .int .i64 fan), (8, .pointer (some ⟨b_1, 0, none⟩)), (9, .int .i64 r_1), (10, .pointer (some ⟨b_5, 0, none⟩)), (11, vplaces_2), (12, v_2), (14, .int .i64 i_2)] ⟨e2, e3, e8, e9, e10, e11, e12, e14, trivial⟩ ?_
    refine HW.seq ?_
    refine HW.seq ?_
    refine HW.region ?_
    refine oM (.int .i64 i_2) rfl rfl ?_
    refine oM (.int .i64 r_1) rfl rfl ?_
    refine oV (.bool (decide (i_2 < r_1))) (q_lss rfl rfl) rfl ?_
    refine HO.nil (tqn (?_))
    refine HW.cond (decide (i_2 < r_1)) rfl (fun c_4 => ?_) (fun c_4 => ?_)
    ·
     replace hM := hM.1 (of_decide_eq_true c_4)
     refine HW.skip (tqn (?_))
     refine HW.seq ?_
     refine HW.block ?_
     refine HW.seq ?_
     refine HW.region ?_
     refine oA (.int .i64 0) rfl rfl ?_
     refine HO.nil (tqn (?_))
     refine HW.block ?_
     obtain ⟨I_3, m_3, hI_3, hR_3⟩ := hM
     refine HW.loop (S := List Int × Int) (fun s f h => match s with | (places_3, j_2) => ∃ (F' : Fz) (vplaces_3 : Value), f 2 = vs_ ∧ f 3 = .int .i64 fan ∧ f 8 = .pointer (some ⟨b_1, 0, none⟩) ∧ f 9 = .int .i64 r_1 ∧ f 10 = .pointer (some ⟨b_5, 0, none⟩) ∧ f 11 = vplaces_3 ∧ f 12 = v_2 ∧ f 14 = .int .i64 i_2 ∧ f 15 = .int .i64 j_2 ∧ Kp F h0 F' h ∧ St F' (Ow.box b_1 31 #[.int .i64 0, .slice none 0 0] :: Ow.box b_5 31 #[.int .i64 root, .slice none 0 0] :: Ow.own 3 1 encI vplaces_3 places_3 :: Ow.own 3 1 encI v_2 ((([] : List Int) ++ (cut services 0 r_1)) ++ members) :: fr) h ∧ (SliceF F' h 1 encI vmembers members) ∧ (SliceF F' h 1 encI vs_ services) ∧ I_3 (places_3, j_2)) m_3 (places_2, 0) ⟨F_5, vplaces_2, rfl, rfl, rfl, rfl, rfl, rfl, rfl, rfl, rfl, hK, hS, hLm, hLs, hI_3⟩ ?_
     rintro ⟨places_3, j_2⟩ f_4 h_16 ⟨F_6, vplaces_3, e2, e3, e8, e9, e10, e11, e12, e14, e15, hK, hS, hLm, hLs, hI0⟩
     obtain ⟨K_3, hKe_3⟩ : ∃ K : (List Int) → Int → Prop, K = fun places_3' j_2' => I_3 (places_3', j_2') ∧ m_3 (places_3', j_2') < m_3 (places_3, j_2) := ⟨_, rfl⟩
     have hM : ref33_Make_l3 services fan i_2 K_2 K_3 places_3 j_2 := by rw [hKe_3]; exact hR_3 (places_3, j_2) hI0
     unfold ref33_Make_l3 at hM
     refine HW.fr [(2, vs_), (3, .int .i64 fan), (8, .pointer (some ⟨b_1, 0, none⟩)), (9, .int .i64 r_1), (10, .pointer (some ⟨b_5, 0, none⟩)), (11, vplaces_3), (12, v_2), (14, .int .i64 i_2), (15, .int .i64 j_2)] ⟨e2, e3, e8, e9, e10, e11, e12, e14, e15, trivial⟩ ?_
     refine HW.seq ?_
     refine HW.seq ?_
     refine HW.region ?_
     refine oM (.int .i64 j_2) rfl rfl ?_
     refine oM (.int .i64 fan) rfl rfl ?_
     refine oV (.bool (decide (j_2 < fan))) (q_lss rfl rfl) rfl ?_
     refine HO.nil (tqn (?_))
     refine HW.cond (decide (j_2 < fan)) rfl (fun c_5 => ?_) (fun c_5 => ?_)
     ·
      replace hM := hM.1 (of_decide_eq_true c_5)
      refine HW.skip (tqn (?_))
      refine HW.seq ?_
      refine HW.block ?_
      refine HW.region ?_
      refine oM (vplaces_3) rfl rfl ?_
      refine oM (vs_) rfl rfl ?_
      refine oM (.int .i64 i_2) rfl rfl ?_
      obtain ⟨ho_6, hM⟩ := hM
      refine oV (elemPtr 1 vs_ (i_2).toNat) (q_idx ts_22 hLs.is rfl rfl ho_6) rfl ?_
      refine oV (.int .i64 (gi services i_2)) (q_ldElem to_3 hLs.is rfl ho_6 rfl) rfl ?_
      refine HO.eff (wn) rfl (st_lit (enc := encI) (cells := #[.int .i64 (gi services i_2)]) #[.int .i64 0] ([(gi services i_2)] : List Int) hS tl_22 (by decide) (by decide) (by kernel_rfl) (by kernel_rfl) rfl (by intro x hx; rfl) rfl) ?_
      rintro _ h_17 ⟨b_7, rfl, hS, hk⟩
      replace hK := hK.trans hk
      replace hLm := hLm.kp hk
      replace hLs := hLs.kp hk
      obtain ⟨ho_7, hM⟩ := hM
      refine HO.eff (wn) rfl (st_append te_22 hS (i := 3) rfl (hS.own 0 rfl).slice rfl rfl rfl (by intro a _ u hu; simp [encI, encI, encN, encB, encT] at hu; subst hu; rfl) ho_7 (by omega)) ?_
      rintro v_4 h_18 ⟨hS, hk⟩
      replace hK := hK.trans hk
      replace hLm := hLm.kp hk
      replace hLs := hLs.kp hk
      refine oA (v_4) rfl rfl ?_
      refine HO.nil (blockQ_normal (tqn (?_)))
      refine HW.region ?_
      refine oM (.int .i64 j_2) rfl rfl ?_
      obtain ⟨ho_8, hM⟩ := hM
      refine oV (.int .i64 (j_2 + 1)) (q_addN _ rfl rfl rfl ho_8.1 ho_8.2) rfl ?_
      refine oA (.int .i64 (j_2 + 1)) rfl rfl ?_
      refine HO.nil (tqn (?_))
      replace hS : St F_6 (Ow.box b_1 31 #[.int .i64 0, .slice none 0 0] :: Ow.box b_5 31 #[.int .i64 root, .slice none 0 0] :: Ow.own 3 1 encI v_4 (places_3 ++ ([(gi services i_2)] : List Int)) :: Ow.own 3 1 encI v_2 ((([] : List Int) ++ (cut services 0 r_1)) ++ members) :: fr) h_18 := hS.perm2 [1, 2, 3, 4] 5 rfl rfl
      rw [hKe_3] at hM
      exact ⟨(places_3 ++ ([(gi services i_2)] : List Int), j_2 + 1), ⟨F_6, v_4, rfl, rfl, rfl, rfl, rfl, rfl, rfl, rfl, rfl, hK, hS, hLm, hLs, hM.1⟩, hM.2⟩
     ·
      replace hM := hM.2 (of_decide_eq_false c_5)
      refine HW.exit (thenQ_exit (thenQ_exit (blockQ_exit (blockQ_normal (tqn (?_))))))
      refine HW.region ?_
      refine oM (.int .i64 i_2) rfl rfl ?_
      obtain ⟨ho_9, hM⟩ := hM
      refine oV (.int .i64 (i_2 + 1)) (q_addN _ rfl rfl rfl ho_9.1 ho_9.2) rfl ?_
      refine oA (.int .i64 (i_2 + 1)) rfl rfl ?_
      refine HO.nil (tqn (?_))
      rw [hKe_2] at hM
      exact ⟨(places_3, i_2 + 1), ⟨F_6, vplaces_3, rfl, rfl, rfl, rfl, rfl, rfl, rfl, rfl, hK, hS, hLm, hLs, hM.1⟩, hM.2⟩
    ·
     replace hM := hM.2 (of_decide_eq_false c_4)
     refine HW.exit (thenQ_exit (thenQ_exit (blockQ_exit (tqn (?_)))))
     refine HW.seq ?_
     refine HW.seq ?_
     refine HW.region ?_
     refine oA (.int .i64 0) rfl rfl ?_
     refine HO.nil (tqn (?_))
     refine HW.block ?_
     obtain ⟨I_4, m_4, hI_4, hR_4⟩ := hM
     replace hS := hS.nilOwn 52 2 eB
     replace hS : St F_5 (Ow.box b_1 31 #[.int .i64 0, .slice none 0 0] :: Ow.box b_5 31 #[.int .i64 root, .slice none 0 0] :: Ow.own 52 2 eB (.slice none 0 0) ([] : List TB) :: Ow.own 3 1 encI vplaces_2 places_2 :: Ow.own 3 1 encI v_2 ((([] : List Int) ++ (cut services 0 r_1)) ++ members) :: fr) h_15 := hS.perm2 [1, 2, 0, 3, 4] 5 rfl rfl
     refine HW.loop (S := List TB × Int) (fun s f h => match s with | (t_1_1, i_3) => ∃ (F' : Fz) (vt_1_1 : Value), f 8 = .pointer (some ⟨b_1, 0, none⟩) ∧ f 10 = .pointer (some ⟨b_5, 0, none⟩) ∧ f 11 = vplaces_2 ∧ f 12 = v_2 ∧ f 16 = .int .i64 i_3 ∧ Kp F h0 F' h ∧ St F' (Ow.box b_1 31 #[.int .i64 0, .slice none 0 0] :: Ow.box b_5 31 #[.int .i64 root, vt_1_1] :: Ow.own 52 2 eB vt_1_1 t_1_1 :: Ow.own 3 1 encI vplaces_2 places_2 :: Ow.own 3 1 encI v_2 ((([] : List Int) ++ (cut services 0 r_1)) ++ members) :: fr) h ∧ (SliceF F' h 1 encI vmembers members) ∧ (SliceF F' h 1 encI vs_ services) ∧ I_4 (t_1_1, i_3)) m_4 ([], 0) ⟨F_5, .slice none 0 0, rfl, rfl, rfl, rfl, rfl, hK, hS, hLm, hLs, hI_4⟩ ?_
     rintro ⟨t_1_1, i_3⟩ f_5 h_19 ⟨F_7, vt_1_1, e8, e10, e11, e12, e16, hK, hS, hLm, hLs, hI0⟩
     obtain ⟨K_4, hKe_4⟩ : ∃ K : (List TB) → Int → Prop, K = fun t_1_1' i_3' => I_4 (t_1_1', i_3') ∧ m_4 (t_1_1', i_3') < m_4 (t_1_1, i_3) := ⟨_, rfl⟩
     have hM : ref33_Make_l4 root members services Q r_1 places_2 K_4 t_1_1 i_3 := by rw [hKe_4]; exact hR_4 (t_1_1, i_3) hI0
     unfold ref33_Make_l4 at hM
     refine HW.fr [(8, .pointer (some ⟨b_1, 0, none⟩)), (10, .pointer (some ⟨b_5, 0, none⟩)), (11, vplaces_2), (12, v_2), (16, .int .i64 i_3)] ⟨e8, e10, e11, e12, e16, trivial⟩ ?_
     refine HW.seq ?_
     refine HW.seq ?_
     refine HW.region ?_
     refine oM (.int .i64 i_3) rfl rfl ?_
     refine oM (v_2) rfl rfl ?_
     refine oV (.int .i64 (((([] : List Int) ++ (cut services 0 r_1)) ++ members).length : Int)) (q_len ts_22 (shp (hS.own 4 rfl).slice) rfl rfl) rfl ?_
     refine oV (.bool (decide (i_3 < (((([] : List Int) ++ (cut services 0 r_1)) ++ members).length : Int)))) (q_lss rfl rfl) rfl ?_
     refine HO.nil (tqn (?_))
     refine HW.cond (decide (i_3 < (((([] : List Int) ++ (cut services 0 r_1)) ++ members).length : Int))) rfl (fun c_6 => ?_) (fun c_6 => ?_)
     ·
      replace hM := hM.1 (of_decide_eq_true c_6)
      refine HW.skip (tqn (?_))
      refine HW.seq ?_
      refine HW.block ?_
      refine HW.regionA 15 mixed (fun h => (OwnIs h 0 3 1 encI vplaces_2 places_2) ∧ (OwnIs h 0 3 1 encI v_2 ((([] : List Int) ++ (cut services 0 r_1)) ++ members))) [(14, fun h => (Blk h b_5 (.cells #[.int .i64 root, vt_1_1] 31 (0, 0))))] (by kernel_rfl) ?_
      refine HA.val (k := 0) (v := .pointer (some ⟨b_5, 1, none⟩)) rfl rfl (by kernel_rfl) (by kernel_rfl) (wn) rfl (fun _ ⟨c568, c569⟩ => qfA fa_31_1 rfl rfl) ?_
      refine Go.Wk.HA.valN (k := 1) (v := vt_1_1) 0 14 (fun h => (Blk h b_5 (.cells #[.int .i64 root, vt_1_1] 31 (0, 0)))) rfl rfl (by kernel_rfl) (by kernel_rfl) (wn) rfl rfl (by kernel_rfl) (fun _ ⟨c568, c569⟩ c566 => q_load to_29 rfl (Blk.cell c566 rfl)) ?_
      refine HA.val (k := 2) (v := vplaces_2) rfl rfl (by kernel_rfl) (by kernel_rfl) (wn) rfl (fun _ ⟨c568, c569⟩ => q_move rfl) ?_
      refine HA.val (k := 3) (v := .int .i64 i_3) rfl rfl (by kernel_rfl) (by kernel_rfl) (wn) rfl (fun _ ⟨c568, c569⟩ => q_move rfl) ?_
      obtain ⟨ho_10, hM⟩ := hM
      refine HA.val (k := 4) (v := elemPtr 1 vplaces_2 (i_3).toNat) rfl rfl (by kernel_rfl) (by kernel_rfl) (wn) rfl (fun _ ⟨c568, c569⟩ => q_idx ts_22 c568.slice rfl rfl ho_10) ?_
      refine HA.val (k := 5) (v := .int .i64 (gi places_2 i_3)) rfl rfl (by kernel_rfl) (by kernel_rfl) (wn) rfl (fun _ ⟨c568, c569⟩ => q_ldElem to_3 c568.slice rfl ho_10 rfl) ?_
      refine HA.val (k := 6) (v := v_2) rfl rfl (by kernel_rfl) (by kernel_rfl) (wn) rfl (fun _ ⟨c568, c569⟩ => q_move rfl) ?_
      refine HA.val (k := 7) (v := .int .i64 i_3) rfl rfl (by kernel_rfl) (by kernel_rfl) (wn) rfl (fun _ ⟨c568, c569⟩ => q_move rfl) ?_
      obtain ⟨ho_11, hM⟩ := hM
      refine HA.val (k := 8) (v := elemPtr 1 v_2 (i_3).toNat) rfl rfl (by kernel_rfl) (by kernel_rfl) (wn) rfl (fun _ ⟨c568, c569⟩ => q_idx ts_22 c569.slice rfl rfl ho_11) ?_
      refine HA.val (k := 9) (v := .int .i64 (gi ((([] : List Int) ++ (cut services 0 r_1)) ++ members) i_3)) rfl rfl (by kernel_rfl) (by kernel_rfl) (wn) rfl (fun _ ⟨c568, c569⟩ => q_ldElem to_3 c569.slice rfl ho_11 rfl) ?_
      refine HA.val (k := 10) (v := .agg #[.int .i64 (gi places_2 i_3), .int .i64 (gi ((([] : List Int) ++ (cut services 0 r_1)) ++ members) i_3)]) rfl rfl (by kernel_rfl) (by kernel_rfl) (wn) rfl (fun _ ⟨c568, c569⟩ => q_build tp_52 rfl) ?_
      refine HA.one (k := 11) ⟨⟨(hS.own 3 rfl), (hS.own 4 rfl)⟩, (at_now (hS.box 1 rfl) (Go.Wk.at_nil _ _))⟩ (by kernel_rfl) ?_
      refine HS.eff rfl (wn) rfl (st_lit (enc := eB) (cells := #[.int .i64 (gi places_2 i_3), .int .i64 (gi ((([] : List Int) ++ (cut services 0 r_1)) ++ members) i_3)]) #[.int .i64 0, .int .i64 0] ([((gi places_2 i_3), (gi ((([] : List Int) ++ (cut services 0 r_1)) ++ members) i_3))] : List TB) hS tl_29 (by decide) (by decide) (by kernel_rfl) (by kernel_rfl) rfl (by intro x hx; rfl) rfl) ?_
      rintro _ h_20 ⟨b_8, rfl, hS, hk⟩
      replace hK := hK.trans hk
      replace hLm := hLm.kp hk
      replace hLs := hLs.kp hk
      refine HA.one (k := 12) ⟨⟨(hS.own 4 rfl), (hS.own 5 rfl)⟩, (at_now (hS.box 2 rfl) (Go.Wk.at_nil _ _))⟩ (by kernel_rfl) ?_
      obtain ⟨ho_12, hM⟩ := hM
      refine HS.eff rfl (wn) rfl (st_append te_29 hS (i := 3) rfl (hS.own 0 rfl).slice rfl rfl rfl (by intro a _ u hu; simp [eB, encI, encN, encB, encT] at hu; rcases hu with rfl | rfl <;> rfl) ho_12 (by omega)) ?_
      rintro v_5 h_21 ⟨hS, hk⟩
      replace hK := hK.trans hk
      replace hLm := hLm.kp hk
      replace hLs := hLs.kp hk
      refine HA.val (k := 13) (v := .pointer (some ⟨b_5, 1, none⟩)) rfl rfl (by kernel_rfl) (by kernel_rfl) (wn) rfl (fun _ ⟨c568, c569⟩ => qfA fa_31_1 rfl rfl) ?_
      refine HA.one (k := 14) ⟨⟨(hS.own 4 rfl), (hS.own 5 rfl)⟩, (at_now (hS.box 2 rfl) (Go.Wk.at_nil _ _))⟩ (by kernel_rfl) ?_
      refine HS.sto rfl (wn) rfl (st_store (c' := #[.int .i64 root, v_5]) hS (i := 2) rfl to_29 rfl rfl (shp (hS.own 3 rfl).slice).cells (shp (hS.own 3 rfl).slice).one (Nat.le_of_ble_eq_true rfl) rfl) ?_
      rintro h_22 ⟨hS, hk⟩
      replace hK := hK.trans hk
      replace hLm := hLm.kp hk
      replace hLs := hLs.kp hk
      refine HA.nil ⟨⟨(hS.own 4 rfl), (hS.own 5 rfl)⟩, (at_done (by kernel_rfl) (Go.Wk.at_nil _ _))⟩ (by kernel_rfl) (blockQ_normal (tqn (?_)))
      refine HW.region ?_
      refine oM (.int .i64 i_3) rfl rfl ?_
      obtain ⟨ho_13, hM⟩ := hM
      refine oV (.int .i64 (i_3 + 1)) (q_addN _ rfl rfl rfl ho_13.1 ho_13.2) rfl ?_
      refine oA (.int .i64 (i_3 + 1)) rfl rfl ?_
      refine HO.nil (tqn (?_))
      replace hS : St F_7 (Ow.box b_1 31 #[.int .i64 0, .slice none 0 0] :: Ow.box b_5 31 #[.int .i64 root, v_5] :: Ow.own 52 2 eB v_5 (t_1_1 ++ ([((gi places_2 i_3), (gi ((([] : List Int) ++ (cut services 0 r_1)) ++ members) i_3))] : List TB)) :: Ow.own 3 1 encI vplaces_2 places_2 :: Ow.own 3 1 encI v_2 ((([] : List Int) ++ (cut services 0 r_1)) ++ members) :: fr) h_22 := hS.perm2 [1, 2, 3, 4, 5] 6 rfl rfl
      rw [hKe_4] at hM
      exact ⟨(t_1_1 ++ ([((gi places_2 i_3), (gi ((([] : List Int) ++ (cut services 0 r_1)) ++ members) i_3))] : List TB), i_3 + 1), ⟨F_7, v_5, rfl, rfl, rfl, rfl, rfl, hK, hS, hLm, hLs, hM.1⟩, hM.2⟩
     ·
      replace hM := hM.2 (of_decide_eq_false c_6)
      refine HW.exit (thenQ_exit (thenQ_exit (blockQ_exit (tqn (?_)))))
      refine HW.seq ?_
      refine HW.region ?_
      refine oV (.pointer (some ⟨b_5, 1, none⟩)) (qfA fa_31_1 rfl rfl) rfl ?_
      refine oV (vt_1_1) (q_load to_29 rfl (Blk.cell (hS.box 1 rfl) rfl)) rfl ?_
      replace hS : St F_7 (Ow.own 52 2 eB vt_1_1 t_1_1 :: Ow.box b_1 31 #[.int .i64 0, .slice none 0 0] :: Ow.box b_5 31 #[.int .i64 root, vt_1_1] :: Ow.own 3 1 encI vplaces_2 places_2 :: Ow.own 3 1 encI v_2 ((([] : List Int) ++ (cut services 0 r_1)) ++ members) :: fr) h_19 := hS.perm2 [2, 0, 1, 3, 4] 5 rfl rfl
      have hZ_1 := hS
      have hkz_1 := (hS.freeze).2
      replace hS := hS.freeze.1
      have hL_1 : SliceF (fun bz_ => F_7 bz_ ∨ (Ow.own 52 2 eB vt_1_1 t_1_1).foot bz_) h_19 2 eB vt_1_1 t_1_1 := ⟨(hZ_1.own 0 rfl).slice, fun _ b hb => .inr hb⟩
      refine HO.call (wn) rfl (ec en_29 rfl rfl) (ref32_Sorted_walk (fr := (Ow.box b_1 31 #[.int .i64 0, .slice none 0 0] :: Ow.box b_5 31 #[.int .i64 root, vt_1_1] :: Ow.own 3 1 encI vplaces_2 places_2 :: Ow.own 3 1 encI v_2 ((([] : List Int) ++ (cut services 0 r_1)) ++ members) :: fr)) t_1_1 vt_1_1 hS hL_1 hM) ?_
      rintro vr_1 h_23 ⟨F_8, r_2, _, rfl, hk, hS, _, hM⟩
      obtain ⟨hS, hk⟩ := hZ_1.back hk hS
      generalize (fun bz_ => F_8 bz_ ∧ ¬ (Ow.own 52 2 eB vt_1_1 t_1_1).foot bz_) = F_9 at hS hk
      replace hK := hK.trans hk
      replace hLm := hLm.kp hk
      replace hLs := hLs.kp hk
      refine oV (.pointer (some ⟨b_5, 1, none⟩)) (qfA fa_31_1 rfl rfl) rfl ?_
      refine HO.sto (wn) rfl (st_store (c' := #[.int .i64 root, vr_1]) hS (i := 3) rfl to_29 rfl rfl (shp (hS.own 1 rfl).slice).cells (shp (hS.own 1 rfl).slice).one (Nat.le_of_ble_eq_true rfl) rfl) ?_
      rintro h_24 ⟨hS, hk⟩
      replace hK := hK.trans hk
      replace hLm := hLm.kp hk
      replace hLs := hLs.kp hk
      refine HO.nil (tqn (?_))
      refine HW.seq ?_
      refine HW.region ?_
      refine oV (.agg #[.int .i64 root, vr_1]) (q_loadAgg (cs := [.int .i64 root, vr_1]) ta_31 rfl rfl (Blk.cells (k := 2) (hS.box 3 rfl) rfl)) rfl ?_
      refine HO.sto (wn) rfl (st_storeAgg (c' := #[.int .i64 root, vr_1]) hS (i := 2) rfl ta_31 rfl rfl rfl (List.forall_mem_cons.2 ⟨rfl, (List.forall_mem_cons.2 ⟨(shp (hS.own 1 rfl).slice).one, (fun _ h => by cases h)⟩)⟩) (Nat.le_of_ble_eq_true rfl) rfl) ?_
      rintro h_25 ⟨hS, hk⟩
      replace hK := hK.trans hk
      replace hLm := hLm.kp hk
      replace hLs := hLs.kp hk
      refine HO.nil (tqn (?_))
      refine HW.ret (?_)
      refine ⟨.inr rfl, .agg #[.int .i64 root, vr_1], res1 rfl (rca (cs := [.int .i64 root, vr_1]) ta_31 rfl rfl (Blk.cells (k := 2) (hS.box 2 rfl) rfl)), ?_⟩
      replace hS : St F_9 (Ow.own 52 2 eB vr_1 r_2 :: fr) h_25 := hS.perm2 [1] 6 rfl rfl
      exact ⟨F_9, root, r_2, vr_1, rfl, hK, hS, hLm, hLs, hM⟩
def ref34_without_l1 (l : List TB) (n : Int) (Q : (List TB) → Prop) (K_1 : (List TB) → Int → Prop) (out_1 : List TB) (i_1 : Int) : Prop :=
 (i_1 < (l.length : Int) → ((0 : Int) ≤ i_1 ∧ i_1 < (l.length : Int)) ∧ ((¬ (((gi l i_1).2) = n) → ((out_1.length + ([(gi l i_1)] : List TB).length) * 16 ≤ 140737488355328) ∧ ((I64 (i_1 + 1)) ∧ (K_1 (out_1 ++ ([(gi l i_1)] : List TB)) (i_1 + 1)))) ∧ (((gi l i_1).2) = n → (I64 (i_1 + 1)) ∧ (K_1 out_1 (i_1 + 1))))) ∧ (¬ (i_1 < (l.length : Int)) → Q out_1)
def ref34_without_W (l : List TB) (n : Int) (Q : (List TB) → Prop) : Prop :=
 loopW (fun (K_1 : (List TB × Int) → Prop) (s : List TB × Int) => ref34_without_l1 l n Q (fun out_1 i_1 => K_1 (out_1, i_1)) s.1 s.2) ([], 0)
theorem ref34_without_walk {F : Fz} {fr : List Ow} {h0 : Heap} (l : List TB) (n : Int) (vl : Value) (hS : St F (fr) h0) (hL_l : SliceF F h0 2 eB vl l) {Q : (List TB) → Prop} (hM : ref34_without_W l n Q) :
  HC Tryz.prog 34 #[vl, .int .i64 n] h0 fun u h' => ∃ (F' : Fz) (r_1 : List TB) (vr_1 : Value), u = vr_1 ∧ Kp F h0 F' h' ∧ St F' (Ow.own 52 2 eB vr_1 r_1 :: fr) h' ∧ (SliceF F' h' 2 eB vl l) ∧ Q r_1 := by
 unfold ref34_without_W at hM
 have hK := Kp.refl F h0
 refine HC.of_HW (n := 29) Tryz.func34 rfl rfl (Nat.le_of_ble_eq_true rfl) ?_
 refine HW.seq ?_
 refine HW.region ?_
 refine oA (.slice none 0 0) rfl rfl ?_
 refine HO.nil (tqn (?_))
 refine HW.seq ?_
 refine HW.region ?_
 refine HO.eff (wn) rfl (st_litEmpty (α := TB) eB hS tl_29) ?_
 rintro _ h_1 ⟨b_1, rfl, hS, hk⟩
 replace hK := hK.trans hk
 replace hL_l := hL_l.kp hk
 refine oA (.slice (some ⟨b_1, 0, none⟩) 0 0) rfl rfl ?_
 refine HO.nil (tqn (?_))
 refine HW.seq ?_
 refine HW.seq ?_
 refine HW.region ?_
 refine oA (.int .i64 0) rfl rfl ?_
 refine HO.nil (tqn (?_))
 refine HW.block ?_
 obtain ⟨I_1, m_1, hI_1, hR_1⟩ := hM
 refine HW.loop (S := List TB × Int) (fun s f h => match s with | (out_1, i_1) => ∃ (F' : Fz) (vout_1 : Value), f 0 = vl ∧ f 1 = .int .i64 n ∧ f 4 = .slice none 0 0 ∧ f 5 = vout_1 ∧ f 6 = .int .i64 i_1 ∧ Kp F h0 F' h ∧ St F' (Ow.own 52 2 eB vout_1 out_1 :: fr) h ∧ (SliceF F' h 2 eB vl l) ∧ I_1 (out_1, i_1)) m_1 ([], 0) ⟨F, .slice (some ⟨b_1, 0, none⟩) 0 0, rfl, rfl, rfl, rfl, rfl, hK, hS, hL_l, hI_1⟩ ?_
 rintro ⟨out_1, i_1⟩ f_1 h_2 ⟨F_1, vout_1, e0, e1, e4, e5, e6, hK, hS, hL_l, hI0⟩
 obtain ⟨K_1, hKe_1⟩ : ∃ K : (List TB) → Int → Prop, K = fun out_1' i_1' => I_1 (out_1', i_1') ∧ m_1 (out_1', i_1') < m_1 (out_1, i_1) := ⟨_, rfl⟩
 have hM : ref34_without_l1 l n Q K_1 out_1 i_1 := by rw [hKe_1]; exact hR_1 (out_1, i_1) hI0
 unfold ref34_without_l1 at hM
 refine HW.fr [(0, vl), (1, .int .i64 n), (4, .slice none 0 0), (5, vout_1), (6, .int .i64 i_1)] ⟨e0, e1, e4, e5, e6, trivial⟩ ?_
 refine HW.seq ?_
 refine HW.seq ?_
 refine HW.region ?_
 refine oM (.int .i64 i_1) rfl rfl ?_
 refine oM (vl) rfl rfl ?_
 refine oV (.int .i64 (l.length : Int)) (q_len ts_29 (shp hL_l.is) rfl rfl) rfl ?_
 refine oV (.bool (decide (i_1 < (l.length : Int)))) (q_lss rfl rfl) rfl ?_
 refine HO.nil (tqn (?_))
 refine HW.cond (decide (i_1 < (l.length : Int))) rfl (fun c_1 => ?_) (fun c_1 => ?_)
 ·
  replace hM := hM.1 (of_decide_eq_true c_1)
  refine HW.skip (tqn (?_))
  refine HW.seq ?_
  refine HW.block ?_
  refine HW.seq ?_
  refine HW.region ?_
  refine oM (vl) rfl rfl ?_
  refine oM (.int .i64 i_1) rfl rfl ?_
  obtain ⟨ho_1, hM⟩ := hM
  refine oV (elemPtr 2 vl (i_1).toNat) (q_idx ts_29 hL_l.is rfl rfl ho_1) rfl ?_
  refine oV (fieldPtr 2 vl (i_1).toNat 1) (q_fldElem fa_52_1 hL_l.is rfl ho_1) rfl ?_
  refine oV (.int .i64 ((gi l i_1).2)) (q_ldField to_3 hL_l.is rfl ho_1 (by decide) rfl) rfl ?_
  refine oM (.int .i64 n) rfl rfl ?_
  refine oV (.bool (!decide (((gi l i_1).2) = n))) (q_neq rfl rfl) rfl ?_
  refine HO.nil (tqn (?_))
  refine HW.cond (!decide (((gi l i_1).2) = n)) rfl (fun c_2 => ?_) (fun c_2 => ?_)
  ·
   replace hM := hM.1 (nd_true c_2)
   refine HW.region ?_
   refine oM (vout_1) rfl rfl ?_
   refine oM (vl) rfl rfl ?_
   refine oM (.int .i64 i_1) rfl rfl ?_
   refine oV (elemPtr 2 vl (i_1).toNat) (q_idx ts_29 hL_l.is rfl rfl ho_1) rfl ?_
   refine oV (.agg #[.int .i64 ((gi l i_1).1), .int .i64 ((gi l i_1).2)]) (q_ldElemAgg (cs := [.int .i64 ((gi l i_1).1), .int .i64 ((gi l i_1).2)]) ta_52 hL_l.is rfl ho_1 rfl) rfl ?_
   refine HO.eff (wn) rfl (st_lit (enc := eB) (cells := #[.int .i64 ((gi l i_1).1), .int .i64 ((gi l i_1).2)]) #[.int .i64 0, .int .i64 0] ([(gi l i_1)] : List TB) hS tl_29 (by decide) (by decide) (by kernel_rfl) (by kernel_rfl) rfl (by intro x hx; rfl) rfl) ?_
   rintro _ h_3 ⟨b_2, rfl, hS, hk⟩
   replace hK := hK.trans hk
   replace hL_l := hL_l.kp hk
   obtain ⟨ho_2, hM⟩ := hM
   refine HO.eff (wn) rfl (st_append te_29 hS (i := 1) rfl (hS.own 0 rfl).slice rfl rfl rfl (by intro a _ u hu; simp [eB, encI, encN, encB, encT] at hu; rcases hu with rfl | rfl <;> rfl) ho_2 (by omega)) ?_
   rintro v_1 h_4 ⟨hS, hk⟩
   replace hK := hK.trans hk
   replace hL_l := hL_l.kp hk
   refine oA (v_1) rfl rfl ?_
   refine HO.nil (blockQ_normal (tqn (?_)))
   refine HW.region ?_
   refine oM (.int .i64 i_1) rfl rfl ?_
   obtain ⟨ho_3, hM⟩ := hM
   refine oV (.int .i64 (i_1 + 1)) (q_addN _ rfl rfl rfl ho_3.1 ho_3.2) rfl ?_
   refine oA (.int .i64 (i_1 + 1)) rfl rfl ?_
   refine HO.nil (tqn (?_))
   replace hS : St F_1 (Ow.own 52 2 eB v_1 (out_1 ++ ([(gi l i_1)] : List TB)) :: fr) h_4 := hS.perm2 [1] 2 rfl rfl
   rw [hKe_1] at hM
   exact ⟨(out_1 ++ ([(gi l i_1)] : List TB), i_1 + 1), ⟨F_1, v_1, rfl, rfl, rfl, rfl, rfl, hK, hS, hL_l, hM.1⟩, hM.2⟩
  ·
   replace hM := hM.2 (nd_false c_2)
   refine HW.skip (blockQ_normal (tqn (?_)))
   refine HW.region ?_
   refine oM (.int .i64 i_1) rfl rfl ?_
   obtain ⟨ho_4, hM⟩ := hM
   refine oV (.int .i64 (i_1 + 1)) (q_addN _ rfl rfl rfl ho_4.1 ho_4.2) rfl ?_
   refine oA (.int .i64 (i_1 + 1)) rfl rfl ?_
   refine HO.nil (tqn (?_))
   rw [hKe_1] at hM
   exact ⟨(out_1, i_1 + 1), ⟨F_1, vout_1, rfl, rfl, rfl, rfl, rfl, hK, hS, hL_l, hM.1⟩, hM.2⟩
 ·
  replace hM := hM.2 (of_decide_eq_false c_1)
  refine HW.exit (thenQ_exit (thenQ_exit (blockQ_exit (tqn (?_)))))
  refine HW.seq ?_
  refine HW.region ?_
  refine oM (vout_1) rfl rfl ?_
  refine oA (vout_1) rfl rfl ?_
  refine HO.nil (tqn (?_))
  refine HW.ret (?_)
  refine ⟨.inr rfl, vout_1, res1 rfl (rt rfl), ?_⟩
  exact ⟨F_1, out_1, vout_1, rfl, hK, hS, hL_l, hM⟩
def ref34_of_W (root : Int) (l : List TB) (Q : Int → (List TB) → Prop) : Prop :=
 ref32_Sorted_W l (fun r_1 => Q root r_1)
theorem ref34_of_walk {F : Fz} {fr : List Ow} {h0 : Heap} (root : Int) (l : List TB) (vl : Value) (hS : St F (fr) h0) (hL_l : SliceF F h0 2 eB vl l) {Q : Int → (List TB) → Prop} (hM : ref34_of_W root l Q) :
  HC Tryz.prog 33 #[.int .i64 root, vl] h0 fun u h' => ∃ (F' : Fz) (r_0_1 : Int) (r_1_1 : List TB) (vr_1_1 : Value), u = .agg #[.int .i64 r_0_1, vr_1_1] ∧ Kp F h0 F' h' ∧ St F' (Ow.own 52 2 eB vr_1_1 r_1_1 :: fr) h' ∧ (SliceF F' h' 2 eB vl l) ∧ Q r_0_1 r_1_1 := by
 unfold ref34_of_W at hM
 have hK := Kp.refl F h0
 refine HC.of_HW (n := 9) Tryz.func33 rfl rfl (Nat.le_of_ble_eq_true rfl) ?_
 refine HW.seq ?_
 refine HW.region ?_
 refine HO.eff (wn) rfl (st_alloc (c := #[.int .i64 0, .slice none 0 0]) hS tz_31 rfl) ?_
 rintro _ h_1 ⟨b_1, rfl, hS, hk⟩
 replace hK := hK.trans hk
 replace hL_l := hL_l.kp hk
 refine HO.nil (tqn (?_))
 refine HW.seq ?_
 refine HW.region ?_
 refine oM (.int .i64 root) rfl rfl ?_
 refine oM (vl) rfl rfl ?_
 refine HO.call (wn) rfl (ec en_29 rfl rfl) (ref32_Sorted_walk (fr := (Ow.box b_1 31 #[.int .i64 0, .slice none 0 0] :: fr)) l vl hS hL_l hM) ?_
 rintro vr_1 h_2 ⟨F_1, r_1, _, rfl, hk, hS, _, hM⟩
 replace hK := hK.trans hk
 replace hL_l := hL_l.kp hk
 refine oV (.agg #[.int .i64 root, vr_1]) (q_build tp_31 (fill_cons (cs' := #[.int .i64 root, .slice none 0 0]) (vc := #[.int .i64 root]) rfl rfl rfl (Nat.le_of_ble_eq_true rfl) rfl (fill_cons (cs' := #[.int .i64 root, vr_1]) (vc := #[vr_1]) rfl (shp (hS.own 0 rfl).slice).cells rfl (Nat.le_of_ble_eq_true rfl) rfl rfl))) rfl ?_
 refine HO.sto (wn) rfl (st_storeAgg (c' := #[.int .i64 root, vr_1]) hS (i := 1) rfl ta_31 rfl rfl rfl (List.forall_mem_cons.2 ⟨rfl, (List.forall_mem_cons.2 ⟨(shp (hS.own 0 rfl).slice).one, (fun _ h => by cases h)⟩)⟩) (Nat.le_of_ble_eq_true rfl) rfl) ?_
 rintro h_3 ⟨hS, hk⟩
 replace hK := hK.trans hk
 replace hL_l := hL_l.kp hk
 refine HO.nil (tqn (?_))
 refine HW.ret (?_)
 refine ⟨.inr rfl, .agg #[.int .i64 root, vr_1], res1 rfl (rca (cs := [.int .i64 root, vr_1]) ta_31 rfl rfl (Blk.cells (k := 2) (hS.box 1 rfl) rfl)), ?_⟩
 replace hS : St F_1 (Ow.own 52 2 eB vr_1 r_1 :: fr) h_3 := hS.perm2 [0] 2 rfl rfl
 exact ⟨F_1, root, r_1, vr_1, rfl, hK, hS, hL_l, hM⟩
def ref34_Join_j1 (tR : Int) (tL : List TB) (n : Int) (Q : Int → (List TB) → Prop) (r_2 : List Int) (fresh_1 : Int) (b_6 : Bool) : Prop :=
 (b_6 = true → ref33_Star_W tR r_2 (fun r_0_4 r_1_4 => Q r_0_4 r_1_4)) ∧ (b_6 = false → ref32_Next_W tR tL tR (fun r_8 => (I64 ((r_8.length : Int) - 1)) ∧ (((0 : Int) ≤ (r_8.length : Int) - 1 ∧ (r_8.length : Int) - 1 < (r_8.length : Int)) ∧ (ref34_without_W tL (gi r_8 ((r_8.length : Int) - 1)) (fun r_9 => ((r_9.length + ([(tR, fresh_1), (fresh_1, (gi r_8 ((r_8.length : Int) - 1))), (fresh_1, n)] : List TB).length) * 16 ≤ 140737488355328) ∧ (ref34_of_W tR (r_9 ++ ([(tR, fresh_1), (fresh_1, (gi r_8 ((r_8.length : Int) - 1))), (fresh_1, n)] : List TB)) (fun r_0_5 r_1_5 => Q r_0_5 r_1_5)))))))
def ref34_Join_l2 (tR : Int) (tL : List TB) (n : Int) (fan : Int) (Q : Int → (List TB) → Prop) (r_2 : List Int) (fresh_1 : Int) (some_1 : Bool) (who_1 : List Int) (K_2 : Int → Prop) (i_2 : Int) : Prop :=
 (i_2 < (who_1.length : Int) → ((0 : Int) ≤ i_2 ∧ i_2 < (who_1.length : Int)) ∧ (ref32_Next_W tR tL (gi who_1 i_2) (fun r_6 => ((r_6.length : Int) < fan → ref34_without_W tL n (fun r_7 => ((r_7.length + ([((gi who_1 i_2), n)] : List TB).length) * 16 ≤ 140737488355328) ∧ (ref34_of_W tR (r_7 ++ ([((gi who_1 i_2), n)] : List TB)) (fun r_0_3 r_1_3 => Q r_0_3 r_1_3)))) ∧ (¬ ((r_6.length : Int) < fan) → (I64 (i_2 + 1)) ∧ (K_2 (i_2 + 1)))))) ∧ (¬ (i_2 < (who_1.length : Int)) → ((!some_1) = true → ref34_Join_j1 tR tL n Q r_2 fresh_1 true) ∧ ((!some_1) = false → ref34_Join_j1 tR tL n Q r_2 fresh_1 (decide (fan < 2))))
def ref34_Join_l1 (tR : Int) (tL : List TB) (n : Int) (services : List Int) (fan : Int) (Q : Int → (List TB) → Prop) (r_2 : List Int) (r_4 : List Int) (K_1 : Int → Bool → (List Int) → Int → Prop) (fresh_1 : Int) (some_1 : Bool) (who_1 : List Int) (i_1 : Int) : Prop :=
 (i_1 < (services.length : Int) → ((0 : Int) ≤ i_1 ∧ i_1 < (services.length : Int)) ∧ (ref32_Has_W r_4 (gi services i_1) (fun r_5 => (r_5 = true → ((who_1.length + ([(gi services i_1)] : List Int).length) * 8 ≤ 140737488355328) ∧ ((I64 (i_1 + 1)) ∧ (K_1 fresh_1 some_1 (who_1 ++ ([(gi services i_1)] : List Int)) (i_1 + 1)))) ∧ (r_5 = false → ((!some_1) = true → (I64 (i_1 + 1)) ∧ (K_1 (gi services i_1) true who_1 (i_1 + 1))) ∧ ((!some_1) = false → (I64 (i_1 + 1)) ∧ (K_1 fresh_1 some_1 who_1 (i_1 + 1))))))) ∧ (¬ (i_1 < (services.length : Int)) → loopW (fun (K_2 : Int → Prop) (s : Int) => ref34_Join_l2 tR tL n fan Q r_2 fresh_1 some_1 who_1 K_2 s) 0)
def ref34_Join_W (tR : Int) (tL : List TB) (n : Int) (services : List Int) (fan : Int) (Q : Int → (List TB) → Prop) : Prop :=
 ref32_Leaves_W tR tL (fun r_1 => ref32_Add_W r_1 n (fun r_2 => ref34_Star_W tR tL fan (fun r_3 => (r_3 = true → ref33_Make_W tR r_2 services fan (fun r_0_2 r_1_2 => Q r_0_2 r_1_2)) ∧ (r_3 = false → ref32_Nodes_W tR tL (fun r_4 => loopW (fun (K_1 : (Int × Bool × List Int × Int) → Prop) (s : Int × Bool × List Int × Int) => ref34_Join_l1 tR tL n services fan Q r_2 r_4 (fun fresh_1 some_1 who_1 i_1 => K_1 (fresh_1, some_1, who_1, i_1)) s.1 s.2.1 s.2.2.1 s.2.2.2) (0, false, ([tR] : List Int), 0))))))
theorem ref34_Join_walk {F : Fz} {fr : List Ow} {h0 : Heap} (tR : Int) (tL : List TB) (n : Int) (services : List Int) (fan : Int) (vT : Value) (vs_ : Value) (hS : St F (fr) h0) (hLT : SliceF F h0 2 eB vT tL) (hLs : SliceF F h0 1 encI vs_ services) {Q : Int → (List TB) → Prop} (hM : ref34_Join_W tR tL n services fan Q) :
  HC Tryz.prog 18 #[.agg #[.int .i64 tR, vT], .int .i64 n, vs_, .int .i64 fan] h0 fun u h' => ∃ (F' : Fz) (r_0_1 : Int) (r_1_1 : List TB) (vr_1_1 : Value), u = .agg #[.int .i64 r_0_1, vr_1_1] ∧ Kp F h0 F' h' ∧ St F' (Ow.own 52 2 eB vr_1_1 r_1_1 :: fr) h' ∧ (SliceF F' h' 2 eB vT tL) ∧ (SliceF F' h' 1 encI vs_ services) ∧ Q r_0_1 r_1_1 := by
 unfold ref34_Join_W at hM
 have hK := Kp.refl F h0
 refine HC.of_HW (n := 130) Tryz.func18 rfl rfl (Nat.le_of_ble_eq_true rfl) ?_
 refine HW.seq ?_
 refine HW.region ?_
 refine HO.eff (wn) rfl (st_box (c := #[.int .i64 tR, vT]) (k' := 2) hS rfl rfl) ?_
 rintro _ h_1 ⟨b_1, rfl, hS, hk⟩
 replace hK := hK.trans hk
 replace hLT := hLT.kp hk
 replace hLs := hLs.kp hk
 refine HO.eff (wn) rfl (st_alloc (c := #[.int .i64 0, .slice none 0 0]) hS tz_31 rfl) ?_
 rintro _ h_2 ⟨b_2, rfl, hS, hk⟩
 replace hK := hK.trans hk
 replace hLT := hLT.kp hk
 replace hLs := hLs.kp hk
 refine HO.nil (tqn (?_))
 refine HW.seq ?_
 refine HW.region ?_
 refine oV (.agg #[.int .i64 tR, vT]) (q_loadAgg (cs := [.int .i64 tR, vT]) ta_31 rfl rfl (Blk.cells (k := 2) (hS.box 1 rfl) rfl)) rfl ?_
 refine HO.call (wn) rfl (ec en_32 rfl rfl) (ref32_Leaves_walk (fr := (Ow.box b_2 31 #[.int .i64 0, .slice none 0 0] :: Ow.box b_1 31 #[.int .i64 tR, vT] :: fr)) tR tL vT hS hLT hM) ?_
 rintro vr_1 h_3 ⟨F_1, r_1, _, rfl, hk, hS, _, hM⟩
 replace hK := hK.trans hk
 replace hLT := hLT.kp hk
 replace hLs := hLs.kp hk
 refine oM (.int .i64 n) rfl rfl ?_
 refine HO.call (wn) rfl (ec en_17 rfl rfl) (ref32_Add_walk (fr := (Ow.box b_2 31 #[.int .i64 0, .slice none 0 0] :: Ow.box b_1 31 #[.int .i64 tR, vT] :: fr)) r_1 n vr_1 hS hM) ?_
 rintro vr_2 h_4 ⟨F_2, r_2, _, rfl, hk, hS, hM⟩
 replace hK := hK.trans hk
 replace hLT := hLT.kp hk
 replace hLs := hLs.kp hk
 refine oA (vr_2) rfl rfl ?_
 refine HO.nil (tqn (?_))
 refine HW.seq ?_
 refine HW.seq ?_
 refine HW.region ?_
 refine oV (.agg #[.int .i64 tR, vT]) (q_loadAgg (cs := [.int .i64 tR, vT]) ta_31 rfl rfl (Blk.cells (k := 2) (hS.box 2 rfl) rfl)) rfl ?_
 refine oM (.int .i64 fan) rfl rfl ?_
 refine HO.call (wn) rfl (ec en_21 rfl rfl) (ref34_Star_walk (fr := (Ow.own 3 1 encI vr_2 r_2 :: Ow.box b_2 31 #[.int .i64 0, .slice none 0 0] :: Ow.box b_1 31 #[.int .i64 tR, vT] :: fr)) tR tL fan vT hS hLT hM) ?_
 rintro _ h_5 ⟨F_3, r_3, rfl, hk, hS, _, hM⟩
 replace hK := hK.trans hk
 replace hLT := hLT.kp hk
 replace hLs := hLs.kp hk
 refine HO.nil (tqn (?_))
 refine HW.cond r_3 rfl (fun c_1 => ?_) (fun c_1 => ?_)
 ·
  replace hM := hM.1 c_1
  refine HW.seq ?_
  refine HW.region ?_
  refine oV (.pointer (some ⟨b_1, 0, none⟩)) (qfA fa_31_0 rfl rfl) rfl ?_
  refine oV (.int .i64 tR) (q_load to_3 rfl (Blk.cell (hS.box 2 rfl) rfl)) rfl ?_
  refine oM (vr_2) rfl rfl ?_
  refine oM (vs_) rfl rfl ?_
  refine oM (.int .i64 fan) rfl rfl ?_
  replace hS : St F_3 (Ow.own 3 1 encI vr_2 r_2 :: Ow.box b_2 31 #[.int .i64 0, .slice none 0 0] :: Ow.box b_1 31 #[.int .i64 tR, vT] :: fr) h_5 := hS
  have hZ_1 := hS
  have hkz_1 := (hS.freeze).2
  replace hS := hS.freeze.1
  have hL_1 : SliceF (fun bz_ => F_3 bz_ ∨ (Ow.own 3 1 encI vr_2 r_2).foot bz_) h_5 1 encI vr_2 r_2 := ⟨(hZ_1.own 0 rfl).slice, fun _ b hb => .inr hb⟩
  refine HO.call (wn) rfl (ec en_7 rfl rfl) (ref33_Make_walk (fr := (Ow.box b_2 31 #[.int .i64 0, .slice none 0 0] :: Ow.box b_1 31 #[.int .i64 tR, vT] :: fr)) tR r_2 services fan vr_2 vs_ hS hL_1 (hLs.kp hkz_1) hM) ?_
  rintro _ h_6 ⟨F_4, r_0_2, r_1_2, vr_1_2, rfl, hk, hS, _, _, hM⟩
  obtain ⟨hS, hk⟩ := hZ_1.back hk hS
  generalize (fun bz_ => F_4 bz_ ∧ ¬ (Ow.own 3 1 encI vr_2 r_2).foot bz_) = F_5 at hS hk
  replace hK := hK.trans hk
  replace hLT := hLT.kp hk
  replace hLs := hLs.kp hk
  refine HO.sto (wn) rfl (st_storeAgg (c' := #[.int .i64 r_0_2, vr_1_2]) hS (i := 2) rfl ta_31 rfl rfl rfl (List.forall_mem_cons.2 ⟨rfl, (List.forall_mem_cons.2 ⟨(shp (hS.own 1 rfl).slice).one, (fun _ h => by cases h)⟩)⟩) (Nat.le_of_ble_eq_true rfl) rfl) ?_
  rintro h_7 ⟨hS, hk⟩
  replace hK := hK.trans hk
  replace hLT := hLT.kp hk
  replace hLs := hLs.kp hk
  refine HO.nil (tqn (?_))
  refine HW.ret (thenQ_ret (?_))
  refine ⟨.inr rfl, .agg #[.int .i64 r_0_2, vr_1_2], res1 rfl (rca (cs := [.int .i64 r_0_2, vr_1_2]) ta_31 rfl rfl (Blk.cells (k := 2) (hS.box 2 rfl) rfl)), ?_⟩
  replace hS : St F_5 (Ow.own 52 2 eB vr_1_2 r_1_2 :: fr) h_7 := hS.perm2 [1] 4 rfl rfl
  exact ⟨F_5, r_0_2, r_1_2, vr_1_2, rfl, hK, hS, hLT, hLs, hM⟩
 ·
  replace hM := hM.2 c_1
  refine HW.skip (tqn (?_))
  refine HW.seq ?_
  refine HW.region ?_
  refine oV (.agg #[.int .i64 tR, vT]) (q_loadAgg (cs := [.int .i64 tR, vT]) ta_31 rfl rfl (Blk.cells (k := 2) (hS.box 2 rfl) rfl)) rfl ?_
  refine HO.call (wn) rfl (ec en_37 rfl rfl) (ref32_Nodes_walk (fr := (Ow.own 3 1 encI vr_2 r_2 :: Ow.box b_2 31 #[.int .i64 0, .slice none 0 0] :: Ow.box b_1 31 #[.int .i64 tR, vT] :: fr)) tR tL vT hS hLT hM) ?_
  rintro vr_3 h_8 ⟨F_6, r_4, _, rfl, hk, hS, _, hM⟩
  replace hK := hK.trans hk
  replace hLT := hLT.kp hk
  replace hLs := hLs.kp hk
  refine oA (vr_3) rfl rfl ?_
  refine oA (.int .i64 0) rfl rfl ?_
  refine oA (.bool false) rfl rfl ?_
  refine HO.nil (tqn (?_))
  refine HW.seq ?_
  refine HW.region ?_
  refine oV (.pointer (some ⟨b_1, 0, none⟩)) (qfA fa_31_0 rfl rfl) rfl ?_
  refine oV (.int .i64 tR) (q_load to_3 rfl (Blk.cell (hS.box 3 rfl) rfl)) rfl ?_
  refine HO.eff (wn) rfl (st_lit (enc := encI) (cells := #[.int .i64 tR]) #[.int .i64 0] ([tR] : List Int) hS tl_22 (by decide) (by decide) (by kernel_rfl) (by kernel_rfl) rfl (by intro x hx; rfl) rfl) ?_
  rintro _ h_9 ⟨b_3, rfl, hS, hk⟩
  replace hK := hK.trans hk
  replace hLT := hLT.kp hk
  replace hLs := hLs.kp hk
  refine oA (.slice (some ⟨b_3, 0, none⟩) 1 1) rfl rfl ?_
  refine HO.nil (tqn (?_))
  refine HW.seq ?_
  refine HW.seq ?_
  refine HW.region ?_
  refine oA (.int .i64 0) rfl rfl ?_
  refine HO.nil (tqn (?_))
  refine HW.block ?_
  obtain ⟨I_1, m_1, hI_1, hR_1⟩ := hM
  replace hS : St F_6 (Ow.box b_1 31 #[.int .i64 tR, vT] :: Ow.box b_2 31 #[.int .i64 0, .slice none 0 0] :: Ow.own 3 1 encI vr_2 r_2 :: Ow.own 3 1 encI vr_3 r_4 :: Ow.own 3 1 encI (.slice (some ⟨b_3, 0, none⟩) 1 1) ([tR] : List Int) :: fr) h_9 := hS.perm2 [4, 3, 2, 1, 0] 5 rfl rfl
  refine HW.loop (S := Int × Bool × List Int × Int) (fun s f h => match s with | (fresh_1, some_1, who_1, i_1) => ∃ (F' : Fz) (vwho_1 : Value), f 1 = .int .i64 n ∧ f 2 = vs_ ∧ f 3 = .int .i64 fan ∧ f 4 = .pointer (some ⟨b_1, 0, none⟩) ∧ f 8 = .pointer (some ⟨b_2, 0, none⟩) ∧ f 9 = vr_2 ∧ f 10 = vr_3 ∧ f 11 = .int .i64 fresh_1 ∧ f 12 = .bool some_1 ∧ f 13 = vwho_1 ∧ f 14 = .int .i64 i_1 ∧ Kp F h0 F' h ∧ St F' (Ow.box b_1 31 #[.int .i64 tR, vT] :: Ow.box b_2 31 #[.int .i64 0, .slice none 0 0] :: Ow.own 3 1 encI vr_2 r_2 :: Ow.own 3 1 encI vr_3 r_4 :: Ow.own 3 1 encI vwho_1 who_1 :: fr) h ∧ (SliceF F' h 2 eB vT tL) ∧ (SliceF F' h 1 encI vs_ services) ∧ I_1 (fresh_1, some_1, who_1, i_1)) m_1 (0, false, ([tR] : List Int), 0) ⟨F_6, .slice (some ⟨b_3, 0, none⟩) 1 1, rfl, rfl, rfl, rfl, rfl, rfl, rfl, rfl, rfl, rfl, rfl, hK, hS, hLT, hLs, hI_1⟩ ?_
  rintro ⟨fresh_1, some_1, who_1, i_1⟩ f_1 h_10 ⟨F_7, vwho_1, e1, e2, e3, e4, e8, e9, e10, e11, e12, e13, e14, hK, hS, hLT, hLs, hI0⟩
  obtain ⟨K_1, hKe_1⟩ : ∃ K : Int → Bool → (List Int) → Int → Prop, K = fun fresh_1' some_1' who_1' i_1' => I_1 (fresh_1', some_1', who_1', i_1') ∧ m_1 (fresh_1', some_1', who_1', i_1') < m_1 (fresh_1, some_1, who_1, i_1) := ⟨_, rfl⟩
  have hM : ref34_Join_l1 tR tL n services fan Q r_2 r_4 K_1 fresh_1 some_1 who_1 i_1 := by rw [hKe_1]; exact hR_1 (fresh_1, some_1, who_1, i_1) hI0
  unfold ref34_Join_l1 at hM
  refine HW.fr [(1, .int .i64 n), (2, vs_), (3, .int .i64 fan), (4, .pointer (some ⟨b_1, 0, none⟩)), (8, .pointer (some ⟨b_2, 0, none⟩)), (9, vr_2), (10, vr_3), (11, .int .i64 fresh_1), (12, .bool some_1), (13, vwho_1), (14, .int .i64 i_1)] ⟨e1, e2, e3, e4, e8, e9, e10, e11, e12, e13, e14, trivial⟩ ?_
  refine HW.seq ?_
  refine HW.seq ?_
  refine HW.region ?_
  refine oM (.int .i64 i_1) rfl rfl ?_
  refine oM (vs_) rfl rfl ?_
  refine oV (.int .i64 (services.length : Int)) (q_len ts_22 (shp hLs.is) rfl rfl) rfl ?_
  refine oV (.bool (decide (i_1 < (services.length : Int)))) (q_lss rfl rfl) rfl ?_
  refine HO.nil (tqn (?_))
  refine HW.cond (decide (i_1 < (services.length : Int))) rfl (fun c_2 => ?_) (fun c_2 => ?_)
  ·
   replace hM := hM.1 (of_decide_eq_true c_2)
   refine HW.skip (tqn (?_))
   refine HW.seq ?_
   refine HW.block ?_
   refine HW.seq ?_
   refine HW.region ?_
   refine oM (vr_3) rfl rfl ?_
   refine oM (vs_) rfl rfl ?_
   refine oM (.int .i64 i_1) rfl rfl ?_
   obtain ⟨ho_1, hM⟩ := hM
   refine oV (elemPtr 1 vs_ (i_1).toNat) (q_idx ts_22 hLs.is rfl rfl ho_1) rfl ?_
   refine oV (.int .i64 (gi services i_1)) (q_ldElem to_3 hLs.is rfl ho_1 rfl) rfl ?_
   replace hS : St F_7 (Ow.own 3 1 encI vr_3 r_4 :: Ow.box b_1 31 #[.int .i64 tR, vT] :: Ow.box b_2 31 #[.int .i64 0, .slice none 0 0] :: Ow.own 3 1 encI vr_2 r_2 :: Ow.own 3 1 encI vwho_1 who_1 :: fr) h_10 := hS.perm2 [3, 0, 1, 2, 4] 5 rfl rfl
   have hZ_2 := hS
   have hkz_2 := (hS.freeze).2
   replace hS := hS.freeze.1
   have hL_2 : SliceF (fun bz_ => F_7 bz_ ∨ (Ow.own 3 1 encI vr_3 r_4).foot bz_) h_10 1 encI vr_3 r_4 := ⟨(hZ_2.own 0 rfl).slice, fun _ b hb => .inr hb⟩
   refine HO.call (wn) rfl (ec en_8 rfl rfl) (ref32_Has_walk (fr := (Ow.box b_1 31 #[.int .i64 tR, vT] :: Ow.box b_2 31 #[.int .i64 0, .slice none 0 0] :: Ow.own 3 1 encI vr_2 r_2 :: Ow.own 3 1 encI vwho_1 who_1 :: fr)) r_4 (gi services i_1) vr_3 hS hL_2 hM) ?_
   rintro _ h_11 ⟨F_8, r_5, rfl, hk, hS, _, hM⟩
   obtain ⟨hS, hk⟩ := hZ_2.back hk hS
   generalize (fun bz_ => F_8 bz_ ∧ ¬ (Ow.own 3 1 encI vr_3 r_4).foot bz_) = F_9 at hS hk
   replace hK := hK.trans hk
   replace hLT := hLT.kp hk
   replace hLs := hLs.kp hk
   refine HO.nil (tqn (?_))
   refine HW.cond r_5 rfl (fun c_3 => ?_) (fun c_3 => ?_)
   ·
    replace hM := hM.1 c_3
    refine HW.region ?_
    refine oM (vwho_1) rfl rfl ?_
    refine oM (vs_) rfl rfl ?_
    refine oM (.int .i64 i_1) rfl rfl ?_
    refine oV (elemPtr 1 vs_ (i_1).toNat) (q_idx ts_22 hLs.is rfl rfl ho_1) rfl ?_
    refine oV (.int .i64 (gi services i_1)) (q_ldElem to_3 hLs.is rfl ho_1 rfl) rfl ?_
    refine HO.eff (wn) rfl (st_lit (enc := encI) (cells := #[.int .i64 (gi services i_1)]) #[.int .i64 0] ([(gi services i_1)] : List Int) hS tl_22 (by decide) (by decide) (by kernel_rfl) (by kernel_rfl) rfl (by intro x hx; rfl) rfl) ?_
    rintro _ h_12 ⟨b_4, rfl, hS, hk⟩
    replace hK := hK.trans hk
    replace hLT := hLT.kp hk
    replace hLs := hLs.kp hk
    obtain ⟨ho_2, hM⟩ := hM
    refine HO.eff (wn) rfl (st_append te_22 hS (i := 5) rfl (hS.own 0 rfl).slice rfl rfl rfl (by intro a _ u hu; simp [encI, encI, encN, encB, encT] at hu; subst hu; rfl) ho_2 (by omega)) ?_
    rintro v_1 h_13 ⟨hS, hk⟩
    replace hK := hK.trans hk
    replace hLT := hLT.kp hk
    replace hLs := hLs.kp hk
    refine oA (v_1) rfl rfl ?_
    refine HO.nil (blockQ_normal (tqn (?_)))
    refine HW.region ?_
    refine oM (.int .i64 i_1) rfl rfl ?_
    obtain ⟨ho_3, hM⟩ := hM
    refine oV (.int .i64 (i_1 + 1)) (q_addN _ rfl rfl rfl ho_3.1 ho_3.2) rfl ?_
    refine oA (.int .i64 (i_1 + 1)) rfl rfl ?_
    refine HO.nil (tqn (?_))
    replace hS : St F_9 (Ow.box b_1 31 #[.int .i64 tR, vT] :: Ow.box b_2 31 #[.int .i64 0, .slice none 0 0] :: Ow.own 3 1 encI vr_2 r_2 :: Ow.own 3 1 encI vr_3 r_4 :: Ow.own 3 1 encI v_1 (who_1 ++ ([(gi services i_1)] : List Int)) :: fr) h_13 := hS.perm2 [2, 3, 4, 1, 5] 6 rfl rfl
    rw [hKe_1] at hM
    exact ⟨(fresh_1, some_1, who_1 ++ ([(gi services i_1)] : List Int), i_1 + 1), ⟨F_9, v_1, rfl, rfl, rfl, rfl, rfl, rfl, rfl, rfl, rfl, rfl, rfl, hK, hS, hLT, hLs, hM.1⟩, hM.2⟩
   ·
    replace hM := hM.2 c_3
    refine HW.seq ?_
    refine HW.region ?_
    refine oM (.bool some_1) rfl rfl ?_
    refine oV (.bool (!some_1)) (q_not rfl) rfl ?_
    refine HO.nil (tqn (?_))
    refine HW.cond (!some_1) rfl (fun c_4 => ?_) (fun c_4 => ?_)
    ·
     replace hM := hM.1 c_4
     refine HW.region ?_
     refine oM (vs_) rfl rfl ?_
     refine oM (.int .i64 i_1) rfl rfl ?_
     refine oV (elemPtr 1 vs_ (i_1).toNat) (q_idx ts_22 hLs.is rfl rfl ho_1) rfl ?_
     refine oV (.int .i64 (gi services i_1)) (q_ldElem to_3 hLs.is rfl ho_1 rfl) rfl ?_
     refine oA (.int .i64 (gi services i_1)) rfl rfl ?_
     refine oA (.bool true) rfl rfl ?_
     refine HO.nil (blockQ_normal (tqn (?_)))
     refine HW.region ?_
     refine oM (.int .i64 i_1) rfl rfl ?_
     obtain ⟨ho_4, hM⟩ := hM
     refine oV (.int .i64 (i_1 + 1)) (q_addN _ rfl rfl rfl ho_4.1 ho_4.2) rfl ?_
     refine oA (.int .i64 (i_1 + 1)) rfl rfl ?_
     refine HO.nil (tqn (?_))
     replace hS : St F_9 (Ow.box b_1 31 #[.int .i64 tR, vT] :: Ow.box b_2 31 #[.int .i64 0, .slice none 0 0] :: Ow.own 3 1 encI vr_2 r_2 :: Ow.own 3 1 encI vr_3 r_4 :: Ow.own 3 1 encI vwho_1 who_1 :: fr) h_11 := hS.perm2 [1, 2, 3, 0, 4] 5 rfl rfl
     rw [hKe_1] at hM
     exact ⟨((gi services i_1), true, who_1, i_1 + 1), ⟨F_9, vwho_1, rfl, rfl, rfl, rfl, rfl, rfl, rfl, rfl, rfl, rfl, rfl, hK, hS, hLT, hLs, hM.1⟩, hM.2⟩
    ·
     replace hM := hM.2 c_4
     refine HW.skip (blockQ_normal (tqn (?_)))
     refine HW.region ?_
     refine oM (.int .i64 i_1) rfl rfl ?_
     obtain ⟨ho_5, hM⟩ := hM
     refine oV (.int .i64 (i_1 + 1)) (q_addN _ rfl rfl rfl ho_5.1 ho_5.2) rfl ?_
     refine oA (.int .i64 (i_1 + 1)) rfl rfl ?_
     refine HO.nil (tqn (?_))
     replace hS : St F_9 (Ow.box b_1 31 #[.int .i64 tR, vT] :: Ow.box b_2 31 #[.int .i64 0, .slice none 0 0] :: Ow.own 3 1 encI vr_2 r_2 :: Ow.own 3 1 encI vr_3 r_4 :: Ow.own 3 1 encI vwho_1 who_1 :: fr) h_11 := hS.perm2 [1, 2, 3, 0, 4] 5 rfl rfl
     rw [hKe_1] at hM
     exact ⟨(fresh_1, some_1, who_1, i_1 + 1), ⟨F_9, vwho_1, rfl, rfl, rfl, rfl, rfl, rfl, rfl, rfl, rfl, rfl, rfl, hK, hS, hLT, hLs, hM.1⟩, hM.2⟩
  ·
   replace hM := hM.2 (of_decide_eq_false c_2)
   refine HW.exit (thenQ_exit (thenQ_exit (blockQ_exit (tqn (?_)))))
   refine HW.seq ?_
   refine HW.seq ?_
   refine HW.region ?_
   refine oA (.int .i64 0) rfl rfl ?_
   refine HO.nil (tqn (?_))
   refine HW.block ?_
   obtain ⟨I_2, m_2, hI_2, hR_2⟩ := hM
   replace hS : St F_7 (Ow.box b_1 31 #[.int .i64 tR, vT] :: Ow.box b_2 31 #[.int .i64 0, .slice none 0 0] :: Ow.own 3 1 encI vr_2 r_2 :: Ow.own 3 1 encI vwho_1 who_1 :: fr) h_10 := hS.perm2 [0, 1, 2, 4] 5 rfl rfl
   refine HW.loop (S := Int) (fun i_2 f h => ∃ (F' : Fz), f 1 = .int .i64 n ∧ f 3 = .int .i64 fan ∧ f 4 = .pointer (some ⟨b_1, 0, none⟩) ∧ f 8 = .pointer (some ⟨b_2, 0, none⟩) ∧ f 9 = vr_2 ∧ f 11 = .int .i64 fresh_1 ∧ f 12 = .bool some_1 ∧ f 13 = vwho_1 ∧ f 15 = .int .i64 i_2 ∧ Kp F h0 F' h ∧ St F' (Ow.box b_1 31 #[.int .i64 tR, vT] :: Ow.box b_2 31 #[.int .i64 0, .slice none 0 0] :: Ow.own 3 1 encI vr_2 r_2 :: Ow.own 3 1 encI vwho_1 who_1 :: fr) h ∧ (SliceF F' h 2 eB vT tL) ∧ (SliceF F' h 1 encI vs_ services) ∧ I_2 i_2) m_2 0 ⟨F_7, rfl, rfl, rfl, rfl, rfl, rfl, rfl, rfl, rfl, hK, hS, hLT, hLs, hI_2⟩ ?_
   rintro i_2 f_2 h_14 ⟨F_10, e1, e3, e4, e8, e9, e11, e12, e13, e15, hK, hS, hLT, hLs, hI0⟩
   obtain ⟨K_2, hKe_2⟩ : ∃ K : Int → Prop, K = fun i_2' => I_2 i_2' ∧ m_2 i_2' < m_2 i_2 := ⟨_, rfl⟩
   have hM : ref34_Join_l2 tR tL n fan Q r_2 fresh_1 some_1 who_1 K_2 i_2 := by rw [hKe_2]; exact hR_2 i_2 hI0
   unfold ref34_Join_l2 at hM
   refine HW.fr [(1, .int .i64 n), (3, .int .i64 fan), (4, .pointer (some ⟨b_1, 0, none⟩)), (8, .pointer (some ⟨b_2, 0, none⟩)), (9, vr_2), (11, .int .i64 fresh_1), (12, .bool some_1), (13, vwho_1), (15, .int .i64 i_2)] ⟨e1, e3, e4, e8, e9, e11, e12, e13, e15, trivial⟩ ?_
   refine HW.seq ?_
   refine HW.seq ?_
   refine HW.region ?_
   refine oM (.int .i64 i_2) rfl rfl ?_
   refine oM (vwho_1) rfl rfl ?_
   refine oV (.int .i64 (who_1.length : Int)) (q_len ts_22 (shp (hS.own 3 rfl).slice) rfl rfl) rfl ?_
   refine oV (.bool (decide (i_2 < (who_1.length : Int)))) (q_lss rfl rfl) rfl ?_
   refine HO.nil (tqn (?_))
   refine HW.cond (decide (i_2 < (who_1.length : Int))) rfl (fun c_5 => ?_) (fun c_5 => ?_)
   ·
    replace hM := hM.1 (of_decide_eq_true c_5)
    refine HW.skip (tqn (?_))
    refine HW.seq ?_
    refine HW.block ?_
    refine HW.seq ?_
    refine HW.regionA 9 mixed (fun h => (Blk h b_1 (.cells #[.int .i64 tR, vT] 31 (0, 0))) ∧ (OwnIs h 0 3 1 encI vwho_1 who_1)) [] (by kernel_rfl) ?_
    refine HA.val (k := 0) (v := .agg #[.int .i64 tR, vT]) rfl rfl (by kernel_rfl) (by kernel_rfl) (wn) rfl (fun _ ⟨c413, c416⟩ => q_loadAgg (cs := [.int .i64 tR, vT]) ta_31 rfl rfl (Blk.cells (k := 2) c413 rfl)) ?_
    refine HA.val (k := 1) (v := vwho_1) rfl rfl (by kernel_rfl) (by kernel_rfl) (wn) rfl (fun _ ⟨c413, c416⟩ => q_move rfl) ?_
    refine HA.val (k := 2) (v := .int .i64 i_2) rfl rfl (by kernel_rfl) (by kernel_rfl) (wn) rfl (fun _ ⟨c413, c416⟩ => q_move rfl) ?_
    obtain ⟨ho_6, hM⟩ := hM
    refine HA.val (k := 3) (v := elemPtr 1 vwho_1 (i_2).toNat) rfl rfl (by kernel_rfl) (by kernel_rfl) (wn) rfl (fun _ ⟨c413, c416⟩ => q_idx ts_22 c416.slice rfl rfl ho_6) ?_
    refine HA.val (k := 4) (v := .int .i64 (gi who_1 i_2)) rfl rfl (by kernel_rfl) (by kernel_rfl) (wn) rfl (fun _ ⟨c413, c416⟩ => q_ldElem to_3 c416.slice rfl ho_6 rfl) ?_
    refine HA.val (k := 7) (v := .int .i64 fan) rfl rfl (by kernel_rfl) (by kernel_rfl) (wn) rfl (fun _ ⟨c413, c416⟩ => q_move rfl) ?_
    refine HA.one (k := 5) ⟨⟨(hS.box 0 rfl), (hS.own 3 rfl)⟩, (Go.Wk.at_nil _ _)⟩ (by kernel_rfl) ?_
    refine HS.call rfl (wn) rfl (ec en_35 rfl rfl) (ref32_Next_walk (fr := (Ow.box b_1 31 #[.int .i64 tR, vT] :: Ow.box b_2 31 #[.int .i64 0, .slice none 0 0] :: Ow.own 3 1 encI vr_2 r_2 :: Ow.own 3 1 encI vwho_1 who_1 :: fr)) tR tL (gi who_1 i_2) vT hS hLT hM) ?_
    rintro vr_4 h_15 ⟨F_11, r_6, _, rfl, hk, hS, _, hM⟩
    replace hK := hK.trans hk
    replace hLT := hLT.kp hk
    replace hLs := hLs.kp hk
    refine Go.Wk.HA.re (fun h => (OwnIs h 0 3 1 encI vr_4 r_6) ∧ (Blk h b_1 (.cells #[.int .i64 tR, vT] 31 (0, 0))) ∧ (OwnIs h 0 3 1 encI vwho_1 who_1)) [] (fun L_ h_ hL_ ⟨c447, c413, c416⟩ hs_ => ⟨⟨c413, c416⟩, (Go.Wk.at_nil _ _)⟩) ?_
    refine HA.val (k := 6) (v := .int .i64 (r_6.length : Int)) rfl rfl (by kernel_rfl) (by kernel_rfl) (wn) rfl (fun _ ⟨c447, c413, c416⟩ => q_len ts_22 (shp c447.slice) rfl rfl) ?_
    refine HA.val (k := 8) (v := .bool (decide ((r_6.length : Int) < fan))) rfl rfl (by kernel_rfl) (by kernel_rfl) (wn) rfl (fun _ ⟨c447, c413, c416⟩ => q_lss rfl rfl) ?_
    refine HA.nil ⟨⟨(hS.own 0 rfl), (hS.box 1 rfl), (hS.own 4 rfl)⟩, (Go.Wk.at_nil _ _)⟩ (by kernel_rfl) (tqn (?_))
    refine HW.cond (decide ((r_6.length : Int) < fan)) rfl (fun c_6 => ?_) (fun c_6 => ?_)
    ·
     replace hM := hM.1 (of_decide_eq_true c_6)
     refine HW.seq ?_
     refine HW.regionA 16 mixed (fun h => (Blk h b_1 (.cells #[.int .i64 tR, vT] 31 (0, 0))) ∧ (OwnIs h 0 3 1 encI vwho_1 who_1)) [] (by kernel_rfl) ?_
     refine HA.val (k := 0) (v := .pointer (some ⟨b_1, 0, none⟩)) rfl rfl (by kernel_rfl) (by kernel_rfl) (wn) rfl (fun _ ⟨c413, c416⟩ => qfA fa_31_0 rfl rfl) ?_
     refine HA.val (k := 1) (v := .int .i64 tR) rfl rfl (by kernel_rfl) (by kernel_rfl) (wn) rfl (fun _ ⟨c413, c416⟩ => q_load to_3 rfl (Blk.cell c413 rfl)) ?_
     refine HA.val (k := 2) (v := .pointer (some ⟨b_1, 1, none⟩)) rfl rfl (by kernel_rfl) (by kernel_rfl) (wn) rfl (fun _ ⟨c413, c416⟩ => qfA fa_31_1 rfl rfl) ?_
     refine HA.val (k := 3) (v := vT) rfl rfl (by kernel_rfl) (by kernel_rfl) (wn) rfl (fun _ ⟨c413, c416⟩ => q_load to_29 rfl (Blk.cell c413 rfl)) ?_
     refine HA.val (k := 4) (v := .int .i64 n) rfl rfl (by kernel_rfl) (by kernel_rfl) (wn) rfl (fun _ ⟨c413, c416⟩ => q_move rfl) ?_
     refine HA.val (k := 6) (v := vwho_1) rfl rfl (by kernel_rfl) (by kernel_rfl) (wn) rfl (fun _ ⟨c413, c416⟩ => q_move rfl) ?_
     refine HA.val (k := 7) (v := .int .i64 i_2) rfl rfl (by kernel_rfl) (by kernel_rfl) (wn) rfl (fun _ ⟨c413, c416⟩ => q_move rfl) ?_
     refine HA.val (k := 8) (v := elemPtr 1 vwho_1 (i_2).toNat) rfl rfl (by kernel_rfl) (by kernel_rfl) (wn) rfl (fun _ ⟨c413, c416⟩ => q_idx ts_22 c416.slice rfl rfl ho_6) ?_
     refine HA.val (k := 9) (v := .int .i64 (gi who_1 i_2)) rfl rfl (by kernel_rfl) (by kernel_rfl) (wn) rfl (fun _ ⟨c413, c416⟩ => q_ldElem to_3 c416.slice rfl ho_6 rfl) ?_
     refine HA.val (k := 10) (v := .int .i64 n) rfl rfl (by kernel_rfl) (by kernel_rfl) (wn) rfl (fun _ ⟨c413, c416⟩ => q_move rfl) ?_
     refine HA.val (k := 11) (v := .agg #[.int .i64 (gi who_1 i_2), .int .i64 n]) rfl rfl (by kernel_rfl) (by kernel_rfl) (wn) rfl (fun _ ⟨c413, c416⟩ => q_build tp_52 rfl) ?_
     refine HA.two (k := 5) (k' := 12) ⟨⟨(hS.box 1 rfl), (hS.own 4 rfl)⟩, (Go.Wk.at_nil _ _)⟩ (by kernel_rfl) ?_ ?_
     ·
      refine HS.call rfl (wn) rfl (ec en_34 rfl rfl) (ref34_without_walk (fr := (Ow.own 3 1 encI vr_4 r_6 :: Ow.box b_1 31 #[.int .i64 tR, vT] :: Ow.box b_2 31 #[.int .i64 0, .slice none 0 0] :: Ow.own 3 1 encI vr_2 r_2 :: Ow.own 3 1 encI vwho_1 who_1 :: fr)) tL n vT hS hLT hM) ?_
      rintro vr_5 h_16 ⟨F_12, r_7, _, rfl, hk, hS, _, hM⟩
      replace hK := hK.trans hk
      replace hLT := hLT.kp hk
      replace hLs := hLs.kp hk
      refine HA.one (k := 12) ⟨⟨(hS.box 2 rfl), (hS.own 5 rfl)⟩, (Go.Wk.at_nil _ _)⟩ (by kernel_rfl) ?_
      refine HS.eff rfl (wn) rfl (st_lit (enc := eB) (cells := #[.int .i64 (gi who_1 i_2), .int .i64 n]) #[.int .i64 0, .int .i64 0] ([((gi who_1 i_2), n)] : List TB) hS tl_29 (by decide) (by decide) (by kernel_rfl) (by kernel_rfl) rfl (by intro x hx; rfl) rfl) ?_
      rintro _ h_17 ⟨b_5, rfl, hS, hk⟩
      replace hK := hK.trans hk
      replace hLT := hLT.kp hk
      replace hLs := hLs.kp hk
      refine HA.one (k := 13) ⟨⟨(hS.box 3 rfl), (hS.own 6 rfl)⟩, (Go.Wk.at_nil _ _)⟩ (by kernel_rfl) ?_
      obtain ⟨ho_7, hM⟩ := hM
      refine HS.eff rfl (wn) rfl (st_append te_29 hS (i := 1) rfl (hS.own 0 rfl).slice rfl rfl rfl (by intro a _ u hu; simp [eB, encI, encN, encB, encT] at hu; rcases hu with rfl | rfl <;> rfl) ho_7 (by omega)) ?_
      rintro v_2 h_18 ⟨hS, hk⟩
      replace hK := hK.trans hk
      replace hLT := hLT.kp hk
      replace hLs := hLs.kp hk
      refine HA.one (k := 14) ⟨⟨(hS.box 3 rfl), (hS.own 6 rfl)⟩, (Go.Wk.at_nil _ _)⟩ (by kernel_rfl) ?_
      replace hS : St F_12 (Ow.own 52 2 eB v_2 (r_7 ++ ([((gi who_1 i_2), n)] : List TB)) :: Ow.own 52 2 eB (.slice (some ⟨b_5, 0, none⟩) 1 1) ([((gi who_1 i_2), n)] : List TB) :: Ow.own 3 1 encI vr_4 r_6 :: Ow.box b_1 31 #[.int .i64 tR, vT] :: Ow.box b_2 31 #[.int .i64 0, .slice none 0 0] :: Ow.own 3 1 encI vr_2 r_2 :: Ow.own 3 1 encI vwho_1 who_1 :: fr) h_18 := hS.perm2 [1, 0, 2, 3, 4, 5, 6] 7 rfl rfl
      have hZ_3 := hS
      have hkz_3 := (hS.freeze).2
      replace hS := hS.freeze.1
      have hL_3 : SliceF (fun bz_ => F_12 bz_ ∨ (Ow.own 52 2 eB v_2 (r_7 ++ ([((gi who_1 i_2), n)] : List TB))).foot bz_) h_18 2 eB v_2 (r_7 ++ ([((gi who_1 i_2), n)] : List TB)) := ⟨(hZ_3.own 0 rfl).slice, fun _ b hb => .inr hb⟩
      refine HS.call rfl (wn) rfl (ec en_33 rfl rfl) (ref34_of_walk (fr := (Ow.own 52 2 eB (.slice (some ⟨b_5, 0, none⟩) 1 1) ([((gi who_1 i_2), n)] : List TB) :: Ow.own 3 1 encI vr_4 r_6 :: Ow.box b_1 31 #[.int .i64 tR, vT] :: Ow.box b_2 31 #[.int .i64 0, .slice none 0 0] :: Ow.own 3 1 encI vr_2 r_2 :: Ow.own 3 1 encI vwho_1 who_1 :: fr)) tR (r_7 ++ ([((gi who_1 i_2), n)] : List TB)) v_2 hS hL_3 hM) ?_
      rintro _ h_19 ⟨F_13, r_0_3, r_1_3, vr_1_3, rfl, hk, hS, _, hM⟩
      obtain ⟨hS, hk⟩ := hZ_3.back hk hS
      generalize (fun bz_ => F_13 bz_ ∧ ¬ (Ow.own 52 2 eB v_2 (r_7 ++ ([((gi who_1 i_2), n)] : List TB))).foot bz_) = F_14 at hS hk
      replace hK := hK.trans hk
      replace hLT := hLT.kp hk
      replace hLs := hLs.kp hk
      refine HA.one (k := 15) ⟨⟨(hS.box 4 rfl), (hS.own 7 rfl)⟩, (Go.Wk.at_nil _ _)⟩ (by kernel_rfl) ?_
      refine HS.sto rfl (wn) rfl (st_storeAgg (c' := #[.int .i64 r_0_3, vr_1_3]) hS (i := 5) rfl ta_31 rfl rfl rfl (List.forall_mem_cons.2 ⟨rfl, (List.forall_mem_cons.2 ⟨(shp (hS.own 1 rfl).slice).one, (fun _ h => by cases h)⟩)⟩) (Nat.le_of_ble_eq_true rfl) rfl) ?_
      rintro h_20 ⟨hS, hk⟩
      replace hK := hK.trans hk
      replace hLT := hLT.kp hk
      replace hLs := hLs.kp hk
      refine HA.nil ⟨⟨(hS.box 4 rfl), (hS.own 7 rfl)⟩, (Go.Wk.at_nil _ _)⟩ (by kernel_rfl) (tqn (?_))
      refine HW.ret (blockQ_ret (thenQ_ret (thenQ_ret (blockQ_ret (thenQ_ret (?_))))))
      refine ⟨.inr rfl, .agg #[.int .i64 r_0_3, vr_1_3], res1 rfl (rca (cs := [.int .i64 r_0_3, vr_1_3]) ta_31 rfl rfl (Blk.cells (k := 2) (hS.box 5 rfl) rfl)), ?_⟩
      replace hS : St F_14 (Ow.own 52 2 eB vr_1_3 r_1_3 :: fr) h_20 := hS.perm2 [1] 8 rfl rfl
      exact ⟨F_14, r_0_3, r_1_3, vr_1_3, rfl, hK, hS, hLT, hLs, hM⟩
     ·
      refine HS.eff rfl (wn) rfl (st_lit (enc := eB) (cells := #[.int .i64 (gi who_1 i_2), .int .i64 n]) #[.int .i64 0, .int .i64 0] ([((gi who_1 i_2), n)] : List TB) hS tl_29 (by decide) (by decide) (by kernel_rfl) (by kernel_rfl) rfl (by intro x hx; rfl) rfl) ?_
      rintro _ h_16 ⟨b_5, rfl, hS, hk⟩
      replace hK := hK.trans hk
      replace hLT := hLT.kp hk
      replace hLs := hLs.kp hk
      refine HA.one (k := 5) ⟨⟨(hS.box 2 rfl), (hS.own 5 rfl)⟩, (Go.Wk.at_nil _ _)⟩ (by kernel_rfl) ?_
      refine HS.call rfl (wn) rfl (ec en_34 rfl rfl) (ref34_without_walk (fr := (Ow.own 52 2 eB (.slice (some ⟨b_5, 0, none⟩) 1 1) ([((gi who_1 i_2), n)] : List TB) :: Ow.own 3 1 encI vr_4 r_6 :: Ow.box b_1 31 #[.int .i64 tR, vT] :: Ow.box b_2 31 #[.int .i64 0, .slice none 0 0] :: Ow.own 3 1 encI vr_2 r_2 :: Ow.own 3 1 encI vwho_1 who_1 :: fr)) tL n vT hS hLT hM) ?_
      rintro vr_5 h_17 ⟨F_12, r_7, _, rfl, hk, hS, _, hM⟩
      replace hK := hK.trans hk
      replace hLT := hLT.kp hk
      replace hLs := hLs.kp hk
      refine HA.one (k := 13) ⟨⟨(hS.box 3 rfl), (hS.own 6 rfl)⟩, (Go.Wk.at_nil _ _)⟩ (by kernel_rfl) ?_
      obtain ⟨ho_7, hM⟩ := hM
      refine HS.eff rfl (wn) rfl (st_append te_29 hS (i := 0) rfl (hS.own 1 rfl).slice rfl rfl rfl (by intro a _ u hu; simp [eB, encI, encN, encB, encT] at hu; rcases hu with rfl | rfl <;> rfl) ho_7 (by omega)) ?_
      rintro v_2 h_18 ⟨hS, hk⟩
      replace hK := hK.trans hk
      replace hLT := hLT.kp hk
      replace hLs := hLs.kp hk
      refine HA.one (k := 14) ⟨⟨(hS.box 3 rfl), (hS.own 6 rfl)⟩, (Go.Wk.at_nil _ _)⟩ (by kernel_rfl) ?_
      replace hS : St F_12 (Ow.own 52 2 eB v_2 (r_7 ++ ([((gi who_1 i_2), n)] : List TB)) :: Ow.own 52 2 eB (.slice (some ⟨b_5, 0, none⟩) 1 1) ([((gi who_1 i_2), n)] : List TB) :: Ow.own 3 1 encI vr_4 r_6 :: Ow.box b_1 31 #[.int .i64 tR, vT] :: Ow.box b_2 31 #[.int .i64 0, .slice none 0 0] :: Ow.own 3 1 encI vr_2 r_2 :: Ow.own 3 1 encI vwho_1 who_1 :: fr) h_18 := hS
      have hZ_3 := hS
      have hkz_3 := (hS.freeze).2
      replace hS := hS.freeze.1
      have hL_3 : SliceF (fun bz_ => F_12 bz_ ∨ (Ow.own 52 2 eB v_2 (r_7 ++ ([((gi who_1 i_2), n)] : List TB))).foot bz_) h_18 2 eB v_2 (r_7 ++ ([((gi who_1 i_2), n)] : List TB)) := ⟨(hZ_3.own 0 rfl).slice, fun _ b hb => .inr hb⟩
      refine HS.call rfl (wn) rfl (ec en_33 rfl rfl) (ref34_of_walk (fr := (Ow.own 52 2 eB (.slice (some ⟨b_5, 0, none⟩) 1 1) ([((gi who_1 i_2), n)] : List TB) :: Ow.own 3 1 encI vr_4 r_6 :: Ow.box b_1 31 #[.int .i64 tR, vT] :: Ow.box b_2 31 #[.int .i64 0, .slice none 0 0] :: Ow.own 3 1 encI vr_2 r_2 :: Ow.own 3 1 encI vwho_1 who_1 :: fr)) tR (r_7 ++ ([((gi who_1 i_2), n)] : List TB)) v_2 hS hL_3 hM) ?_
      rintro _ h_19 ⟨F_13, r_0_3, r_1_3, vr_1_3, rfl, hk, hS, _, hM⟩
      obtain ⟨hS, hk⟩ := hZ_3.back hk hS
      generalize (fun bz_ => F_13 bz_ ∧ ¬ (Ow.own 52 2 eB v_2 (r_7 ++ ([((gi who_1 i_2), n)] : List TB))).foot bz_) = F_14 at hS hk
      replace hK := hK.trans hk
      replace hLT := hLT.kp hk
      replace hLs := hLs.kp hk
      refine HA.one (k := 15) ⟨⟨(hS.box 4 rfl), (hS.own 7 rfl)⟩, (Go.Wk.at_nil _ _)⟩ (by kernel_rfl) ?_
      refine HS.sto rfl (wn) rfl (st_storeAgg (c' := #[.int .i64 r_0_3, vr_1_3]) hS (i := 5) rfl ta_31 rfl rfl rfl (List.forall_mem_cons.2 ⟨rfl, (List.forall_mem_cons.2 ⟨(shp (hS.own 1 rfl).slice).one, (fun _ h => by cases h)⟩)⟩) (Nat.le_of_ble_eq_true rfl) rfl) ?_
      rintro h_20 ⟨hS, hk⟩
      replace hK := hK.trans hk
      replace hLT := hLT.kp hk
      replace hLs := hLs.kp hk
      refine HA.nil ⟨⟨(hS.box 4 rfl), (hS.own 7 rfl)⟩, (Go.Wk.at_nil _ _)⟩ (by kernel_rfl) (tqn (?_))
      refine HW.ret (blockQ_ret (thenQ_ret (thenQ_ret (blockQ_ret (thenQ_ret (?_))))))
      refine ⟨.inr rfl, .agg #[.int .i64 r_0_3, vr_1_3], res1 rfl (rca (cs := [.int .i64 r_0_3, vr_1_3]) ta_31 rfl rfl (Blk.cells (k := 2) (hS.box 5 rfl) rfl)), ?_⟩
      replace hS : St F_14 (Ow.own 52 2 eB vr_1_3 r_1_3 :: fr) h_20 := hS.perm2 [1] 8 rfl rfl
      exact ⟨F_14, r_0_3, r_1_3, vr_1_3, rfl, hK, hS, hLT, hLs, hM⟩
    ·
     replace hM := hM.2 (of_decide_eq_false c_6)
     refine HW.skip (blockQ_normal (tqn (?_)))
     refine HW.region ?_
     refine oM (.int .i64 i_2) rfl rfl ?_
     obtain ⟨ho_8, hM⟩ := hM
     refine oV (.int .i64 (i_2 + 1)) (q_addN _ rfl rfl rfl ho_8.1 ho_8.2) rfl ?_
     refine oA (.int .i64 (i_2 + 1)) rfl rfl ?_
     refine HO.nil (tqn (?_))
     replace hS : St F_11 (Ow.box b_1 31 #[.int .i64 tR, vT] :: Ow.box b_2 31 #[.int .i64 0, .slice none 0 0] :: Ow.own 3 1 encI vr_2 r_2 :: Ow.own 3 1 encI vwho_1 who_1 :: fr) h_15 := hS.perm2 [1, 2, 3, 4] 5 rfl rfl
     rw [hKe_2] at hM
     exact ⟨i_2 + 1, ⟨F_11, rfl, rfl, rfl, rfl, rfl, rfl, rfl, rfl, rfl, hK, hS, hLT, hLs, hM.1⟩, hM.2⟩
   ·
    replace hM := hM.2 (of_decide_eq_false c_5)
    refine HW.exit (thenQ_exit (thenQ_exit (blockQ_exit (tqn (?_)))))
    refine HW.seq ?_
    refine HW.seq_mid (fun f h => ∃ (F' : Fz) (b_6 : Bool), f 1 = .int .i64 n ∧ f 4 = .pointer (some ⟨b_1, 0, none⟩) ∧ f 8 = .pointer (some ⟨b_2, 0, none⟩) ∧ f 9 = vr_2 ∧ f 11 = .int .i64 fresh_1 ∧ f 96 = .bool b_6 ∧ Kp F h0 F' h ∧ St F' (Ow.box b_1 31 #[.int .i64 tR, vT] :: Ow.box b_2 31 #[.int .i64 0, .slice none 0 0] :: Ow.own 3 1 encI vr_2 r_2 :: fr) h ∧ (SliceF F' h 2 eB vT tL) ∧ (SliceF F' h 1 encI vs_ services) ∧ ref34_Join_j1 tR tL n Q r_2 fresh_1 b_6) ?_ ?_
    ·
     refine HW.region ?_
     refine oM (.bool some_1) rfl rfl ?_
     refine oV (.bool (!some_1)) (q_not rfl) rfl ?_
     refine oM (.bool (!some_1)) rfl rfl ?_
     rcases Bool.eq_false_or_eq_true (!some_1) with c_7 | c_7
     ·
      replace hM := hM.1 c_7
      refine HO.past (pby rfl rfl c_7) rfl ?_
      refine HO.past (pby rfl rfl c_7) rfl ?_
      refine oV (.bool true) (q_pickK true rfl c_7 rfl) rfl ?_
      refine HO.nil (tqn (?_))
      replace hS : St F_10 (Ow.box b_1 31 #[.int .i64 tR, vT] :: Ow.box b_2 31 #[.int .i64 0, .slice none 0 0] :: Ow.own 3 1 encI vr_2 r_2 :: fr) h_14 := hS.perm2 [0, 1, 2] 4 rfl rfl
      exact ⟨F_10, true, rfl, rfl, rfl, rfl, rfl, rfl, hK, hS, hLT, hLs, hM⟩
     ·
      replace hM := hM.2 c_7
      refine HO.val (v := .int .i64 fan) (wby rfl rfl c_7) rfl (q_move rfl) ?_
      refine HO.val (v := .bool (decide (fan < 2))) (wby rfl rfl c_7) rfl (q_lss rfl rfl) ?_
      refine oV (.bool (decide (fan < 2))) (q_pickK false rfl c_7 rfl) rfl ?_
      refine HO.nil (tqn (?_))
      replace hS : St F_10 (Ow.box b_1 31 #[.int .i64 tR, vT] :: Ow.box b_2 31 #[.int .i64 0, .slice none 0 0] :: Ow.own 3 1 encI vr_2 r_2 :: fr) h_14 := hS.perm2 [0, 1, 2] 4 rfl rfl
      exact ⟨F_10, decide (fan < 2), rfl, rfl, rfl, rfl, rfl, rfl, hK, hS, hLT, hLs, hM⟩
    ·
     rintro f_3 h_21 ⟨F_15, b_6, e1, e4, e8, e9, e11, e96, hK, hS, hLT, hLs, hM⟩
     unfold ref34_Join_j1 at hM
     refine HW.fr [(1, .int .i64 n), (4, .pointer (some ⟨b_1, 0, none⟩)), (8, .pointer (some ⟨b_2, 0, none⟩)), (9, vr_2), (11, .int .i64 fresh_1), (96, .bool b_6)] ⟨e1, e4, e8, e9, e11, e96, trivial⟩ ?_
     refine HW.cond b_6 rfl (fun c_8 => ?_) (fun c_8 => ?_)
     ·
      replace hM := hM.1 c_8
      refine HW.seq ?_
      refine HW.region ?_
      refine oV (.pointer (some ⟨b_1, 0, none⟩)) (qfA fa_31_0 rfl rfl) rfl ?_
      refine oV (.int .i64 tR) (q_load to_3 rfl (Blk.cell (hS.box 0 rfl) rfl)) rfl ?_
      refine oM (vr_2) rfl rfl ?_
      replace hS : St F_15 (Ow.own 3 1 encI vr_2 r_2 :: Ow.box b_1 31 #[.int .i64 tR, vT] :: Ow.box b_2 31 #[.int .i64 0, .slice none 0 0] :: fr) h_21 := hS.perm2 [2, 0, 1] 3 rfl rfl
      have hZ_4 := hS
      have hkz_4 := (hS.freeze).2
      replace hS := hS.freeze.1
      have hL_4 : SliceF (fun bz_ => F_15 bz_ ∨ (Ow.own 3 1 encI vr_2 r_2).foot bz_) h_21 1 encI vr_2 r_2 := ⟨(hZ_4.own 0 rfl).slice, fun _ b hb => .inr hb⟩
      refine HO.call (wn) rfl (ec en_28 rfl rfl) (ref33_Star_walk (fr := (Ow.box b_1 31 #[.int .i64 tR, vT] :: Ow.box b_2 31 #[.int .i64 0, .slice none 0 0] :: fr)) tR r_2 vr_2 hS hL_4 hM) ?_
      rintro _ h_22 ⟨F_16, r_0_4, r_1_4, vr_1_4, rfl, hk, hS, _, hM⟩
      obtain ⟨hS, hk⟩ := hZ_4.back hk hS
      generalize (fun bz_ => F_16 bz_ ∧ ¬ (Ow.own 3 1 encI vr_2 r_2).foot bz_) = F_17 at hS hk
      replace hK := hK.trans hk
      replace hLT := hLT.kp hk
      replace hLs := hLs.kp hk
      refine HO.sto (wn) rfl (st_storeAgg (c' := #[.int .i64 r_0_4, vr_1_4]) hS (i := 3) rfl ta_31 rfl rfl rfl (List.forall_mem_cons.2 ⟨rfl, (List.forall_mem_cons.2 ⟨(shp (hS.own 1 rfl).slice).one, (fun _ h => by cases h)⟩)⟩) (Nat.le_of_ble_eq_true rfl) rfl) ?_
      rintro h_23 ⟨hS, hk⟩
      replace hK := hK.trans hk
      replace hLT := hLT.kp hk
      replace hLs := hLs.kp hk
      refine HO.nil (tqn (?_))
      refine HW.ret (thenQ_ret (?_))
      refine ⟨.inr rfl, .agg #[.int .i64 r_0_4, vr_1_4], res1 rfl (rca (cs := [.int .i64 r_0_4, vr_1_4]) ta_31 rfl rfl (Blk.cells (k := 2) (hS.box 3 rfl) rfl)), ?_⟩
      replace hS : St F_17 (Ow.own 52 2 eB vr_1_4 r_1_4 :: fr) h_23 := hS.perm2 [1] 4 rfl rfl
      exact ⟨F_17, r_0_4, r_1_4, vr_1_4, rfl, hK, hS, hLT, hLs, hM⟩
     ·
      replace hM := hM.2 c_8
      refine HW.skip (tqn (?_))
      refine HW.seq ?_
      refine HW.region ?_
      refine oV (.agg #[.int .i64 tR, vT]) (q_loadAgg (cs := [.int .i64 tR, vT]) ta_31 rfl rfl (Blk.cells (k := 2) (hS.box 0 rfl) rfl)) rfl ?_
      refine oV (.pointer (some ⟨b_1, 0, none⟩)) (qfA fa_31_0 rfl rfl) rfl ?_
      refine oV (.int .i64 tR) (q_load to_3 rfl (Blk.cell (hS.box 0 rfl) rfl)) rfl ?_
      refine HO.call (wn) rfl (ec en_35 rfl rfl) (ref32_Next_walk (fr := (Ow.box b_1 31 #[.int .i64 tR, vT] :: Ow.box b_2 31 #[.int .i64 0, .slice none 0 0] :: Ow.own 3 1 encI vr_2 r_2 :: fr)) tR tL tR vT hS hLT hM) ?_
      rintro vr_6 h_24 ⟨F_18, r_8, _, rfl, hk, hS, _, hM⟩
      replace hK := hK.trans hk
      replace hLT := hLT.kp hk
      replace hLs := hLs.kp hk
      refine oA (vr_6) rfl rfl ?_
      refine HO.nil (tqn (?_))
      refine HW.seq ?_
      refine HW.region ?_
      refine oM (vr_6) rfl rfl ?_
      refine oM (vr_6) rfl rfl ?_
      refine oV (.int .i64 (r_8.length : Int)) (q_len ts_22 (shp (hS.own 0 rfl).slice) rfl rfl) rfl ?_
      obtain ⟨ho_9, hM⟩ := hM
      refine oV (.int .i64 ((r_8.length : Int) - 1)) (q_subN _ rfl rfl rfl ho_9.1 ho_9.2) rfl ?_
      obtain ⟨ho_10, hM⟩ := hM
      refine oV (elemPtr 1 vr_6 ((r_8.length : Int) - 1).toNat) (q_idx ts_22 (hS.own 0 rfl).slice rfl rfl ho_10) rfl ?_
      refine oV (.int .i64 (gi r_8 ((r_8.length : Int) - 1))) (q_ldElem to_3 (hS.own 0 rfl).slice rfl ho_10 rfl) rfl ?_
      refine oA (.int .i64 (gi r_8 ((r_8.length : Int) - 1))) rfl rfl ?_
      refine HO.nil (tqn (?_))
      refine HW.seq ?_
      refine HW.regionA 20 mixed (fun h => (Blk h b_1 (.cells #[.int .i64 tR, vT] 31 (0, 0)))) [] (by kernel_rfl) ?_
      refine HA.val (k := 0) (v := .pointer (some ⟨b_1, 0, none⟩)) rfl rfl (by kernel_rfl) (by kernel_rfl) (wn) rfl (fun _ c417 => qfA fa_31_0 rfl rfl) ?_
      refine HA.val (k := 1) (v := .int .i64 tR) rfl rfl (by kernel_rfl) (by kernel_rfl) (wn) rfl (fun _ c417 => q_load to_3 rfl (Blk.cell c417 rfl)) ?_
      refine HA.val (k := 2) (v := .pointer (some ⟨b_1, 1, none⟩)) rfl rfl (by kernel_rfl) (by kernel_rfl) (wn) rfl (fun _ c417 => qfA fa_31_1 rfl rfl) ?_
      refine HA.val (k := 3) (v := vT) rfl rfl (by kernel_rfl) (by kernel_rfl) (wn) rfl (fun _ c417 => q_load to_29 rfl (Blk.cell c417 rfl)) ?_
      refine HA.val (k := 4) (v := .int .i64 (gi r_8 ((r_8.length : Int) - 1))) rfl rfl (by kernel_rfl) (by kernel_rfl) (wn) rfl (fun _ c417 => q_move rfl) ?_
      refine HA.val (k := 6) (v := .pointer (some ⟨b_1, 0, none⟩)) rfl rfl (by kernel_rfl) (by kernel_rfl) (wn) rfl (fun _ c417 => qfA fa_31_0 rfl rfl) ?_
      refine HA.val (k := 7) (v := .int .i64 tR) rfl rfl (by kernel_rfl) (by kernel_rfl) (wn) rfl (fun _ c417 => q_load to_3 rfl (Blk.cell c417 rfl)) ?_
      refine HA.val (k := 8) (v := .int .i64 fresh_1) rfl rfl (by kernel_rfl) (by kernel_rfl) (wn) rfl (fun _ c417 => q_move rfl) ?_
      refine HA.val (k := 9) (v := .agg #[.int .i64 tR, .int .i64 fresh_1]) rfl rfl (by kernel_rfl) (by kernel_rfl) (wn) rfl (fun _ c417 => q_build tp_52 rfl) ?_
      refine HA.val (k := 10) (v := .int .i64 fresh_1) rfl rfl (by kernel_rfl) (by kernel_rfl) (wn) rfl (fun _ c417 => q_move rfl) ?_
      refine HA.val (k := 11) (v := .int .i64 (gi r_8 ((r_8.length : Int) - 1))) rfl rfl (by kernel_rfl) (by kernel_rfl) (wn) rfl (fun _ c417 => q_move rfl) ?_
      refine HA.val (k := 12) (v := .agg #[.int .i64 fresh_1, .int .i64 (gi r_8 ((r_8.length : Int) - 1))]) rfl rfl (by kernel_rfl) (by kernel_rfl) (wn) rfl (fun _ c417 => q_build tp_52 rfl) ?_
      refine HA.val (k := 13) (v := .int .i64 fresh_1) rfl rfl (by kernel_rfl) (by kernel_rfl) (wn) rfl (fun _ c417 => q_move rfl) ?_
      refine HA.val (k := 14) (v := .int .i64 n) rfl rfl (by kernel_rfl) (by kernel_rfl) (wn) rfl (fun _ c417 => q_move rfl) ?_
      refine HA.val (k := 15) (v := .agg #[.int .i64 fresh_1, .int .i64 n]) rfl rfl (by kernel_rfl) (by kernel_rfl) (wn) rfl (fun _ c417 => q_build tp_52 rfl) ?_
      refine HA.two (k := 5) (k' := 16) ⟨(hS.box 1 rfl), (Go.Wk.at_nil _ _)⟩ (by kernel_rfl) ?_ ?_
      ·
       refine HS.call rfl (wn) rfl (ec en_34 rfl rfl) (ref34_without_walk (fr := (Ow.own 3 1 encI vr_6 r_8 :: Ow.box b_1 31 #[.int .i64 tR, vT] :: Ow.box b_2 31 #[.int .i64 0, .slice none 0 0] :: Ow.own 3 1 encI vr_2 r_2 :: fr)) tL (gi r_8 ((r_8.length : Int) - 1)) vT hS hLT hM) ?_
       rintro vr_7 h_25 ⟨F_19, r_9, _, rfl, hk, hS, _, hM⟩
       replace hK := hK.trans hk
       replace hLT := hLT.kp hk
       replace hLs := hLs.kp hk
       refine HA.one (k := 16) ⟨(hS.box 2 rfl), (Go.Wk.at_nil _ _)⟩ (by kernel_rfl) ?_
       refine HS.eff rfl (wn) rfl (st_lit (enc := eB) (cells := #[.int .i64 tR, .int .i64 fresh_1, .int .i64 fresh_1, .int .i64 (gi r_8 ((r_8.length : Int) - 1)), .int .i64 fresh_1, .int .i64 n]) #[.int .i64 0, .int .i64 0, .int .i64 0, .int .i64 0, .int .i64 0, .int .i64 0] ([(tR, fresh_1), (fresh_1, (gi r_8 ((r_8.length : Int) - 1))), (fresh_1, n)] : List TB) hS tl_29 (by decide) (by decide) (by kernel_rfl) (by kernel_rfl) rfl (by intro x hx; rfl) rfl) ?_
       rintro _ h_26 ⟨b_7, rfl, hS, hk⟩
       replace hK := hK.trans hk
       replace hLT := hLT.kp hk
       replace hLs := hLs.kp hk
       refine HA.one (k := 17) ⟨(hS.box 3 rfl), (Go.Wk.at_nil _ _)⟩ (by kernel_rfl) ?_
       obtain ⟨ho_11, hM⟩ := hM
       refine HS.eff rfl (wn) rfl (st_append te_29 hS (i := 1) rfl (hS.own 0 rfl).slice rfl rfl rfl (by intro a _ u hu; simp [eB, encI, encN, encB, encT] at hu; rcases hu with rfl | rfl <;> rfl) ho_11 (by omega)) ?_
       rintro v_3 h_27 ⟨hS, hk⟩
       replace hK := hK.trans hk
       replace hLT := hLT.kp hk
       replace hLs := hLs.kp hk
       refine HA.one (k := 18) ⟨(hS.box 3 rfl), (Go.Wk.at_nil _ _)⟩ (by kernel_rfl) ?_
       replace hS : St F_19 (Ow.own 52 2 eB v_3 (r_9 ++ ([(tR, fresh_1), (fresh_1, (gi r_8 ((r_8.length : Int) - 1))), (fresh_1, n)] : List TB)) :: Ow.own 52 2 eB (.slice (some ⟨b_7, 0, none⟩) 3 3) ([(tR, fresh_1), (fresh_1, (gi r_8 ((r_8.length : Int) - 1))), (fresh_1, n)] : List TB) :: Ow.own 3 1 encI vr_6 r_8 :: Ow.box b_1 31 #[.int .i64 tR, vT] :: Ow.box b_2 31 #[.int .i64 0, .slice none 0 0] :: Ow.own 3 1 encI vr_2 r_2 :: fr) h_27 := hS.perm2 [1, 0, 2, 3, 4, 5] 6 rfl rfl
       have hZ_5 := hS
       have hkz_5 := (hS.freeze).2
       replace hS := hS.freeze.1
       have hL_5 : SliceF (fun bz_ => F_19 bz_ ∨ (Ow.own 52 2 eB v_3 (r_9 ++ ([(tR, fresh_1), (fresh_1, (gi r_8 ((r_8.length : Int) - 1))), (fresh_1, n)] : List TB))).foot bz_) h_27 2 eB v_3 (r_9 ++ ([(tR, fresh_1), (fresh_1, (gi r_8 ((r_8.length : Int) - 1))), (fresh_1, n)] : List TB)) := ⟨(hZ_5.own 0 rfl).slice, fun _ b hb => .inr hb⟩
       refine HS.call rfl (wn) rfl (ec en_33 rfl rfl) (ref34_of_walk (fr := (Ow.own 52 2 eB (.slice (some ⟨b_7, 0, none⟩) 3 3) ([(tR, fresh_1), (fresh_1, (gi r_8 ((r_8.length : Int) - 1))), (fresh_1, n)] : List TB) :: Ow.own 3 1 encI vr_6 r_8 :: Ow.box b_1 31 #[.int .i64 tR, vT] :: Ow.box b_2 31 #[.int .i64 0, .slice none 0 0] :: Ow.own 3 1 encI vr_2 r_2 :: fr)) tR (r_9 ++ ([(tR, fresh_1), (fresh_1, (gi r_8 ((r_8.length : Int) - 1))), (fresh_1, n)] : List TB)) v_3 hS hL_5 hM) ?_
       rintro _ h_28 ⟨F_20, r_0_5, r_1_5, vr_1_5, rfl, hk, hS, _, hM⟩
       obtain ⟨hS, hk⟩ := hZ_5.back hk hS
       generalize (fun bz_ => F_20 bz_ ∧ ¬ (Ow.own 52 2 eB v_3 (r_9 ++ ([(tR, fresh_1), (fresh_1, (gi r_8 ((r_8.length : Int) - 1))), (fresh_1, n)] : List TB))).foot bz_) = F_21 at hS hk
       replace hK := hK.trans hk
       replace hLT := hLT.kp hk
       replace hLs := hLs.kp hk
       refine HA.one (k := 19) ⟨(hS.box 4 rfl), (Go.Wk.at_nil _ _)⟩ (by kernel_rfl) ?_
       refine HS.sto rfl (wn) rfl (st_storeAgg (c' := #[.int .i64 r_0_5, vr_1_5]) hS (i := 5) rfl ta_31 rfl rfl rfl (List.forall_mem_cons.2 ⟨rfl, (List.forall_mem_cons.2 ⟨(shp (hS.own 1 rfl).slice).one, (fun _ h => by cases h)⟩)⟩) (Nat.le_of_ble_eq_true rfl) rfl) ?_
       rintro h_29 ⟨hS, hk⟩
       replace hK := hK.trans hk
       replace hLT := hLT.kp hk
       replace hLs := hLs.kp hk
       refine HA.nil ⟨(hS.box 4 rfl), (Go.Wk.at_nil _ _)⟩ (by kernel_rfl) (tqn (?_))
       refine HW.ret (?_)
       refine ⟨.inr rfl, .agg #[.int .i64 r_0_5, vr_1_5], res1 rfl (rca (cs := [.int .i64 r_0_5, vr_1_5]) ta_31 rfl rfl (Blk.cells (k := 2) (hS.box 5 rfl) rfl)), ?_⟩
       replace hS : St F_21 (Ow.own 52 2 eB vr_1_5 r_1_5 :: fr) h_29 := hS.perm2 [1] 7 rfl rfl
       exact ⟨F_21, r_0_5, r_1_5, vr_1_5, rfl, hK, hS, hLT, hLs, hM⟩
      ·
       refine HS.eff rfl (wn) rfl (st_lit (enc := eB) (cells := #[.int .i64 tR, .int .i64 fresh_1, .int .i64 fresh_1, .int .i64 (gi r_8 ((r_8.length : Int) - 1)), .int .i64 fresh_1, .int .i64 n]) #[.int .i64 0, .int .i64 0, .int .i64 0, .int .i64 0, .int .i64 0, .int .i64 0] ([(tR, fresh_1), (fresh_1, (gi r_8 ((r_8.length : Int) - 1))), (fresh_1, n)] : List TB) hS tl_29 (by decide) (by decide) (by kernel_rfl) (by kernel_rfl) rfl (by intro x hx; rfl) rfl) ?_
       rintro _ h_25 ⟨b_7, rfl, hS, hk⟩
       replace hK := hK.trans hk
       replace hLT := hLT.kp hk
       replace hLs := hLs.kp hk
       refine HA.one (k := 5) ⟨(hS.box 2 rfl), (Go.Wk.at_nil _ _)⟩ (by kernel_rfl) ?_
       refine HS.call rfl (wn) rfl (ec en_34 rfl rfl) (ref34_without_walk (fr := (Ow.own 52 2 eB (.slice (some ⟨b_7, 0, none⟩) 3 3) ([(tR, fresh_1), (fresh_1, (gi r_8 ((r_8.length : Int) - 1))), (fresh_1, n)] : List TB) :: Ow.own 3 1 encI vr_6 r_8 :: Ow.box b_1 31 #[.int .i64 tR, vT] :: Ow.box b_2 31 #[.int .i64 0, .slice none 0 0] :: Ow.own 3 1 encI vr_2 r_2 :: fr)) tL (gi r_8 ((r_8.length : Int) - 1)) vT hS hLT hM) ?_
       rintro vr_7 h_26 ⟨F_19, r_9, _, rfl, hk, hS, _, hM⟩
       replace hK := hK.trans hk
       replace hLT := hLT.kp hk
       replace hLs := hLs.kp hk
       refine HA.one (k := 17) ⟨(hS.box 3 rfl), (Go.Wk.at_nil _ _)⟩ (by kernel_rfl) ?_
       obtain ⟨ho_11, hM⟩ := hM
       refine HS.eff rfl (wn) rfl (st_append te_29 hS (i := 0) rfl (hS.own 1 rfl).slice rfl rfl rfl (by intro a _ u hu; simp [eB, encI, encN, encB, encT] at hu; rcases hu with rfl | rfl <;> rfl) ho_11 (by omega)) ?_
       rintro v_3 h_27 ⟨hS, hk⟩
       replace hK := hK.trans hk
       replace hLT := hLT.kp hk
       replace hLs := hLs.kp hk
       refine HA.one (k := 18) ⟨(hS.box 3 rfl), (Go.Wk.at_nil _ _)⟩ (by kernel_rfl) ?_
       replace hS : St F_19 (Ow.own 52 2 eB v_3 (r_9 ++ ([(tR, fresh_1), (fresh_1, (gi r_8 ((r_8.length : Int) - 1))), (fresh_1, n)] : List TB)) :: Ow.own 52 2 eB (.slice (some ⟨b_7, 0, none⟩) 3 3) ([(tR, fresh_1), (fresh_1, (gi r_8 ((r_8.length : Int) - 1))), (fresh_1, n)] : List TB) :: Ow.own 3 1 encI vr_6 r_8 :: Ow.box b_1 31 #[.int .i64 tR, vT] :: Ow.box b_2 31 #[.int .i64 0, .slice none 0 0] :: Ow.own 3 1 encI vr_2 r_2 :: fr) h_27 := hS
       have hZ_5 := hS
       have hkz_5 := (hS.freeze).2
       replace hS := hS.freeze.1
       have hL_5 : SliceF (fun bz_ => F_19 bz_ ∨ (Ow.own 52 2 eB v_3 (r_9 ++ ([(tR, fresh_1), (fresh_1, (gi r_8 ((r_8.length : Int) - 1))), (fresh_1, n)] : List TB))).foot bz_) h_27 2 eB v_3 (r_9 ++ ([(tR, fresh_1), (fresh_1, (gi r_8 ((r_8.length : Int) - 1))), (fresh_1, n)] : List TB)) := ⟨(hZ_5.own 0 rfl).slice, fun _ b hb => .inr hb⟩
       refine HS.call rfl (wn) rfl (ec en_33 rfl rfl) (ref34_of_walk (fr := (Ow.own 52 2 eB (.slice (some ⟨b_7, 0, none⟩) 3 3) ([(tR, fresh_1), (fresh_1, (gi r_8 ((r_8.length : Int) - 1))), (fresh_1, n)] : List TB) :: Ow.own 3 1 encI vr_6 r_8 :: Ow.box b_1 31 #[.int .i64 tR, vT] :: Ow.box b_2 31 #[.int .i64 0, .slice none 0 0] :: Ow.own 3 1 encI vr_2 r_2 :: fr)) tR (r_9 ++ ([(tR, fresh_1), (fresh_1, (gi r_8 ((r_8.length : Int) - 1))), (fresh_1, n)] : List TB)) v_3 hS hL_5 hM) ?_
       rintro _ h_28 ⟨F_20, r_0_5, r_1_5, vr_1_5, rfl, hk, hS, _, hM⟩
       obtain ⟨hS, hk⟩ := hZ_5.back hk hS
       generalize (fun bz_ => F_20 bz_ ∧ ¬ (Ow.own 52 2 eB v_3 (r_9 ++ ([(tR, fresh_1), (fresh_1, (gi r_8 ((r_8.length : Int) - 1))), (fresh_1, n)] : List TB))).foot bz_) = F_21 at hS hk
       replace hK := hK.trans hk
       replace hLT := hLT.kp hk
       replace hLs := hLs.kp hk
       refine HA.one (k := 19) ⟨(hS.box 4 rfl), (Go.Wk.at_nil _ _)⟩ (by kernel_rfl) ?_
       refine HS.sto rfl (wn) rfl (st_storeAgg (c' := #[.int .i64 r_0_5, vr_1_5]) hS (i := 5) rfl ta_31 rfl rfl rfl (List.forall_mem_cons.2 ⟨rfl, (List.forall_mem_cons.2 ⟨(shp (hS.own 1 rfl).slice).one, (fun _ h => by cases h)⟩)⟩) (Nat.le_of_ble_eq_true rfl) rfl) ?_
       rintro h_29 ⟨hS, hk⟩
       replace hK := hK.trans hk
       replace hLT := hLT.kp hk
       replace hLs := hLs.kp hk
       refine HA.nil ⟨(hS.box 4 rfl), (Go.Wk.at_nil _ _)⟩ (by kernel_rfl) (tqn (?_))
       refine HW.ret (?_)
       refine ⟨.inr rfl, .agg #[.int .i64 r_0_5, vr_1_5], res1 rfl (rca (cs := [.int .i64 r_0_5, vr_1_5]) ta_31 rfl rfl (Blk.cells (k := 2) (hS.box 5 rfl) rfl)), ?_⟩
       replace hS : St F_21 (Ow.own 52 2 eB vr_1_5 r_1_5 :: fr) h_29 := hS.perm2 [1] 7 rfl rfl
       exact ⟨F_21, r_0_5, r_1_5, vr_1_5, rfl, hK, hS, hLT, hLs, hM⟩
def ref34_Leave_l2 (tR : Int) (n : Int) (services : List Int) (fan : Int) (Q : Int → (List TB) → Prop) (r_2 : List Int) (K_1 : (List Int) → Int → Prop) (l_1 : List Int) (i_1 : Int) : Prop :=
 (i_1 < (r_2.length : Int) → ((0 : Int) ≤ i_1 ∧ i_1 < (r_2.length : Int)) ∧ ((¬ ((gi r_2 i_1) = n) → ((l_1.length + ([(gi r_2 i_1)] : List Int).length) * 8 ≤ 140737488355328) ∧ ((I64 (i_1 + 1)) ∧ (K_1 (l_1 ++ ([(gi r_2 i_1)] : List Int)) (i_1 + 1)))) ∧ ((gi r_2 i_1) = n → (I64 (i_1 + 1)) ∧ (K_1 l_1 (i_1 + 1))))) ∧ (¬ (i_1 < (r_2.length : Int)) → ref33_Make_W tR l_1 services fan (fun r_0_2 r_1_2 => Q r_0_2 r_1_2))
def ref34_Leave_l4 (tR : Int) (services : List Int) (i_2 : Int) (K_2 : Int → (List TB) → Int → Prop) (K_3 : Int → (List TB) → Int → Prop) (out_0_3 : Int) (out_1_3 : List TB) (k_1 : Int) : Prop :=
 (k_1 < (services.length : Int) → ((0 : Int) ≤ k_1 ∧ k_1 < (services.length : Int)) ∧ (ref32_Next_W out_0_3 out_1_3 (gi services k_1) (fun r_4 => ((r_4.length : Int) = 0 → ref34_without_W out_1_3 (gi services k_1) (fun r_5 => ref34_of_W tR r_5 (fun r_0_4 r_1_4 => (I64 (k_1 + 1)) ∧ (K_3 r_0_4 r_1_4 (k_1 + 1))))) ∧ (¬ ((r_4.length : Int) = 0) → (I64 (k_1 + 1)) ∧ (K_3 out_0_3 out_1_3 (k_1 + 1)))))) ∧ (¬ (k_1 < (services.length : Int)) → (I64 (i_2 + 1)) ∧ (K_2 out_0_3 out_1_3 (i_2 + 1)))
def ref34_Leave_l3 (tR : Int) (services : List Int) (Q : Int → (List TB) → Prop) (K_2 : Int → (List TB) → Int → Prop) (out_0_2 : Int) (out_1_2 : List TB) (i_2 : Int) : Prop :=
 (i_2 < (services.length : Int) → loopW (fun (K_3 : (Int × List TB × Int) → Prop) (s : Int × List TB × Int) => ref34_Leave_l4 tR services i_2 K_2 (fun out_0_3 out_1_3 k_1 => K_3 (out_0_3, out_1_3, k_1)) s.1 s.2.1 s.2.2) (out_0_2, out_1_2, 0)) ∧ (¬ (i_2 < (services.length : Int)) → Q out_0_2 out_1_2)
def ref34_Leave_j1 (tR : Int) (services : List Int) (Q : Int → (List TB) → Prop) (out_0_1 : Int) (out_1_1 : List TB) : Prop :=
 loopW (fun (K_2 : (Int × List TB × Int) → Prop) (s : Int × List TB × Int) => ref34_Leave_l3 tR services Q (fun out_0_2 out_1_2 i_2 => K_2 (out_0_2, out_1_2, i_2)) s.1 s.2.1 s.2.2) (out_0_1, out_1_1, 0)
def ref34_Leave_W (tR : Int) (tL : List TB) (n : Int) (services : List Int) (fan : Int) (Q : Int → (List TB) → Prop) : Prop :=
 ref34_Star_W tR tL fan (fun r_1 => (r_1 = true → ref32_Leaves_W tR tL (fun r_2 => loopW (fun (K_1 : (List Int × Int) → Prop) (s : List Int × Int) => ref34_Leave_l2 tR n services fan Q r_2 (fun l_1 i_1 => K_1 (l_1, i_1)) s.1 s.2) ([], 0))) ∧ (r_1 = false → ref34_without_W tL n (fun r_3 => ref34_of_W tR r_3 (fun r_0_3 r_1_3 => ref34_Leave_j1 tR services Q r_0_3 r_1_3))))
theorem ref34_Leave_walk {F : Fz} {fr : List Ow} {h0 : Heap} (tR : Int) (tL : List TB) (n : Int) (services : List Int) (fan : Int) (vT : Value) (vs_ : Value) (hS : St F (fr) h0) (hLT : SliceF F h0 2 eB vT tL) (hLs : SliceF F h0 1 encI vs_ services) {Q : Int → (List TB) → Prop} (hM : ref34_Leave_W tR tL n services fan Q) :
  HC Tryz.prog 15 #[.agg #[.int .i64 tR, vT], .int .i64 n, vs_, .int .i64 fan] h0 fun u h' => ∃ (F' : Fz) (r_0_1 : Int) (r_1_1 : List TB) (vr_1_1 : Value), u = .agg #[.int .i64 r_0_1, vr_1_1] ∧ Kp F h0 F' h' ∧ St F' (Ow.own 52 2 eB vr_1_1 r_1_1 :: fr) h' ∧ (SliceF F' h' 2 eB vT tL) ∧ (SliceF F' h' 1 encI vs_ services) ∧ Q r_0_1 r_1_1 := by
 unfold ref34_Leave_W at hM
 have hK := Kp.refl F h0
 refine HC.of_HW (n := 84) Tryz.func15 rfl rfl (Nat.le_of_ble_eq_true rfl) ?_
 refine HW.seq ?_
 refine HW.region ?_
 refine HO.eff (wn) rfl (st_box (c := #[.int .i64 tR, vT]) (k' := 2) hS rfl rfl) ?_
 rintro _ h_1 ⟨b_1, rfl, hS, hk⟩
 replace hK := hK.trans hk
 replace hLT := hLT.kp hk
 replace hLs := hLs.kp hk
 refine HO.eff (wn) rfl (st_alloc (c := #[.int .i64 0, .slice none 0 0]) hS tz_31 rfl) ?_
 rintro _ h_2 ⟨b_2, rfl, hS, hk⟩
 replace hK := hK.trans hk
 replace hLT := hLT.kp hk
 replace hLs := hLs.kp hk
 refine HO.nil (tqn (?_))
 refine HW.seq ?_
 refine HW.seq ?_
 refine HW.region ?_
 refine oV (.agg #[.int .i64 tR, vT]) (q_loadAgg (cs := [.int .i64 tR, vT]) ta_31 rfl rfl (Blk.cells (k := 2) (hS.box 1 rfl) rfl)) rfl ?_
 refine oM (.int .i64 fan) rfl rfl ?_
 refine HO.call (wn) rfl (ec en_21 rfl rfl) (ref34_Star_walk (fr := (Ow.box b_2 31 #[.int .i64 0, .slice none 0 0] :: Ow.box b_1 31 #[.int .i64 tR, vT] :: fr)) tR tL fan vT hS hLT hM) ?_
 rintro _ h_3 ⟨F_1, r_1, rfl, hk, hS, _, hM⟩
 replace hK := hK.trans hk
 replace hLT := hLT.kp hk
 replace hLs := hLs.kp hk
 refine HO.nil (tqn (?_))
 refine HW.cond r_1 rfl (fun c_1 => ?_) (fun c_1 => ?_)
 ·
  replace hM := hM.1 c_1
  refine HW.seq ?_
  refine HW.region ?_
  refine HO.eff (wn) rfl (st_litEmpty (α := Int) encI hS tl_22) ?_
  rintro _ h_4 ⟨b_3, rfl, hS, hk⟩
  replace hK := hK.trans hk
  replace hLT := hLT.kp hk
  replace hLs := hLs.kp hk
  refine oV (.agg #[.int .i64 tR, vT]) (q_loadAgg (cs := [.int .i64 tR, vT]) ta_31 rfl rfl (Blk.cells (k := 2) (hS.box 2 rfl) rfl)) rfl ?_
  refine HO.call (wn) rfl (ec en_32 rfl rfl) (ref32_Leaves_walk (fr := (Ow.own 3 1 encI (.slice (some ⟨b_3, 0, none⟩) 0 0) ([] : List Int) :: Ow.box b_2 31 #[.int .i64 0, .slice none 0 0] :: Ow.box b_1 31 #[.int .i64 tR, vT] :: fr)) tR tL vT hS hLT hM) ?_
  rintro vr_1 h_5 ⟨F_2, r_2, _, rfl, hk, hS, _, hM⟩
  replace hK := hK.trans hk
  replace hLT := hLT.kp hk
  replace hLs := hLs.kp hk
  refine oA (.slice (some ⟨b_3, 0, none⟩) 0 0) rfl rfl ?_
  refine oA (vr_1) rfl rfl ?_
  refine HO.nil (tqn (?_))
  refine HW.seq ?_
  refine HW.seq ?_
  refine HW.region ?_
  refine oA (.int .i64 0) rfl rfl ?_
  refine HO.nil (tqn (?_))
  refine HW.block ?_
  obtain ⟨I_1, m_1, hI_1, hR_1⟩ := hM
  replace hS : St F_2 (Ow.box b_1 31 #[.int .i64 tR, vT] :: Ow.box b_2 31 #[.int .i64 0, .slice none 0 0] :: Ow.own 3 1 encI (.slice (some ⟨b_3, 0, none⟩) 0 0) ([] : List Int) :: Ow.own 3 1 encI vr_1 r_2 :: fr) h_5 := hS.perm2 [3, 2, 1, 0] 4 rfl rfl
  refine HW.loop (S := List Int × Int) (fun s f h => match s with | (l_1, i_1) => ∃ (F' : Fz) (v_1 : Value), f 1 = .int .i64 n ∧ f 2 = vs_ ∧ f 3 = .int .i64 fan ∧ f 4 = .pointer (some ⟨b_1, 0, none⟩) ∧ f 8 = .pointer (some ⟨b_2, 0, none⟩) ∧ f 9 = v_1 ∧ f 10 = vr_1 ∧ f 11 = .int .i64 i_1 ∧ Kp F h0 F' h ∧ St F' (Ow.box b_1 31 #[.int .i64 tR, vT] :: Ow.box b_2 31 #[.int .i64 0, .slice none 0 0] :: Ow.own 3 1 encI v_1 l_1 :: Ow.own 3 1 encI vr_1 r_2 :: fr) h ∧ (SliceF F' h 2 eB vT tL) ∧ (SliceF F' h 1 encI vs_ services) ∧ I_1 (l_1, i_1)) m_1 ([], 0) ⟨F_2, .slice (some ⟨b_3, 0, none⟩) 0 0, rfl, rfl, rfl, rfl, rfl, rfl, rfl, rfl, hK, hS, hLT, hLs, hI_1⟩ ?_
  rintro ⟨l_1, i_1⟩ f_1 h_6 ⟨F_3, v_1, e1, e2, e3, e4, e8, e9, e10, e11, hK, hS, hLT, hLs, hI0⟩
  obtain ⟨K_1, hKe_1⟩ : ∃ K : (List Int) → Int → Prop, K = fun l_1' i_1' => I_1 (l_1', i_1') ∧ m_1 (l_1', i_1') < m_1 (l_1, i_1) := ⟨_, rfl⟩
  have hM : ref34_Leave_l2 tR n services fan Q r_2 K_1 l_1 i_1 := by rw [hKe_1]; exact hR_1 (l_1, i_1) hI0
  unfold ref34_Leave_l2 at hM
  refine HW.fr [(1, .int .i64 n), (2, vs_), (3, .int .i64 fan), (4, .pointer (some ⟨b_1, 0, none⟩)), (8, .pointer (some ⟨b_2, 0, none⟩)), (9, v_1), (10, vr_1), (11, .int .i64 i_1)] ⟨e1, e2, e3, e4, e8, e9, e10, e11, trivial⟩ ?_
  refine HW.seq ?_
  refine HW.seq ?_
  refine HW.region ?_
  refine oM (.int .i64 i_1) rfl rfl ?_
  refine oM (vr_1) rfl rfl ?_
  refine oV (.int .i64 (r_2.length : Int)) (q_len ts_22 (shp (hS.own 3 rfl).slice) rfl rfl) rfl ?_
  refine oV (.bool (decide (i_1 < (r_2.length : Int)))) (q_lss rfl rfl) rfl ?_
  refine HO.nil (tqn (?_))
  refine HW.cond (decide (i_1 < (r_2.length : Int))) rfl (fun c_2 => ?_) (fun c_2 => ?_)
  ·
   replace hM := hM.1 (of_decide_eq_true c_2)
   refine HW.skip (tqn (?_))
   refine HW.seq ?_
   refine HW.block ?_
   refine HW.seq ?_
   refine HW.region ?_
   refine oM (vr_1) rfl rfl ?_
   refine oM (.int .i64 i_1) rfl rfl ?_
   obtain ⟨ho_1, hM⟩ := hM
   refine oV (elemPtr 1 vr_1 (i_1).toNat) (q_idx ts_22 (hS.own 3 rfl).slice rfl rfl ho_1) rfl ?_
   refine oV (.int .i64 (gi r_2 i_1)) (q_ldElem to_3 (hS.own 3 rfl).slice rfl ho_1 rfl) rfl ?_
   refine oM (.int .i64 n) rfl rfl ?_
   refine oV (.bool (!decide ((gi r_2 i_1) = n))) (q_neq rfl rfl) rfl ?_
   refine HO.nil (tqn (?_))
   refine HW.cond (!decide ((gi r_2 i_1) = n)) rfl (fun c_3 => ?_) (fun c_3 => ?_)
   ·
    replace hM := hM.1 (nd_true c_3)
    refine HW.region ?_
    refine oM (v_1) rfl rfl ?_
    refine oM (vr_1) rfl rfl ?_
    refine oM (.int .i64 i_1) rfl rfl ?_
    refine oV (elemPtr 1 vr_1 (i_1).toNat) (q_idx ts_22 (hS.own 3 rfl).slice rfl rfl ho_1) rfl ?_
    refine oV (.int .i64 (gi r_2 i_1)) (q_ldElem to_3 (hS.own 3 rfl).slice rfl ho_1 rfl) rfl ?_
    refine HO.eff (wn) rfl (st_lit (enc := encI) (cells := #[.int .i64 (gi r_2 i_1)]) #[.int .i64 0] ([(gi r_2 i_1)] : List Int) hS tl_22 (by decide) (by decide) (by kernel_rfl) (by kernel_rfl) rfl (by intro x hx; rfl) rfl) ?_
    rintro _ h_7 ⟨b_4, rfl, hS, hk⟩
    replace hK := hK.trans hk
    replace hLT := hLT.kp hk
    replace hLs := hLs.kp hk
    obtain ⟨ho_2, hM⟩ := hM
    refine HO.eff (wn) rfl (st_append te_22 hS (i := 3) rfl (hS.own 0 rfl).slice rfl rfl rfl (by intro a _ u hu; simp [encI, encI, encN, encB, encT] at hu; subst hu; rfl) ho_2 (by omega)) ?_
    rintro v_2 h_8 ⟨hS, hk⟩
    replace hK := hK.trans hk
    replace hLT := hLT.kp hk
    replace hLs := hLs.kp hk
    refine oA (v_2) rfl rfl ?_
    refine HO.nil (blockQ_normal (tqn (?_)))
    refine HW.region ?_
    refine oM (.int .i64 i_1) rfl rfl ?_
    obtain ⟨ho_3, hM⟩ := hM
    refine oV (.int .i64 (i_1 + 1)) (q_addN _ rfl rfl rfl ho_3.1 ho_3.2) rfl ?_
    refine oA (.int .i64 (i_1 + 1)) rfl rfl ?_
    refine HO.nil (tqn (?_))
    replace hS : St F_3 (Ow.box b_1 31 #[.int .i64 tR, vT] :: Ow.box b_2 31 #[.int .i64 0, .slice none 0 0] :: Ow.own 3 1 encI v_2 (l_1 ++ ([(gi r_2 i_1)] : List Int)) :: Ow.own 3 1 encI vr_1 r_2 :: fr) h_8 := hS.perm2 [1, 2, 3, 4] 5 rfl rfl
    rw [hKe_1] at hM
    exact ⟨(l_1 ++ ([(gi r_2 i_1)] : List Int), i_1 + 1), ⟨F_3, v_2, rfl, rfl, rfl, rfl, rfl, rfl, rfl, rfl, hK, hS, hLT, hLs, hM.1⟩, hM.2⟩
   ·
    replace hM := hM.2 (nd_false c_3)
    refine HW.skip (blockQ_normal (tqn (?_)))
    refine HW.region ?_
    refine oM (.int .i64 i_1) rfl rfl ?_
    obtain ⟨ho_4, hM⟩ := hM
    refine oV (.int .i64 (i_1 + 1)) (q_addN _ rfl rfl rfl ho_4.1 ho_4.2) rfl ?_
    refine oA (.int .i64 (i_1 + 1)) rfl rfl ?_
    refine HO.nil (tqn (?_))
    rw [hKe_1] at hM
    exact ⟨(l_1, i_1 + 1), ⟨F_3, v_1, rfl, rfl, rfl, rfl, rfl, rfl, rfl, rfl, hK, hS, hLT, hLs, hM.1⟩, hM.2⟩
  ·
   replace hM := hM.2 (of_decide_eq_false c_2)
   refine HW.exit (thenQ_exit (thenQ_exit (blockQ_exit (tqn (?_)))))
   refine HW.seq ?_
   refine HW.region ?_
   refine oV (.pointer (some ⟨b_1, 0, none⟩)) (qfA fa_31_0 rfl rfl) rfl ?_
   refine oV (.int .i64 tR) (q_load to_3 rfl (Blk.cell (hS.box 0 rfl) rfl)) rfl ?_
   refine oM (v_1) rfl rfl ?_
   refine oM (vs_) rfl rfl ?_
   refine oM (.int .i64 fan) rfl rfl ?_
   replace hS : St F_3 (Ow.own 3 1 encI v_1 l_1 :: Ow.box b_1 31 #[.int .i64 tR, vT] :: Ow.box b_2 31 #[.int .i64 0, .slice none 0 0] :: Ow.own 3 1 encI vr_1 r_2 :: fr) h_6 := hS.perm2 [2, 0, 1, 3] 4 rfl rfl
   have hZ_1 := hS
   have hkz_1 := (hS.freeze).2
   replace hS := hS.freeze.1
   have hL_1 : SliceF (fun bz_ => F_3 bz_ ∨ (Ow.own 3 1 encI v_1 l_1).foot bz_) h_6 1 encI v_1 l_1 := ⟨(hZ_1.own 0 rfl).slice, fun _ b hb => .inr hb⟩
   refine HO.call (wn) rfl (ec en_7 rfl rfl) (ref33_Make_walk (fr := (Ow.box b_1 31 #[.int .i64 tR, vT] :: Ow.box b_2 31 #[.int .i64 0, .slice none 0 0] :: Ow.own 3 1 encI vr_1 r_2 :: fr)) tR l_1 services fan v_1 vs_ hS hL_1 (hLs.kp hkz_1) hM) ?_
   rintro _ h_9 ⟨F_4, r_0_2, r_1_2, vr_1_2, rfl, hk, hS, _, _, hM⟩
   obtain ⟨hS, hk⟩ := hZ_1.back hk hS
   generalize (fun bz_ => F_4 bz_ ∧ ¬ (Ow.own 3 1 encI v_1 l_1).foot bz_) = F_5 at hS hk
   replace hK := hK.trans hk
   replace hLT := hLT.kp hk
   replace hLs := hLs.kp hk
   refine HO.sto (wn) rfl (st_storeAgg (c' := #[.int .i64 r_0_2, vr_1_2]) hS (i := 3) rfl ta_31 rfl rfl rfl (List.forall_mem_cons.2 ⟨rfl, (List.forall_mem_cons.2 ⟨(shp (hS.own 1 rfl).slice).one, (fun _ h => by cases h)⟩)⟩) (Nat.le_of_ble_eq_true rfl) rfl) ?_
   rintro h_10 ⟨hS, hk⟩
   replace hK := hK.trans hk
   replace hLT := hLT.kp hk
   replace hLs := hLs.kp hk
   refine HO.nil (tqn (?_))
   refine HW.ret (thenQ_ret (?_))
   refine ⟨.inr rfl, .agg #[.int .i64 r_0_2, vr_1_2], res1 rfl (rca (cs := [.int .i64 r_0_2, vr_1_2]) ta_31 rfl rfl (Blk.cells (k := 2) (hS.box 3 rfl) rfl)), ?_⟩
   replace hS : St F_5 (Ow.own 52 2 eB vr_1_2 r_1_2 :: fr) h_10 := hS.perm2 [1] 5 rfl rfl
   exact ⟨F_5, r_0_2, r_1_2, vr_1_2, rfl, hK, hS, hLT, hLs, hM⟩
 ·
  replace hM := hM.2 c_1
  refine HW.skip (tqn (?_))
  refine HW.seq_mid (fun f h => ∃ (F' : Fz) (out_0_1 : Int) (out_1_1 : List TB) (b_5 : Nat) (vout_1_1 : Value), f 2 = vs_ ∧ f 4 = .pointer (some ⟨b_1, 0, none⟩) ∧ f 8 = .pointer (some ⟨b_2, 0, none⟩) ∧ f 12 = .pointer (some ⟨b_5, 0, none⟩) ∧ Kp F h0 F' h ∧ St F' (Ow.box b_1 31 #[.int .i64 tR, vT] :: Ow.box b_2 31 #[.int .i64 0, .slice none 0 0] :: Ow.box b_5 31 #[.int .i64 out_0_1, vout_1_1] :: Ow.own 52 2 eB vout_1_1 out_1_1 :: fr) h ∧ (SliceF F' h 2 eB vT tL) ∧ (SliceF F' h 1 encI vs_ services) ∧ ref34_Leave_j1 tR services Q out_0_1 out_1_1) ?_ ?_
  ·
   refine HW.regionA 9 mixed (fun h => (Blk h b_1 (.cells #[.int .i64 tR, vT] 31 (0, 0)))) [] (by kernel_rfl) ?_
   refine HA.val (k := 0) (v := .pointer (some ⟨b_1, 0, none⟩)) rfl rfl (by kernel_rfl) (by kernel_rfl) (wn) rfl (fun _ c202 => qfA fa_31_0 rfl rfl) ?_
   refine HA.val (k := 1) (v := .int .i64 tR) rfl rfl (by kernel_rfl) (by kernel_rfl) (wn) rfl (fun _ c202 => q_load to_3 rfl (Blk.cell c202 rfl)) ?_
   refine HA.val (k := 2) (v := .pointer (some ⟨b_1, 1, none⟩)) rfl rfl (by kernel_rfl) (by kernel_rfl) (wn) rfl (fun _ c202 => qfA fa_31_1 rfl rfl) ?_
   refine HA.val (k := 3) (v := vT) rfl rfl (by kernel_rfl) (by kernel_rfl) (wn) rfl (fun _ c202 => q_load to_29 rfl (Blk.cell c202 rfl)) ?_
   refine HA.val (k := 4) (v := .int .i64 n) rfl rfl (by kernel_rfl) (by kernel_rfl) (wn) rfl (fun _ c202 => q_move rfl) ?_
   refine HA.two (k := 5) (k' := 7) ⟨(hS.box 1 rfl), (Go.Wk.at_nil _ _)⟩ (by kernel_rfl) ?_ ?_
   ·
    refine HS.call rfl (wn) rfl (ec en_34 rfl rfl) (ref34_without_walk (fr := (Ow.box b_2 31 #[.int .i64 0, .slice none 0 0] :: Ow.box b_1 31 #[.int .i64 tR, vT] :: fr)) tL n vT hS hLT hM) ?_
    rintro vr_2 h_11 ⟨F_6, r_3, _, rfl, hk, hS, _, hM⟩
    replace hK := hK.trans hk
    replace hLT := hLT.kp hk
    replace hLs := hLs.kp hk
    refine HA.two (k := 6) (k' := 7) ⟨(hS.box 2 rfl), (Go.Wk.at_nil _ _)⟩ (by kernel_rfl) ?_ ?_
    ·
     replace hS : St F_6 (Ow.own 52 2 eB vr_2 r_3 :: Ow.box b_2 31 #[.int .i64 0, .slice none 0 0] :: Ow.box b_1 31 #[.int .i64 tR, vT] :: fr) h_11 := hS
     have hZ_2 := hS
     have hkz_2 := (hS.freeze).2
     replace hS := hS.freeze.1
     have hL_2 : SliceF (fun bz_ => F_6 bz_ ∨ (Ow.own 52 2 eB vr_2 r_3).foot bz_) h_11 2 eB vr_2 r_3 := ⟨(hZ_2.own 0 rfl).slice, fun _ b hb => .inr hb⟩
     refine HS.call rfl (wn) rfl (ec en_33 rfl rfl) (ref34_of_walk (fr := (Ow.box b_2 31 #[.int .i64 0, .slice none 0 0] :: Ow.box b_1 31 #[.int .i64 tR, vT] :: fr)) tR r_3 vr_2 hS hL_2 hM) ?_
     rintro _ h_12 ⟨F_7, r_0_3, r_1_3, vr_1_3, rfl, hk, hS, _, hM⟩
     obtain ⟨hS, hk⟩ := hZ_2.back hk hS
     generalize (fun bz_ => F_7 bz_ ∧ ¬ (Ow.own 52 2 eB vr_2 r_3).foot bz_) = F_8 at hS hk
     replace hK := hK.trans hk
     replace hLT := hLT.kp hk
     replace hLs := hLs.kp hk
     refine HA.one (k := 7) ⟨(hS.box 3 rfl), (Go.Wk.at_nil _ _)⟩ (by kernel_rfl) ?_
     refine HS.eff rfl (wn) rfl (st_alloc (c := #[.int .i64 0, .slice none 0 0]) hS tz_31 rfl) ?_
     rintro _ h_13 ⟨b_6, rfl, hS, hk⟩
     replace hK := hK.trans hk
     replace hLT := hLT.kp hk
     replace hLs := hLs.kp hk
     refine HA.one (k := 8) ⟨(hS.box 4 rfl), (Go.Wk.at_nil _ _)⟩ (by kernel_rfl) ?_
     refine HS.sto rfl (wn) rfl (st_storeAgg (c' := #[.int .i64 r_0_3, vr_1_3]) hS (i := 0) rfl ta_31 rfl rfl rfl (List.forall_mem_cons.2 ⟨rfl, (List.forall_mem_cons.2 ⟨(shp (hS.own 2 rfl).slice).one, (fun _ h => by cases h)⟩)⟩) (Nat.le_of_ble_eq_true rfl) rfl) ?_
     rintro h_14 ⟨hS, hk⟩
     replace hK := hK.trans hk
     replace hLT := hLT.kp hk
     replace hLs := hLs.kp hk
     refine HA.nil ⟨(hS.box 4 rfl), (Go.Wk.at_nil _ _)⟩ (by kernel_rfl) (tqn (?_))
     replace hS : St F_8 (Ow.box b_1 31 #[.int .i64 tR, vT] :: Ow.box b_2 31 #[.int .i64 0, .slice none 0 0] :: Ow.box b_6 31 #[.int .i64 r_0_3, vr_1_3] :: Ow.own 52 2 eB vr_1_3 r_1_3 :: fr) h_14 := hS.perm2 [4, 3, 0, 2] 5 rfl rfl
     exact ⟨F_8, r_0_3, r_1_3, b_6, vr_1_3, rfl, rfl, rfl, rfl, hK, hS, hLT, hLs, hM⟩
    ·
     refine HS.eff rfl (wn) rfl (st_alloc (c := #[.int .i64 0, .slice none 0 0]) hS tz_31 rfl) ?_
     rintro _ h_12 ⟨b_6, rfl, hS, hk⟩
     replace hK := hK.trans hk
     replace hLT := hLT.kp hk
     replace hLs := hLs.kp hk
     refine HA.one (k := 6) ⟨(hS.box 3 rfl), (Go.Wk.at_nil _ _)⟩ (by kernel_rfl) ?_
     replace hS : St F_6 (Ow.own 52 2 eB vr_2 r_3 :: Ow.box b_6 31 #[.int .i64 0, .slice none 0 0] :: Ow.box b_2 31 #[.int .i64 0, .slice none 0 0] :: Ow.box b_1 31 #[.int .i64 tR, vT] :: fr) h_12 := hS.perm2 [1, 0, 2, 3] 4 rfl rfl
     have hZ_2 := hS
     have hkz_2 := (hS.freeze).2
     replace hS := hS.freeze.1
     have hL_2 : SliceF (fun bz_ => F_6 bz_ ∨ (Ow.own 52 2 eB vr_2 r_3).foot bz_) h_12 2 eB vr_2 r_3 := ⟨(hZ_2.own 0 rfl).slice, fun _ b hb => .inr hb⟩
     refine HS.call rfl (wn) rfl (ec en_33 rfl rfl) (ref34_of_walk (fr := (Ow.box b_6 31 #[.int .i64 0, .slice none 0 0] :: Ow.box b_2 31 #[.int .i64 0, .slice none 0 0] :: Ow.box b_1 31 #[.int .i64 tR, vT] :: fr)) tR r_3 vr_2 hS hL_2 hM) ?_
     rintro _ h_13 ⟨F_7, r_0_3, r_1_3, vr_1_3, rfl, hk, hS, _, hM⟩
     obtain ⟨hS, hk⟩ := hZ_2.back hk hS
     generalize (fun bz_ => F_7 bz_ ∧ ¬ (Ow.own 52 2 eB vr_2 r_3).foot bz_) = F_8 at hS hk
     replace hK := hK.trans hk
     replace hLT := hLT.kp hk
     replace hLs := hLs.kp hk
     refine HA.one (k := 8) ⟨(hS.box 4 rfl), (Go.Wk.at_nil _ _)⟩ (by kernel_rfl) ?_
     refine HS.sto rfl (wn) rfl (st_storeAgg (c' := #[.int .i64 r_0_3, vr_1_3]) hS (i := 2) rfl ta_31 rfl rfl rfl (List.forall_mem_cons.2 ⟨rfl, (List.forall_mem_cons.2 ⟨(shp (hS.own 1 rfl).slice).one, (fun _ h => by cases h)⟩)⟩) (Nat.le_of_ble_eq_true rfl) rfl) ?_
     rintro h_14 ⟨hS, hk⟩
     replace hK := hK.trans hk
     replace hLT := hLT.kp hk
     replace hLs := hLs.kp hk
     refine HA.nil ⟨(hS.box 4 rfl), (Go.Wk.at_nil _ _)⟩ (by kernel_rfl) (tqn (?_))
     replace hS : St F_8 (Ow.box b_1 31 #[.int .i64 tR, vT] :: Ow.box b_2 31 #[.int .i64 0, .slice none 0 0] :: Ow.box b_6 31 #[.int .i64 r_0_3, vr_1_3] :: Ow.own 52 2 eB vr_1_3 r_1_3 :: fr) h_14 := hS.perm2 [4, 3, 2, 1] 5 rfl rfl
     exact ⟨F_8, r_0_3, r_1_3, b_6, vr_1_3, rfl, rfl, rfl, rfl, hK, hS, hLT, hLs, hM⟩
   ·
    refine HS.eff rfl (wn) rfl (st_alloc (c := #[.int .i64 0, .slice none 0 0]) hS tz_31 rfl) ?_
    rintro _ h_11 ⟨b_6, rfl, hS, hk⟩
    replace hK := hK.trans hk
    replace hLT := hLT.kp hk
    replace hLs := hLs.kp hk
    refine HA.one (k := 5) ⟨(hS.box 2 rfl), (Go.Wk.at_nil _ _)⟩ (by kernel_rfl) ?_
    refine HS.call rfl (wn) rfl (ec en_34 rfl rfl) (ref34_without_walk (fr := (Ow.box b_6 31 #[.int .i64 0, .slice none 0 0] :: Ow.box b_2 31 #[.int .i64 0, .slice none 0 0] :: Ow.box b_1 31 #[.int .i64 tR, vT] :: fr)) tL n vT hS hLT hM) ?_
    rintro vr_2 h_12 ⟨F_6, r_3, _, rfl, hk, hS, _, hM⟩
    replace hK := hK.trans hk
    replace hLT := hLT.kp hk
    replace hLs := hLs.kp hk
    refine HA.one (k := 6) ⟨(hS.box 3 rfl), (Go.Wk.at_nil _ _)⟩ (by kernel_rfl) ?_
    replace hS : St F_6 (Ow.own 52 2 eB vr_2 r_3 :: Ow.box b_6 31 #[.int .i64 0, .slice none 0 0] :: Ow.box b_2 31 #[.int .i64 0, .slice none 0 0] :: Ow.box b_1 31 #[.int .i64 tR, vT] :: fr) h_12 := hS
    have hZ_2 := hS
    have hkz_2 := (hS.freeze).2
    replace hS := hS.freeze.1
    have hL_2 : SliceF (fun bz_ => F_6 bz_ ∨ (Ow.own 52 2 eB vr_2 r_3).foot bz_) h_12 2 eB vr_2 r_3 := ⟨(hZ_2.own 0 rfl).slice, fun _ b hb => .inr hb⟩
    refine HS.call rfl (wn) rfl (ec en_33 rfl rfl) (ref34_of_walk (fr := (Ow.box b_6 31 #[.int .i64 0, .slice none 0 0] :: Ow.box b_2 31 #[.int .i64 0, .slice none 0 0] :: Ow.box b_1 31 #[.int .i64 tR, vT] :: fr)) tR r_3 vr_2 hS hL_2 hM) ?_
    rintro _ h_13 ⟨F_7, r_0_3, r_1_3, vr_1_3, rfl, hk, hS, _, hM⟩
    obtain ⟨hS, hk⟩ := hZ_2.back hk hS
    generalize (fun bz_ => F_7 bz_ ∧ ¬ (Ow.own 52 2 eB vr_2 r_3).foot bz_) = F_8 at hS hk
    replace hK := hK.trans hk
    replace hLT := hLT.kp hk
    replace hLs := hLs.kp hk
    refine HA.one (k := 8) ⟨(hS.box 4 rfl), (Go.Wk.at_nil _ _)⟩ (by kernel_rfl) ?_
    refine HS.sto rfl (wn) rfl (st_storeAgg (c' := #[.int .i64 r_0_3, vr_1_3]) hS (i := 2) rfl ta_31 rfl rfl rfl (List.forall_mem_cons.2 ⟨rfl, (List.forall_mem_cons.2 ⟨(shp (hS.own 1 rfl).slice).one, (fun _ h => by cases h)⟩)⟩) (Nat.le_of_ble_eq_true rfl) rfl) ?_
    rintro h_14 ⟨hS, hk⟩
    replace hK := hK.trans hk
    replace hLT := hLT.kp hk
    replace hLs := hLs.kp hk
    refine HA.nil ⟨(hS.box 4 rfl), (Go.Wk.at_nil _ _)⟩ (by kernel_rfl) (tqn (?_))
    replace hS : St F_8 (Ow.box b_1 31 #[.int .i64 tR, vT] :: Ow.box b_2 31 #[.int .i64 0, .slice none 0 0] :: Ow.box b_6 31 #[.int .i64 r_0_3, vr_1_3] :: Ow.own 52 2 eB vr_1_3 r_1_3 :: fr) h_14 := hS.perm2 [4, 3, 2, 1] 5 rfl rfl
    exact ⟨F_8, r_0_3, r_1_3, b_6, vr_1_3, rfl, rfl, rfl, rfl, hK, hS, hLT, hLs, hM⟩
  ·
   rintro f_2 h_15 ⟨F_9, out_0_1, out_1_1, b_5, vout_1_1, e2, e4, e8, e12, hK, hS, hLT, hLs, hM⟩
   unfold ref34_Leave_j1 at hM
   refine HW.fr [(2, vs_), (4, .pointer (some ⟨b_1, 0, none⟩)), (8, .pointer (some ⟨b_2, 0, none⟩)), (12, .pointer (some ⟨b_5, 0, none⟩))] ⟨e2, e4, e8, e12, trivial⟩ ?_
   refine HW.seq ?_
   refine HW.seq ?_
   refine HW.region ?_
   refine oA (.int .i64 0) rfl rfl ?_
   refine HO.nil (tqn (?_))
   refine HW.block ?_
   obtain ⟨I_2, m_2, hI_2, hR_2⟩ := hM
   refine HW.loop (S := Int × List TB × Int) (fun s f h => match s with | (out_0_2, out_1_2, i_2) => ∃ (F' : Fz) (vout_1_2 : Value), f 2 = vs_ ∧ f 4 = .pointer (some ⟨b_1, 0, none⟩) ∧ f 8 = .pointer (some ⟨b_2, 0, none⟩) ∧ f 12 = .pointer (some ⟨b_5, 0, none⟩) ∧ f 13 = .int .i64 i_2 ∧ Kp F h0 F' h ∧ St F' (Ow.box b_1 31 #[.int .i64 tR, vT] :: Ow.box b_2 31 #[.int .i64 0, .slice none 0 0] :: Ow.box b_5 31 #[.int .i64 out_0_2, vout_1_2] :: Ow.own 52 2 eB vout_1_2 out_1_2 :: fr) h ∧ (SliceF F' h 2 eB vT tL) ∧ (SliceF F' h 1 encI vs_ services) ∧ I_2 (out_0_2, out_1_2, i_2)) m_2 (out_0_1, out_1_1, 0) ⟨F_9, vout_1_1, rfl, rfl, rfl, rfl, rfl, hK, hS, hLT, hLs, hI_2⟩ ?_
   rintro ⟨out_0_2, out_1_2, i_2⟩ f_3 h_16 ⟨F_10, vout_1_2, e2, e4, e8, e12, e13, hK, hS, hLT, hLs, hI0⟩
   obtain ⟨K_2, hKe_2⟩ : ∃ K : Int → (List TB) → Int → Prop, K = fun out_0_2' out_1_2' i_2' => I_2 (out_0_2', out_1_2', i_2') ∧ m_2 (out_0_2', out_1_2', i_2') < m_2 (out_0_2, out_1_2, i_2) := ⟨_, rfl⟩
   have hM : ref34_Leave_l3 tR services Q K_2 out_0_2 out_1_2 i_2 := by rw [hKe_2]; exact hR_2 (out_0_2, out_1_2, i_2) hI0
   unfold ref34_Leave_l3 at hM
   refine HW.fr [(2, vs_), (4, .pointer (some ⟨b_1, 0, none⟩)), (8, .pointer (some ⟨b_2, 0, none⟩)), (12, .pointer (some ⟨b_5, 0, none⟩)), (13, .int .i64 i_2)] ⟨e2, e4, e8, e12, e13, trivial⟩ ?_
   refine HW.seq ?_
   refine HW.seq ?_
   refine HW.region ?_
   refine oM (.int .i64 i_2) rfl rfl ?_
   refine oM (vs_) rfl rfl ?_
   refine oV (.int .i64 (services.length : Int)) (q_len ts_22 (shp hLs.is) rfl rfl) rfl ?_
   refine oV (.bool (decide (i_2 < (services.length : Int)))) (q_lss rfl rfl) rfl ?_
   refine HO.nil (tqn (?_))
   refine HW.cond (decide (i_2 < (services.length : Int))) rfl (fun c_4 => ?_) (fun c_4 => ?_)
   ·
    replace hM := hM.1 (of_decide_eq_true c_4)
    refine HW.skip (tqn (?_))
    refine HW.seq ?_
    refine HW.block ?_
    refine HW.seq ?_
    refine HW.region ?_
    refine oA (.int .i64 0) rfl rfl ?_
    refine HO.nil (tqn (?_))
    refine HW.block ?_
    obtain ⟨I_3, m_3, hI_3, hR_3⟩ := hM
    refine HW.loop (S := Int × List TB × Int) (fun s f h => match s with | (out_0_3, out_1_3, k_1) => ∃ (F' : Fz) (vout_1_3 : Value), f 2 = vs_ ∧ f 4 = .pointer (some ⟨b_1, 0, none⟩) ∧ f 8 = .pointer (some ⟨b_2, 0, none⟩) ∧ f 12 = .pointer (some ⟨b_5, 0, none⟩) ∧ f 13 = .int .i64 i_2 ∧ f 14 = .int .i64 k_1 ∧ Kp F h0 F' h ∧ St F' (Ow.box b_1 31 #[.int .i64 tR, vT] :: Ow.box b_2 31 #[.int .i64 0, .slice none 0 0] :: Ow.box b_5 31 #[.int .i64 out_0_3, vout_1_3] :: Ow.own 52 2 eB vout_1_3 out_1_3 :: fr) h ∧ (SliceF F' h 2 eB vT tL) ∧ (SliceF F' h 1 encI vs_ services) ∧ I_3 (out_0_3, out_1_3, k_1)) m_3 (out_0_2, out_1_2, 0) ⟨F_10, vout_1_2, rfl, rfl, rfl, rfl, rfl, rfl, hK, hS, hLT, hLs, hI_3⟩ ?_
    rintro ⟨out_0_3, out_1_3, k_1⟩ f_4 h_17 ⟨F_11, vout_1_3, e2, e4, e8, e12, e13, e14, hK, hS, hLT, hLs, hI0⟩
    obtain ⟨K_3, hKe_3⟩ : ∃ K : Int → (List TB) → Int → Prop, K = fun out_0_3' out_1_3' k_1' => I_3 (out_0_3', out_1_3', k_1') ∧ m_3 (out_0_3', out_1_3', k_1') < m_3 (out_0_3, out_1_3, k_1) := ⟨_, rfl⟩
    have hM : ref34_Leave_l4 tR services i_2 K_2 K_3 out_0_3 out_1_3 k_1 := by rw [hKe_3]; exact hR_3 (out_0_3, out_1_3, k_1) hI0
    unfold ref34_Leave_l4 at hM
    refine HW.fr [(2, vs_), (4, .pointer (some ⟨b_1, 0, none⟩)), (8, .pointer (some ⟨b_2, 0, none⟩)), (12, .pointer (some ⟨b_5, 0, none⟩)), (13, .int .i64 i_2), (14, .int .i64 k_1)] ⟨e2, e4, e8, e12, e13, e14, trivial⟩ ?_
    refine HW.seq ?_
    refine HW.seq ?_
    refine HW.region ?_
    refine oM (.int .i64 k_1) rfl rfl ?_
    refine oM (vs_) rfl rfl ?_
    refine oV (.int .i64 (services.length : Int)) (q_len ts_22 (shp hLs.is) rfl rfl) rfl ?_
    refine oV (.bool (decide (k_1 < (services.length : Int)))) (q_lss rfl rfl) rfl ?_
    refine HO.nil (tqn (?_))
    refine HW.cond (decide (k_1 < (services.length : Int))) rfl (fun c_5 => ?_) (fun c_5 => ?_)
    ·
     replace hM := hM.1 (of_decide_eq_true c_5)
     refine HW.skip (tqn (?_))
     refine HW.seq ?_
     refine HW.block ?_
     refine HW.seq ?_
     refine HW.regionA 8 mixed (fun h => (SliceIs h 1 encI vs_ services) ∧ (Blk h b_5 (.cells #[.int .i64 out_0_3, vout_1_3] 31 (0, 0)))) [] (by kernel_rfl) ?_
     refine HA.val (k := 0) (v := .agg #[.int .i64 out_0_3, vout_1_3]) rfl rfl (by kernel_rfl) (by kernel_rfl) (wn) rfl (fun _ ⟨hLs, c514⟩ => q_loadAgg (cs := [.int .i64 out_0_3, vout_1_3]) ta_31 rfl rfl (Blk.cells (k := 2) c514 rfl)) ?_
     refine HA.val (k := 1) (v := vs_) rfl rfl (by kernel_rfl) (by kernel_rfl) (wn) rfl (fun _ ⟨hLs, c514⟩ => q_move rfl) ?_
     refine HA.val (k := 2) (v := .int .i64 k_1) rfl rfl (by kernel_rfl) (by kernel_rfl) (wn) rfl (fun _ ⟨hLs, c514⟩ => q_move rfl) ?_
     obtain ⟨ho_5, hM⟩ := hM
     refine HA.val (k := 3) (v := elemPtr 1 vs_ (k_1).toNat) rfl rfl (by kernel_rfl) (by kernel_rfl) (wn) rfl (fun _ ⟨hLs, c514⟩ => q_idx ts_22 hLs rfl rfl ho_5) ?_
     refine HA.val (k := 4) (v := .int .i64 (gi services k_1)) rfl rfl (by kernel_rfl) (by kernel_rfl) (wn) rfl (fun _ ⟨hLs, c514⟩ => q_ldElem to_3 hLs rfl ho_5 rfl) ?_
     refine HA.one (k := 5) ⟨⟨hLs.is, (hS.box 2 rfl)⟩, (Go.Wk.at_nil _ _)⟩ (by kernel_rfl) ?_
     replace hS : St F_11 (Ow.own 52 2 eB vout_1_3 out_1_3 :: Ow.box b_1 31 #[.int .i64 tR, vT] :: Ow.box b_2 31 #[.int .i64 0, .slice none 0 0] :: Ow.box b_5 31 #[.int .i64 out_0_3, vout_1_3] :: fr) h_17 := hS.perm2 [3, 0, 1, 2] 4 rfl rfl
     have hZ_3 := hS
     have hkz_3 := (hS.freeze).2
     replace hS := hS.freeze.1
     have hL_3 : SliceF (fun bz_ => F_11 bz_ ∨ (Ow.own 52 2 eB vout_1_3 out_1_3).foot bz_) h_17 2 eB vout_1_3 out_1_3 := ⟨(hZ_3.own 0 rfl).slice, fun _ b hb => .inr hb⟩
     refine HS.call rfl (wn) rfl (ec en_35 rfl rfl) (ref32_Next_walk (fr := (Ow.box b_1 31 #[.int .i64 tR, vT] :: Ow.box b_2 31 #[.int .i64 0, .slice none 0 0] :: Ow.box b_5 31 #[.int .i64 out_0_3, vout_1_3] :: fr)) out_0_3 out_1_3 (gi services k_1) vout_1_3 hS hL_3 hM) ?_
     rintro vr_3 h_18 ⟨F_12, r_4, _, rfl, hk, hS, _, hM⟩
     obtain ⟨hS, hk⟩ := hZ_3.back hk hS
     generalize (fun bz_ => F_12 bz_ ∧ ¬ (Ow.own 52 2 eB vout_1_3 out_1_3).foot bz_) = F_13 at hS hk
     replace hK := hK.trans hk
     replace hLT := hLT.kp hk
     replace hLs := hLs.kp hk
     refine Go.Wk.HA.re (fun h => (SliceIs h 1 encI vs_ services) ∧ (OwnIs h 0 3 1 encI vr_3 r_4) ∧ (Blk h b_5 (.cells #[.int .i64 out_0_3, vout_1_3] 31 (0, 0)))) [] (fun L_ h_ hL_ ⟨hLs, c546, c514⟩ hs_ => ⟨⟨hLs, c514⟩, (Go.Wk.at_nil _ _)⟩) ?_
     refine HA.val (k := 6) (v := .int .i64 (r_4.length : Int)) rfl rfl (by kernel_rfl) (by kernel_rfl) (wn) rfl (fun _ ⟨hLs, c546, c514⟩ => q_len ts_22 (shp c546.slice) rfl rfl) ?_
     refine HA.val (k := 7) (v := .bool (decide ((r_4.length : Int) = 0))) rfl rfl (by kernel_rfl) (by kernel_rfl) (wn) rfl (fun _ ⟨hLs, c546, c514⟩ => q_eql rfl rfl) ?_
     refine HA.nil ⟨⟨hLs.is, (hS.own 1 rfl), (hS.box 4 rfl)⟩, (Go.Wk.at_nil _ _)⟩ (by kernel_rfl) (tqn (?_))
     refine HW.cond (decide ((r_4.length : Int) = 0)) rfl (fun c_6 => ?_) (fun c_6 => ?_)
     ·
      replace hM := hM.1 (of_decide_eq_true c_6)
      refine HW.regionA 11 mixed (fun h => (SliceIs h 1 encI vs_ services) ∧ (Blk h b_1 (.cells #[.int .i64 tR, vT] 31 (0, 0)))) [(10, fun h => (Blk h b_5 (.cells #[.int .i64 out_0_3, vout_1_3] 31 (0, 0))))] (by kernel_rfl) ?_
      refine HA.val (k := 0) (v := .pointer (some ⟨b_1, 0, none⟩)) rfl rfl (by kernel_rfl) (by kernel_rfl) (wn) rfl (fun _ ⟨hLs, c512⟩ => qfA fa_31_0 rfl rfl) ?_
      refine HA.val (k := 1) (v := .int .i64 tR) rfl rfl (by kernel_rfl) (by kernel_rfl) (wn) rfl (fun _ ⟨hLs, c512⟩ => q_load to_3 rfl (Blk.cell c512 rfl)) ?_
      refine HA.val (k := 2) (v := .pointer (some ⟨b_5, 1, none⟩)) rfl rfl (by kernel_rfl) (by kernel_rfl) (wn) rfl (fun _ ⟨hLs, c512⟩ => qfA fa_31_1 rfl rfl) ?_
      refine Go.Wk.HA.valN (k := 3) (v := vout_1_3) 0 10 (fun h => (Blk h b_5 (.cells #[.int .i64 out_0_3, vout_1_3] 31 (0, 0)))) rfl rfl (by kernel_rfl) (by kernel_rfl) (wn) rfl rfl (by kernel_rfl) (fun _ ⟨hLs, c512⟩ c514 => q_load to_29 rfl (Blk.cell c514 rfl)) ?_
      refine HA.val (k := 4) (v := vs_) rfl rfl (by kernel_rfl) (by kernel_rfl) (wn) rfl (fun _ ⟨hLs, c512⟩ => q_move rfl) ?_
      refine HA.val (k := 5) (v := .int .i64 k_1) rfl rfl (by kernel_rfl) (by kernel_rfl) (wn) rfl (fun _ ⟨hLs, c512⟩ => q_move rfl) ?_
      refine HA.val (k := 6) (v := elemPtr 1 vs_ (k_1).toNat) rfl rfl (by kernel_rfl) (by kernel_rfl) (wn) rfl (fun _ ⟨hLs, c512⟩ => q_idx ts_22 hLs rfl rfl ho_5) ?_
      refine HA.val (k := 7) (v := .int .i64 (gi services k_1)) rfl rfl (by kernel_rfl) (by kernel_rfl) (wn) rfl (fun _ ⟨hLs, c512⟩ => q_ldElem to_3 hLs rfl ho_5 rfl) ?_
      refine HA.one (k := 8) ⟨⟨hLs.is, (hS.box 2 rfl)⟩, (at_now (hS.box 4 rfl) (Go.Wk.at_nil _ _))⟩ (by kernel_rfl) ?_
      replace hS : St F_13 (Ow.own 52 2 eB vout_1_3 out_1_3 :: Ow.own 3 1 encI vr_3 r_4 :: Ow.box b_1 31 #[.int .i64 tR, vT] :: Ow.box b_2 31 #[.int .i64 0, .slice none 0 0] :: Ow.box b_5 31 #[.int .i64 out_0_3, vout_1_3] :: fr) h_18 := hS
      have hZ_4 := hS
      have hkz_4 := (hS.freeze).2
      replace hS := hS.freeze.1
      have hL_4 : SliceF (fun bz_ => F_13 bz_ ∨ (Ow.own 52 2 eB vout_1_3 out_1_3).foot bz_) h_18 2 eB vout_1_3 out_1_3 := ⟨(hZ_4.own 0 rfl).slice, fun _ b hb => .inr hb⟩
      refine HS.call rfl (wn) rfl (ec en_34 rfl rfl) (ref34_without_walk (fr := (Ow.own 3 1 encI vr_3 r_4 :: Ow.box b_1 31 #[.int .i64 tR, vT] :: Ow.box b_2 31 #[.int .i64 0, .slice none 0 0] :: Ow.box b_5 31 #[.int .i64 out_0_3, vout_1_3] :: fr)) out_1_3 (gi services k_1) vout_1_3 hS hL_4 hM) ?_
      rintro vr_4 h_19 ⟨F_14, r_5, _, rfl, hk, hS, _, hM⟩
      obtain ⟨hS, hk⟩ := hZ_4.back hk hS
      generalize (fun bz_ => F_14 bz_ ∧ ¬ (Ow.own 52 2 eB vout_1_3 out_1_3).foot bz_) = F_15 at hS hk
      replace hK := hK.trans hk
      replace hLT := hLT.kp hk
      replace hLs := hLs.kp hk
      refine HA.one (k := 9) ⟨⟨hLs.is, (hS.box 3 rfl)⟩, (at_now (hS.box 5 rfl) (Go.Wk.at_nil _ _))⟩ (by kernel_rfl) ?_
      replace hS : St F_15 (Ow.own 52 2 eB vr_4 r_5 :: Ow.own 52 2 eB vout_1_3 out_1_3 :: Ow.own 3 1 encI vr_3 r_4 :: Ow.box b_1 31 #[.int .i64 tR, vT] :: Ow.box b_2 31 #[.int .i64 0, .slice none 0 0] :: Ow.box b_5 31 #[.int .i64 out_0_3, vout_1_3] :: fr) h_19 := hS.perm2 [1, 0, 2, 3, 4, 5] 6 rfl rfl
      have hZ_5 := hS
      have hkz_5 := (hS.freeze).2
      replace hS := hS.freeze.1
      have hL_5 : SliceF (fun bz_ => F_15 bz_ ∨ (Ow.own 52 2 eB vr_4 r_5).foot bz_) h_19 2 eB vr_4 r_5 := ⟨(hZ_5.own 0 rfl).slice, fun _ b hb => .inr hb⟩
      refine HS.call rfl (wn) rfl (ec en_33 rfl rfl) (ref34_of_walk (fr := (Ow.own 52 2 eB vout_1_3 out_1_3 :: Ow.own 3 1 encI vr_3 r_4 :: Ow.box b_1 31 #[.int .i64 tR, vT] :: Ow.box b_2 31 #[.int .i64 0, .slice none 0 0] :: Ow.box b_5 31 #[.int .i64 out_0_3, vout_1_3] :: fr)) tR r_5 vr_4 hS hL_5 hM) ?_
      rintro _ h_20 ⟨F_16, r_0_4, r_1_4, vr_1_4, rfl, hk, hS, _, hM⟩
      obtain ⟨hS, hk⟩ := hZ_5.back hk hS
      generalize (fun bz_ => F_16 bz_ ∧ ¬ (Ow.own 52 2 eB vr_4 r_5).foot bz_) = F_17 at hS hk
      replace hK := hK.trans hk
      replace hLT := hLT.kp hk
      replace hLs := hLs.kp hk
      refine HA.one (k := 10) ⟨⟨hLs.is, (hS.box 4 rfl)⟩, (at_now (hS.box 6 rfl) (Go.Wk.at_nil _ _))⟩ (by kernel_rfl) ?_
      refine HS.sto rfl (wn) rfl (st_storeAgg (c' := #[.int .i64 r_0_4, vr_1_4]) hS (i := 6) rfl ta_31 rfl rfl rfl (List.forall_mem_cons.2 ⟨rfl, (List.forall_mem_cons.2 ⟨(shp (hS.own 1 rfl).slice).one, (fun _ h => by cases h)⟩)⟩) (Nat.le_of_ble_eq_true rfl) rfl) ?_
      rintro h_21 ⟨hS, hk⟩
      replace hK := hK.trans hk
      replace hLT := hLT.kp hk
      replace hLs := hLs.kp hk
      refine HA.nil ⟨⟨hLs.is, (hS.box 4 rfl)⟩, (at_done (by kernel_rfl) (Go.Wk.at_nil _ _))⟩ (by kernel_rfl) (blockQ_normal (tqn (?_)))
      refine HW.region ?_
      refine oM (.int .i64 k_1) rfl rfl ?_
      obtain ⟨ho_6, hM⟩ := hM
      refine oV (.int .i64 (k_1 + 1)) (q_addN _ rfl rfl rfl ho_6.1 ho_6.2) rfl ?_
      refine oA (.int .i64 (k_1 + 1)) rfl rfl ?_
      refine HO.nil (tqn (?_))
      replace hS : St F_17 (Ow.box b_1 31 #[.int .i64 tR, vT] :: Ow.box b_2 31 #[.int .i64 0, .slice none 0 0] :: Ow.box b_5 31 #[.int .i64 r_0_4, vr_1_4] :: Ow.own 52 2 eB vr_1_4 r_1_4 :: fr) h_21 := hS.perm2 [4, 5, 6, 1] 7 rfl rfl
      rw [hKe_3] at hM
      exact ⟨(r_0_4, r_1_4, k_1 + 1), ⟨F_17, vr_1_4, rfl, rfl, rfl, rfl, rfl, rfl, hK, hS, hLT, hLs, hM.1⟩, hM.2⟩
     ·
      replace hM := hM.2 (of_decide_eq_false c_6)
      refine HW.skip (blockQ_normal (tqn (?_)))
      refine HW.region ?_
      refine oM (.int .i64 k_1) rfl rfl ?_
      obtain ⟨ho_7, hM⟩ := hM
      refine oV (.int .i64 (k_1 + 1)) (q_addN _ rfl rfl rfl ho_7.1 ho_7.2) rfl ?_
      refine oA (.int .i64 (k_1 + 1)) rfl rfl ?_
      refine HO.nil (tqn (?_))
      replace hS : St F_13 (Ow.box b_1 31 #[.int .i64 tR, vT] :: Ow.box b_2 31 #[.int .i64 0, .slice none 0 0] :: Ow.box b_5 31 #[.int .i64 out_0_3, vout_1_3] :: Ow.own 52 2 eB vout_1_3 out_1_3 :: fr) h_18 := hS.perm2 [2, 3, 4, 0] 5 rfl rfl
      rw [hKe_3] at hM
      exact ⟨(out_0_3, out_1_3, k_1 + 1), ⟨F_13, vout_1_3, rfl, rfl, rfl, rfl, rfl, rfl, hK, hS, hLT, hLs, hM.1⟩, hM.2⟩
    ·
     replace hM := hM.2 (of_decide_eq_false c_5)
     refine HW.exit (thenQ_exit (thenQ_exit (blockQ_exit (blockQ_normal (tqn (?_))))))
     refine HW.region ?_
     refine oM (.int .i64 i_2) rfl rfl ?_
     obtain ⟨ho_8, hM⟩ := hM
     refine oV (.int .i64 (i_2 + 1)) (q_addN _ rfl rfl rfl ho_8.1 ho_8.2) rfl ?_
     refine oA (.int .i64 (i_2 + 1)) rfl rfl ?_
     refine HO.nil (tqn (?_))
     rw [hKe_2] at hM
     exact ⟨(out_0_3, out_1_3, i_2 + 1), ⟨F_11, vout_1_3, rfl, rfl, rfl, rfl, rfl, hK, hS, hLT, hLs, hM.1⟩, hM.2⟩
   ·
    replace hM := hM.2 (of_decide_eq_false c_4)
    refine HW.exit (thenQ_exit (thenQ_exit (blockQ_exit (tqn (?_)))))
    refine HW.seq ?_
    refine HW.region ?_
    refine oV (.agg #[.int .i64 out_0_2, vout_1_2]) (q_loadAgg (cs := [.int .i64 out_0_2, vout_1_2]) ta_31 rfl rfl (Blk.cells (k := 2) (hS.box 2 rfl) rfl)) rfl ?_
    refine HO.sto (wn) rfl (st_storeAgg (c' := #[.int .i64 out_0_2, vout_1_2]) hS (i := 1) rfl ta_31 rfl rfl rfl (List.forall_mem_cons.2 ⟨rfl, (List.forall_mem_cons.2 ⟨(shp (hS.own 3 rfl).slice).one, (fun _ h => by cases h)⟩)⟩) (Nat.le_of_ble_eq_true rfl) rfl) ?_
    rintro h_22 ⟨hS, hk⟩
    replace hK := hK.trans hk
    replace hLT := hLT.kp hk
    replace hLs := hLs.kp hk
    refine HO.nil (tqn (?_))
    refine HW.ret (?_)
    refine ⟨.inr rfl, .agg #[.int .i64 out_0_2, vout_1_2], res1 rfl (rca (cs := [.int .i64 out_0_2, vout_1_2]) ta_31 rfl rfl (Blk.cells (k := 2) (hS.box 1 rfl) rfl)), ?_⟩
    replace hS : St F_10 (Ow.own 52 2 eB vout_1_2 out_1_2 :: fr) h_22 := hS.perm2 [3] 4 rfl rfl
    exact ⟨F_10, out_0_2, out_1_2, vout_1_2, rfl, hK, hS, hLT, hLs, hM⟩
def law33_Ask_Own_j3 (a_Services : List Int) (l_3 : List Int) (i_2 : Int) (K_2 : (List Int) → Int → Prop) (b_6 : Bool) : Prop :=
 (b_6 = true → ((0 : Int) ≤ i_2 ∧ i_2 < (a_Services.length : Int)) ∧ (ref32_Add_W l_3 (gi a_Services i_2) (fun r_3 => (I64 (i_2 + 1)) ∧ (K_2 r_3 (i_2 + 1))))) ∧ (b_6 = false → (I64 (i_2 + 1)) ∧ (K_2 l_3 (i_2 + 1)))
def law33_Ask_Own_j2 (a_Root : Int) (a_Services : List Int) (a_Fan : Int) (Q : Int → (List Int) → (List Int) → Int → Prop) (l_1 : List Int) (l_3 : List Int) (i_2 : Int) (K_2 : (List Int) → Int → Prop) (b_5 : Bool) : Prop :=
 (b_5 = true → ((0 : Int) ≤ i_2 ∧ i_2 < (a_Services.length : Int)) ∧ ((¬ ((gi a_Services i_2) = a_Root) → ref32_Has_W l_1 (gi a_Services i_2) (fun r_2 => law33_Ask_Own_j3 a_Services l_3 i_2 K_2 (!r_2))) ∧ ((gi a_Services i_2) = a_Root → law33_Ask_Own_j3 a_Services l_3 i_2 K_2 false))) ∧ (b_5 = false → ((0 : Int) ≤ (a_Fan.tmod 64) ∧ (a_Fan.tmod 64) < 256) ∧ ((I64 ((u8w (a_Fan.tmod 64)).toNat : Int)) ∧ ((I64 (1 + ((u8w (a_Fan.tmod 64)).toNat : Int))) ∧ (Q a_Root l_1 l_3 (1 + ((u8w (a_Fan.tmod 64)).toNat : Int))))))
def law33_Ask_Own_l4 (a_Root : Int) (a_Services : List Int) (a_Fan : Int) (Q : Int → (List Int) → (List Int) → Int → Prop) (l_1 : List Int) (K_2 : (List Int) → Int → Prop) (l_3 : List Int) (i_2 : Int) : Prop :=
 (i_2 < (a_Services.length : Int) → law33_Ask_Own_j2 a_Root a_Services a_Fan Q l_1 l_3 i_2 K_2 (decide (i_2 < 12))) ∧ (¬ (i_2 < (a_Services.length : Int)) → law33_Ask_Own_j2 a_Root a_Services a_Fan Q l_1 l_3 i_2 K_2 false)
def law33_Ask_Own_j1 (a_Root : Int) (a_Members : List Int) (a_Services : List Int) (a_Fan : Int) (Q : Int → (List Int) → (List Int) → Int → Prop) (l_1 : List Int) (i_1 : Int) (K_1 : (List Int) → Int → Prop) (b_4 : Bool) : Prop :=
 (b_4 = true → ((0 : Int) ≤ i_1 ∧ i_1 < (a_Members.length : Int)) ∧ ((¬ ((gi a_Members i_1) = a_Root) → ref32_Add_W l_1 (gi a_Members i_1) (fun r_1 => (I64 (i_1 + 1)) ∧ (K_1 r_1 (i_1 + 1)))) ∧ ((gi a_Members i_1) = a_Root → (I64 (i_1 + 1)) ∧ (K_1 l_1 (i_1 + 1))))) ∧ (b_4 = false → loopW (fun (K_2 : (List Int × Int) → Prop) (s : List Int × Int) => law33_Ask_Own_l4 a_Root a_Services a_Fan Q l_1 (fun l_3 i_2 => K_2 (l_3, i_2)) s.1 s.2) ([], 0))
def law33_Ask_Own_l2 (a_Root : Int) (a_Members : List Int) (a_Services : List Int) (a_Fan : Int) (Q : Int → (List Int) → (List Int) → Int → Prop) (K_1 : (List Int) → Int → Prop) (l_1 : List Int) (i_1 : Int) : Prop :=
 (i_1 < (a_Members.length : Int) → law33_Ask_Own_j1 a_Root a_Members a_Services a_Fan Q l_1 i_1 K_1 (decide (i_1 < 20))) ∧ (¬ (i_1 < (a_Members.length : Int)) → law33_Ask_Own_j1 a_Root a_Members a_Services a_Fan Q l_1 i_1 K_1 false)
def law33_Ask_Own_W (a_Root : Int) (a_Members : List Int) (a_Services : List Int) (a_Fan : Int) (Q : Int → (List Int) → (List Int) → Int → Prop) : Prop :=
 loopW (fun (K_1 : (List Int × Int) → Prop) (s : List Int × Int) => law33_Ask_Own_l2 a_Root a_Members a_Services a_Fan Q (fun l_1 i_1 => K_1 (l_1, i_1)) s.1 s.2) ([], 0)
theorem law33_Ask_Own_walk {F : Fz} {fr : List Ow} {h0 : Heap} (a_Root : Int) (a_Members : List Int) (a_Services : List Int) (a_Fan : Int) (va_Members : Value) (va_Services : Value) (hS : St F (fr) h0) (hLaM : SliceF F h0 1 encI va_Members a_Members) (hLaS : SliceF F h0 1 encI va_Services a_Services) {Q : Int → (List Int) → (List Int) → Int → Prop} (hM : law33_Ask_Own_W a_Root a_Members a_Services a_Fan Q) :
  HC Tryz.prog 5 #[.agg #[.int .i64 a_Root, va_Members, va_Services, .int .u8 a_Fan]] h0 fun u h' => ∃ (F' : Fz) (r0_1 : Int) (r1_1 : List Int) (r2_1 : List Int) (r3_1 : Int) (vr1_1 : Value) (vr2_1 : Value), u = .tuple #[.int .i64 r0_1, vr1_1, vr2_1, .int .i64 r3_1] ∧ Kp F h0 F' h' ∧ St F' (Ow.own 3 1 encI vr1_1 r1_1 :: Ow.own 3 1 encI vr2_1 r2_1 :: fr) h' ∧ (SliceF F' h' 1 encI va_Members a_Members) ∧ (SliceF F' h' 1 encI va_Services a_Services) ∧ Q r0_1 r1_1 r2_1 r3_1 := by
 unfold law33_Ask_Own_W at hM
 have hK := Kp.refl F h0
 refine HC.of_HW (n := 83) Tryz.func5 rfl rfl (Nat.le_of_ble_eq_true rfl) ?_
 refine HW.seq ?_
 refine HW.region ?_
 refine HO.eff (wn) rfl (st_box (c := #[.int .i64 a_Root, va_Members, va_Services, .int .u8 a_Fan]) (k' := 4) hS rfl rfl) ?_
 rintro _ h_1 ⟨b_1, rfl, hS, hk⟩
 replace hK := hK.trans hk
 replace hLaM := hLaM.kp hk
 replace hLaS := hLaS.kp hk
 refine oA (.int .i64 0) rfl rfl ?_
 refine oA (.slice none 0 0) rfl rfl ?_
 refine oA (.slice none 0 0) rfl rfl ?_
 refine oA (.int .i64 0) rfl rfl ?_
 refine HO.nil (tqn (?_))
 refine HW.seq ?_
 refine HW.region ?_
 refine HO.eff (wn) rfl (st_litEmpty (α := Int) encI hS tl_22) ?_
 rintro _ h_2 ⟨b_2, rfl, hS, hk⟩
 replace hK := hK.trans hk
 replace hLaM := hLaM.kp hk
 replace hLaS := hLaS.kp hk
 refine HO.eff (wn) rfl (st_litEmpty (α := Int) encI hS tl_22) ?_
 rintro _ h_3 ⟨b_3, rfl, hS, hk⟩
 replace hK := hK.trans hk
 replace hLaM := hLaM.kp hk
 replace hLaS := hLaS.kp hk
 refine oA (.slice (some ⟨b_2, 0, none⟩) 0 0) rfl rfl ?_
 refine oA (.slice (some ⟨b_3, 0, none⟩) 0 0) rfl rfl ?_
 refine HO.nil (tqn (?_))
 refine HW.seq ?_
 refine HW.seq ?_
 refine HW.region ?_
 refine oA (.int .i64 0) rfl rfl ?_
 refine HO.nil (tqn (?_))
 refine HW.block ?_
 obtain ⟨I_1, m_1, hI_1, hR_1⟩ := hM
 replace hS : St F (Ow.box b_1 24 #[.int .i64 a_Root, va_Members, va_Services, .int .u8 a_Fan] :: Ow.own 3 1 encI (.slice (some ⟨b_2, 0, none⟩) 0 0) ([] : List Int) :: Ow.own 3 1 encI (.slice (some ⟨b_3, 0, none⟩) 0 0) ([] : List Int) :: fr) h_3 := hS.perm2 [2, 1, 0] 3 rfl rfl
 refine HW.loop (S := List Int × Int) (fun s f h => match s with | (l_1, i_1) => ∃ (F' : Fz) (v_1 : Value), f 1 = .pointer (some ⟨b_1, 0, none⟩) ∧ f 2 = .int .i64 0 ∧ f 3 = .slice none 0 0 ∧ f 4 = .slice none 0 0 ∧ f 5 = .int .i64 0 ∧ f 6 = v_1 ∧ f 7 = .slice (some ⟨b_3, 0, none⟩) 0 0 ∧ f 8 = .int .i64 i_1 ∧ Kp F h0 F' h ∧ St F' (Ow.box b_1 24 #[.int .i64 a_Root, va_Members, va_Services, .int .u8 a_Fan] :: Ow.own 3 1 encI v_1 l_1 :: Ow.own 3 1 encI (.slice (some ⟨b_3, 0, none⟩) 0 0) ([] : List Int) :: fr) h ∧ (SliceF F' h 1 encI va_Members a_Members) ∧ (SliceF F' h 1 encI va_Services a_Services) ∧ I_1 (l_1, i_1)) m_1 ([], 0) ⟨F, .slice (some ⟨b_2, 0, none⟩) 0 0, rfl, rfl, rfl, rfl, rfl, rfl, rfl, rfl, hK, hS, hLaM, hLaS, hI_1⟩ ?_
 rintro ⟨l_1, i_1⟩ f_1 h_4 ⟨F_1, v_1, e1, e2, e3, e4, e5, e6, e7, e8, hK, hS, hLaM, hLaS, hI0⟩
 obtain ⟨K_1, hKe_1⟩ : ∃ K : (List Int) → Int → Prop, K = fun l_1' i_1' => I_1 (l_1', i_1') ∧ m_1 (l_1', i_1') < m_1 (l_1, i_1) := ⟨_, rfl⟩
 have hM : law33_Ask_Own_l2 a_Root a_Members a_Services a_Fan Q K_1 l_1 i_1 := by rw [hKe_1]; exact hR_1 (l_1, i_1) hI0
 unfold law33_Ask_Own_l2 at hM
 refine HW.fr [(1, .pointer (some ⟨b_1, 0, none⟩)), (2, .int .i64 0), (3, .slice none 0 0), (4, .slice none 0 0), (5, .int .i64 0), (6, v_1), (7, .slice (some ⟨b_3, 0, none⟩) 0 0), (8, .int .i64 i_1)] ⟨e1, e2, e3, e4, e5, e6, e7, e8, trivial⟩ ?_
 refine HW.seq ?_
 refine HW.seq_mid (fun f h => ∃ (F' : Fz) (b_4 : Bool), f 1 = .pointer (some ⟨b_1, 0, none⟩) ∧ f 2 = .int .i64 0 ∧ f 3 = .slice none 0 0 ∧ f 4 = .slice none 0 0 ∧ f 5 = .int .i64 0 ∧ f 6 = v_1 ∧ f 7 = .slice (some ⟨b_3, 0, none⟩) 0 0 ∧ f 8 = .int .i64 i_1 ∧ f 20 = .bool b_4 ∧ Kp F h0 F' h ∧ St F' (Ow.box b_1 24 #[.int .i64 a_Root, va_Members, va_Services, .int .u8 a_Fan] :: Ow.own 3 1 encI v_1 l_1 :: Ow.own 3 1 encI (.slice (some ⟨b_3, 0, none⟩) 0 0) ([] : List Int) :: fr) h ∧ (SliceF F' h 1 encI va_Members a_Members) ∧ (SliceF F' h 1 encI va_Services a_Services) ∧ law33_Ask_Own_j1 a_Root a_Members a_Services a_Fan Q l_1 i_1 K_1 b_4) ?_ ?_
 ·
  refine HW.region ?_
  refine oM (.int .i64 i_1) rfl rfl ?_
  refine oV (.pointer (some ⟨b_1, 1, none⟩)) (qfA fa_24_1 rfl rfl) rfl ?_
  refine oV (va_Members) (q_load to_22 rfl (Blk.cell (hS.box 0 rfl) rfl)) rfl ?_
  refine oV (.int .i64 (a_Members.length : Int)) (q_len ts_22 (shp hLaM.is) rfl rfl) rfl ?_
  refine oV (.bool (decide (i_1 < (a_Members.length : Int)))) (q_lss rfl rfl) rfl ?_
  refine oM (.bool (decide (i_1 < (a_Members.length : Int)))) rfl rfl ?_
  rcases Bool.eq_false_or_eq_true (decide (i_1 < (a_Members.length : Int))) with c_1 | c_1
  ·
   replace hM := hM.1 (of_decide_eq_true c_1)
   refine HO.val (v := .int .i64 i_1) (wby rfl rfl c_1) rfl (q_move rfl) ?_
   refine HO.val (v := .bool (decide (i_1 < 20))) (wby rfl rfl c_1) rfl (q_lss rfl rfl) ?_
   refine oV (.bool (decide (i_1 < 20))) (q_pickK true rfl c_1 rfl) rfl ?_
   refine HO.nil (tqn (?_))
   exact ⟨F_1, decide (i_1 < 20), rfl, rfl, rfl, rfl, rfl, rfl, rfl, rfl, rfl, hK, hS, hLaM, hLaS, hM⟩
  ·
   replace hM := hM.2 (of_decide_eq_false c_1)
   refine HO.past (pby rfl rfl c_1) rfl ?_
   refine HO.past (pby rfl rfl c_1) rfl ?_
   refine oV (.bool false) (q_pickK false rfl c_1 rfl) rfl ?_
   refine HO.nil (tqn (?_))
   exact ⟨F_1, false, rfl, rfl, rfl, rfl, rfl, rfl, rfl, rfl, rfl, hK, hS, hLaM, hLaS, hM⟩
 ·
  rintro f_2 h_5 ⟨F_2, b_4, e1, e2, e3, e4, e5, e6, e7, e8, e20, hK, hS, hLaM, hLaS, hM⟩
  unfold law33_Ask_Own_j1 at hM
  refine HW.fr [(1, .pointer (some ⟨b_1, 0, none⟩)), (2, .int .i64 0), (3, .slice none 0 0), (4, .slice none 0 0), (5, .int .i64 0), (6, v_1), (7, .slice (some ⟨b_3, 0, none⟩) 0 0), (8, .int .i64 i_1), (20, .bool b_4)] ⟨e1, e2, e3, e4, e5, e6, e7, e8, e20, trivial⟩ ?_
  refine HW.cond b_4 rfl (fun c_2 => ?_) (fun c_2 => ?_)
  ·
   replace hM := hM.1 c_2
   refine HW.skip (tqn (?_))
   refine HW.seq ?_
   refine HW.block ?_
   refine HW.seq ?_
   refine HW.regionA 8 mixed (fun h => (SliceIs h 1 encI va_Members a_Members) ∧ (SliceIs h 1 encI va_Services a_Services) ∧ (Blk h b_1 (.cells #[.int .i64 a_Root, va_Members, va_Services, .int .u8 a_Fan] 24 (0, 0))) ∧ (OwnIs h 0 3 1 encI v_1 l_1) ∧ (OwnIs h 0 3 1 encI (.slice (some ⟨b_3, 0, none⟩) 0 0) ([] : List Int))) [] (by kernel_rfl) ?_
   refine HA.val (k := 0) (v := .pointer (some ⟨b_1, 1, none⟩)) rfl rfl (by kernel_rfl) (by kernel_rfl) (wn) rfl (fun _ ⟨hLaM, hLaS, c309, c310, c311⟩ => qfA fa_24_1 rfl rfl) ?_
   refine HA.val (k := 1) (v := va_Members) rfl rfl (by kernel_rfl) (by kernel_rfl) (wn) rfl (fun _ ⟨hLaM, hLaS, c309, c310, c311⟩ => q_load to_22 rfl (Blk.cell c309 rfl)) ?_
   refine HA.val (k := 2) (v := .int .i64 i_1) rfl rfl (by kernel_rfl) (by kernel_rfl) (wn) rfl (fun _ ⟨hLaM, hLaS, c309, c310, c311⟩ => q_move rfl) ?_
   obtain ⟨ho_1, hM⟩ := hM
   refine HA.val (k := 3) (v := elemPtr 1 va_Members (i_1).toNat) rfl rfl (by kernel_rfl) (by kernel_rfl) (wn) rfl (fun _ ⟨hLaM, hLaS, c309, c310, c311⟩ => q_idx ts_22 hLaM rfl rfl ho_1) ?_
   refine HA.val (k := 4) (v := .int .i64 (gi a_Members i_1)) rfl rfl (by kernel_rfl) (by kernel_rfl) (wn) rfl (fun _ ⟨hLaM, hLaS, c309, c310, c311⟩ => q_ldElem to_3 hLaM rfl ho_1 rfl) ?_
   refine HA.val (k := 5) (v := .pointer (some ⟨b_1, 0, none⟩)) rfl rfl (by kernel_rfl) (by kernel_rfl) (wn) rfl (fun _ ⟨hLaM, hLaS, c309, c310, c311⟩ => qfA fa_24_0 rfl rfl) ?_
   refine HA.val (k := 6) (v := .int .i64 a_Root) rfl rfl (by kernel_rfl) (by kernel_rfl) (wn) rfl (fun _ ⟨hLaM, hLaS, c309, c310, c311⟩ => q_load to_3 rfl (Blk.cell c309 rfl)) ?_
   refine HA.val (k := 7) (v := .bool (!decide ((gi a_Members i_1) = a_Root))) rfl rfl (by kernel_rfl) (by kernel_rfl) (wn) rfl (fun _ ⟨hLaM, hLaS, c309, c310, c311⟩ => q_neq rfl rfl) ?_
   refine HA.nil ⟨⟨hLaM.is, hLaS.is, (hS.box 0 rfl), (hS.own 1 rfl), (hS.own 2 rfl)⟩, (Go.Wk.at_nil _ _)⟩ (by kernel_rfl) (tqn (?_))
   refine HW.cond (!decide ((gi a_Members i_1) = a_Root)) rfl (fun c_3 => ?_) (fun c_3 => ?_)
   ·
    replace hM := hM.1 (nd_true c_3)
    refine HW.region ?_
    refine oM (v_1) rfl rfl ?_
    refine oV (.pointer (some ⟨b_1, 1, none⟩)) (qfA fa_24_1 rfl rfl) rfl ?_
    refine oV (va_Members) (q_load to_22 rfl (Blk.cell (hS.box 0 rfl) rfl)) rfl ?_
    refine oM (.int .i64 i_1) rfl rfl ?_
    refine oV (elemPtr 1 va_Members (i_1).toNat) (q_idx ts_22 hLaM.is rfl rfl ho_1) rfl ?_
    refine oV (.int .i64 (gi a_Members i_1)) (q_ldElem to_3 hLaM.is rfl ho_1 rfl) rfl ?_
    replace hS : St F_2 (Ow.own 3 1 encI v_1 l_1 :: Ow.box b_1 24 #[.int .i64 a_Root, va_Members, va_Services, .int .u8 a_Fan] :: Ow.own 3 1 encI (.slice (some ⟨b_3, 0, none⟩) 0 0) ([] : List Int) :: fr) h_5 := hS.perm2 [1, 0, 2] 3 rfl rfl
    refine HO.call (wn) rfl (ec en_17 rfl rfl) (ref32_Add_walk (fr := (Ow.box b_1 24 #[.int .i64 a_Root, va_Members, va_Services, .int .u8 a_Fan] :: Ow.own 3 1 encI (.slice (some ⟨b_3, 0, none⟩) 0 0) ([] : List Int) :: fr)) l_1 (gi a_Members i_1) v_1 hS hM) ?_
    rintro vr_1 h_6 ⟨F_3, r_1, _, rfl, hk, hS, hM⟩
    replace hK := hK.trans hk
    replace hLaM := hLaM.kp hk
    replace hLaS := hLaS.kp hk
    refine oA (vr_1) rfl rfl ?_
    refine HO.nil (blockQ_normal (tqn (?_)))
    refine HW.region ?_
    refine oM (.int .i64 i_1) rfl rfl ?_
    obtain ⟨ho_2, hM⟩ := hM
    refine oV (.int .i64 (i_1 + 1)) (q_addN _ rfl rfl rfl ho_2.1 ho_2.2) rfl ?_
    refine oA (.int .i64 (i_1 + 1)) rfl rfl ?_
    refine HO.nil (tqn (?_))
    replace hS : St F_3 (Ow.box b_1 24 #[.int .i64 a_Root, va_Members, va_Services, .int .u8 a_Fan] :: Ow.own 3 1 encI vr_1 r_1 :: Ow.own 3 1 encI (.slice (some ⟨b_3, 0, none⟩) 0 0) ([] : List Int) :: fr) h_6 := hS.perm2 [1, 0, 2] 3 rfl rfl
    rw [hKe_1] at hM
    exact ⟨(r_1, i_1 + 1), ⟨F_3, vr_1, rfl, rfl, rfl, rfl, rfl, rfl, rfl, rfl, hK, hS, hLaM, hLaS, hM.1⟩, hM.2⟩
   ·
    replace hM := hM.2 (nd_false c_3)
    refine HW.skip (blockQ_normal (tqn (?_)))
    refine HW.region ?_
    refine oM (.int .i64 i_1) rfl rfl ?_
    obtain ⟨ho_3, hM⟩ := hM
    refine oV (.int .i64 (i_1 + 1)) (q_addN _ rfl rfl rfl ho_3.1 ho_3.2) rfl ?_
    refine oA (.int .i64 (i_1 + 1)) rfl rfl ?_
    refine HO.nil (tqn (?_))
    rw [hKe_1] at hM
    exact ⟨(l_1, i_1 + 1), ⟨F_2, v_1, rfl, rfl, rfl, rfl, rfl, rfl, rfl, rfl, hK, hS, hLaM, hLaS, hM.1⟩, hM.2⟩
  ·
   replace hM := hM.2 c_2
   refine HW.exit (thenQ_exit (thenQ_exit (blockQ_exit (tqn (?_)))))
   refine HW.seq ?_
   refine HW.seq ?_
   refine HW.region ?_
   refine oA (.int .i64 0) rfl rfl ?_
   refine HO.nil (tqn (?_))
   refine HW.block ?_
   obtain ⟨I_2, m_2, hI_2, hR_2⟩ := hM
   refine HW.loop (S := List Int × Int) (fun s f h => match s with | (l_3, i_2) => ∃ (F' : Fz) (v_2 : Value), f 1 = .pointer (some ⟨b_1, 0, none⟩) ∧ f 2 = .int .i64 0 ∧ f 3 = .slice none 0 0 ∧ f 4 = .slice none 0 0 ∧ f 5 = .int .i64 0 ∧ f 6 = v_1 ∧ f 7 = v_2 ∧ f 9 = .int .i64 i_2 ∧ Kp F h0 F' h ∧ St F' (Ow.box b_1 24 #[.int .i64 a_Root, va_Members, va_Services, .int .u8 a_Fan] :: Ow.own 3 1 encI v_1 l_1 :: Ow.own 3 1 encI v_2 l_3 :: fr) h ∧ (SliceF F' h 1 encI va_Members a_Members) ∧ (SliceF F' h 1 encI va_Services a_Services) ∧ I_2 (l_3, i_2)) m_2 ([], 0) ⟨F_2, .slice (some ⟨b_3, 0, none⟩) 0 0, rfl, rfl, rfl, rfl, rfl, rfl, rfl, rfl, hK, hS, hLaM, hLaS, hI_2⟩ ?_
   rintro ⟨l_3, i_2⟩ f_3 h_7 ⟨F_4, v_2, e1, e2, e3, e4, e5, e6, e7, e9, hK, hS, hLaM, hLaS, hI0⟩
   obtain ⟨K_2, hKe_2⟩ : ∃ K : (List Int) → Int → Prop, K = fun l_3' i_2' => I_2 (l_3', i_2') ∧ m_2 (l_3', i_2') < m_2 (l_3, i_2) := ⟨_, rfl⟩
   have hM : law33_Ask_Own_l4 a_Root a_Services a_Fan Q l_1 K_2 l_3 i_2 := by rw [hKe_2]; exact hR_2 (l_3, i_2) hI0
   unfold law33_Ask_Own_l4 at hM
   refine HW.fr [(1, .pointer (some ⟨b_1, 0, none⟩)), (2, .int .i64 0), (3, .slice none 0 0), (4, .slice none 0 0), (5, .int .i64 0), (6, v_1), (7, v_2), (9, .int .i64 i_2)] ⟨e1, e2, e3, e4, e5, e6, e7, e9, trivial⟩ ?_
   refine HW.seq ?_
   refine HW.seq_mid (fun f h => ∃ (F' : Fz) (b_5 : Bool), f 1 = .pointer (some ⟨b_1, 0, none⟩) ∧ f 2 = .int .i64 0 ∧ f 3 = .slice none 0 0 ∧ f 4 = .slice none 0 0 ∧ f 5 = .int .i64 0 ∧ f 6 = v_1 ∧ f 7 = v_2 ∧ f 9 = .int .i64 i_2 ∧ f 46 = .bool b_5 ∧ Kp F h0 F' h ∧ St F' (Ow.box b_1 24 #[.int .i64 a_Root, va_Members, va_Services, .int .u8 a_Fan] :: Ow.own 3 1 encI v_1 l_1 :: Ow.own 3 1 encI v_2 l_3 :: fr) h ∧ (SliceF F' h 1 encI va_Members a_Members) ∧ (SliceF F' h 1 encI va_Services a_Services) ∧ law33_Ask_Own_j2 a_Root a_Services a_Fan Q l_1 l_3 i_2 K_2 b_5) ?_ ?_
   ·
    refine HW.region ?_
    refine oM (.int .i64 i_2) rfl rfl ?_
    refine oV (.pointer (some ⟨b_1, 2, none⟩)) (qfA fa_24_2 rfl rfl) rfl ?_
    refine oV (va_Services) (q_load to_22 rfl (Blk.cell (hS.box 0 rfl) rfl)) rfl ?_
    refine oV (.int .i64 (a_Services.length : Int)) (q_len ts_22 (shp hLaS.is) rfl rfl) rfl ?_
    refine oV (.bool (decide (i_2 < (a_Services.length : Int)))) (q_lss rfl rfl) rfl ?_
    refine oM (.bool (decide (i_2 < (a_Services.length : Int)))) rfl rfl ?_
    rcases Bool.eq_false_or_eq_true (decide (i_2 < (a_Services.length : Int))) with c_4 | c_4
    ·
     replace hM := hM.1 (of_decide_eq_true c_4)
     refine HO.val (v := .int .i64 i_2) (wby rfl rfl c_4) rfl (q_move rfl) ?_
     refine HO.val (v := .bool (decide (i_2 < 12))) (wby rfl rfl c_4) rfl (q_lss rfl rfl) ?_
     refine oV (.bool (decide (i_2 < 12))) (q_pickK true rfl c_4 rfl) rfl ?_
     refine HO.nil (tqn (?_))
     exact ⟨F_4, decide (i_2 < 12), rfl, rfl, rfl, rfl, rfl, rfl, rfl, rfl, rfl, hK, hS, hLaM, hLaS, hM⟩
    ·
     replace hM := hM.2 (of_decide_eq_false c_4)
     refine HO.past (pby rfl rfl c_4) rfl ?_
     refine HO.past (pby rfl rfl c_4) rfl ?_
     refine oV (.bool false) (q_pickK false rfl c_4 rfl) rfl ?_
     refine HO.nil (tqn (?_))
     exact ⟨F_4, false, rfl, rfl, rfl, rfl, rfl, rfl, rfl, rfl, rfl, hK, hS, hLaM, hLaS, hM⟩
   ·
    rintro f_4 h_8 ⟨F_5, b_5, e1, e2, e3, e4, e5, e6, e7, e9, e46, hK, hS, hLaM, hLaS, hM⟩
    unfold law33_Ask_Own_j2 at hM
    refine HW.fr [(1, .pointer (some ⟨b_1, 0, none⟩)), (2, .int .i64 0), (3, .slice none 0 0), (4, .slice none 0 0), (5, .int .i64 0), (6, v_1), (7, v_2), (9, .int .i64 i_2), (46, .bool b_5)] ⟨e1, e2, e3, e4, e5, e6, e7, e9, e46, trivial⟩ ?_
    refine HW.cond b_5 rfl (fun c_5 => ?_) (fun c_5 => ?_)
    ·
     replace hM := hM.1 c_5
     refine HW.skip (tqn (?_))
     refine HW.seq ?_
     refine HW.block ?_
     refine HW.seq_mid (fun f h => ∃ (F' : Fz) (b_6 : Bool), f 1 = .pointer (some ⟨b_1, 0, none⟩) ∧ f 2 = .int .i64 0 ∧ f 3 = .slice none 0 0 ∧ f 4 = .slice none 0 0 ∧ f 5 = .int .i64 0 ∧ f 6 = v_1 ∧ f 7 = v_2 ∧ f 9 = .int .i64 i_2 ∧ f 66 = .bool b_6 ∧ Kp F h0 F' h ∧ St F' (Ow.box b_1 24 #[.int .i64 a_Root, va_Members, va_Services, .int .u8 a_Fan] :: Ow.own 3 1 encI v_1 l_1 :: Ow.own 3 1 encI v_2 l_3 :: fr) h ∧ (SliceF F' h 1 encI va_Members a_Members) ∧ (SliceF F' h 1 encI va_Services a_Services) ∧ law33_Ask_Own_j3 a_Services l_3 i_2 K_2 b_6) ?_ ?_
     ·
      refine HW.regionA 18 mixed (fun h => (SliceIs h 1 encI va_Services a_Services) ∧ (Blk h b_1 (.cells #[.int .i64 a_Root, va_Members, va_Services, .int .u8 a_Fan] 24 (0, 0)))) [] (by kernel_rfl) ?_
      refine HA.val (k := 0) (v := .pointer (some ⟨b_1, 2, none⟩)) rfl rfl (by kernel_rfl) (by kernel_rfl) (wn) rfl (fun _ ⟨hLaS, c415⟩ => qfA fa_24_2 rfl rfl) ?_
      refine HA.val (k := 1) (v := va_Services) rfl rfl (by kernel_rfl) (by kernel_rfl) (wn) rfl (fun _ ⟨hLaS, c415⟩ => q_load to_22 rfl (Blk.cell c415 rfl)) ?_
      refine HA.val (k := 2) (v := .int .i64 i_2) rfl rfl (by kernel_rfl) (by kernel_rfl) (wn) rfl (fun _ ⟨hLaS, c415⟩ => q_move rfl) ?_
      obtain ⟨ho_4, hM⟩ := hM
      refine HA.val (k := 3) (v := elemPtr 1 va_Services (i_2).toNat) rfl rfl (by kernel_rfl) (by kernel_rfl) (wn) rfl (fun _ ⟨hLaS, c415⟩ => q_idx ts_22 hLaS rfl rfl ho_4) ?_
      refine HA.val (k := 4) (v := .int .i64 (gi a_Services i_2)) rfl rfl (by kernel_rfl) (by kernel_rfl) (wn) rfl (fun _ ⟨hLaS, c415⟩ => q_ldElem to_3 hLaS rfl ho_4 rfl) ?_
      refine HA.val (k := 5) (v := .pointer (some ⟨b_1, 0, none⟩)) rfl rfl (by kernel_rfl) (by kernel_rfl) (wn) rfl (fun _ ⟨hLaS, c415⟩ => qfA fa_24_0 rfl rfl) ?_
      refine HA.val (k := 6) (v := .int .i64 a_Root) rfl rfl (by kernel_rfl) (by kernel_rfl) (wn) rfl (fun _ ⟨hLaS, c415⟩ => q_load to_3 rfl (Blk.cell c415 rfl)) ?_
      refine HA.val (k := 7) (v := .bool (!decide ((gi a_Services i_2) = a_Root))) rfl rfl (by kernel_rfl) (by kernel_rfl) (wn) rfl (fun _ ⟨hLaS, c415⟩ => q_neq rfl rfl) ?_
      refine HA.val (k := 8) (v := .bool (!decide ((gi a_Services i_2) = a_Root))) rfl rfl (by kernel_rfl) (by kernel_rfl) (wn) rfl (fun _ ⟨hLaS, c415⟩ => q_move rfl) ?_
      rcases Bool.eq_false_or_eq_true (!decide ((gi a_Services i_2) = a_Root)) with c_6 | c_6
      ·
       replace hM := hM.1 (nd_true c_6)
       refine HA.val (k := 9) (v := v_1) rfl rfl (by kernel_rfl) (by kernel_rfl) (wby rfl rfl c_6) rfl (fun _ ⟨hLaS, c415⟩ => q_move rfl) ?_
       refine HA.val (k := 10) (v := .pointer (some ⟨b_1, 2, none⟩)) rfl rfl (by kernel_rfl) (by kernel_rfl) (wby rfl rfl c_6) rfl (fun _ ⟨hLaS, c415⟩ => qfA fa_24_2 rfl rfl) ?_
       refine HA.val (k := 11) (v := va_Services) rfl rfl (by kernel_rfl) (by kernel_rfl) (wby rfl rfl c_6) rfl (fun _ ⟨hLaS, c415⟩ => q_load to_22 rfl (Blk.cell c415 rfl)) ?_
       refine HA.val (k := 12) (v := .int .i64 i_2) rfl rfl (by kernel_rfl) (by kernel_rfl) (wby rfl rfl c_6) rfl (fun _ ⟨hLaS, c415⟩ => q_move rfl) ?_
       refine HA.val (k := 13) (v := elemPtr 1 va_Services (i_2).toNat) rfl rfl (by kernel_rfl) (by kernel_rfl) (wby rfl rfl c_6) rfl (fun _ ⟨hLaS, c415⟩ => q_idx ts_22 hLaS rfl rfl ho_4) ?_
       refine HA.val (k := 14) (v := .int .i64 (gi a_Services i_2)) rfl rfl (by kernel_rfl) (by kernel_rfl) (wby rfl rfl c_6) rfl (fun _ ⟨hLaS, c415⟩ => q_ldElem to_3 hLaS rfl ho_4 rfl) ?_
       refine HA.one (k := 15) ⟨⟨hLaS.is, (hS.box 0 rfl)⟩, (Go.Wk.at_nil _ _)⟩ (by kernel_rfl) ?_
       replace hS : St F_5 (Ow.own 3 1 encI v_1 l_1 :: Ow.box b_1 24 #[.int .i64 a_Root, va_Members, va_Services, .int .u8 a_Fan] :: Ow.own 3 1 encI v_2 l_3 :: fr) h_8 := hS.perm2 [1, 0, 2] 3 rfl rfl
       have hZ_1 := hS
       have hkz_1 := (hS.freeze).2
       replace hS := hS.freeze.1
       have hL_1 : SliceF (fun bz_ => F_5 bz_ ∨ (Ow.own 3 1 encI v_1 l_1).foot bz_) h_8 1 encI v_1 l_1 := ⟨(hZ_1.own 0 rfl).slice, fun _ b hb => .inr hb⟩
       refine HS.call rfl (wby rfl rfl c_6) rfl (ec en_8 rfl rfl) (ref32_Has_walk (fr := (Ow.box b_1 24 #[.int .i64 a_Root, va_Members, va_Services, .int .u8 a_Fan] :: Ow.own 3 1 encI v_2 l_3 :: fr)) l_1 (gi a_Services i_2) v_1 hS hL_1 hM) ?_
       rintro _ h_9 ⟨F_6, r_2, rfl, hk, hS, _, hM⟩
       obtain ⟨hS, hk⟩ := hZ_1.back hk hS
       generalize (fun bz_ => F_6 bz_ ∧ ¬ (Ow.own 3 1 encI v_1 l_1).foot bz_) = F_7 at hS hk
       replace hK := hK.trans hk
       replace hLaM := hLaM.kp hk
       replace hLaS := hLaS.kp hk
       refine HA.val (k := 16) (v := .bool (!r_2)) rfl rfl (by kernel_rfl) (by kernel_rfl) (wby rfl rfl c_6) rfl (fun _ ⟨hLaS, c415⟩ => q_not rfl) ?_
       refine HA.val (k := 17) (v := .bool (!r_2)) rfl rfl (by kernel_rfl) (by kernel_rfl) (wn) rfl (fun _ ⟨hLaS, c415⟩ => q_pickK true rfl c_6 rfl) ?_
       refine HA.nil ⟨⟨hLaS.is, (hS.box 1 rfl)⟩, (Go.Wk.at_nil _ _)⟩ (by kernel_rfl) (tqn (?_))
       replace hS : St F_7 (Ow.box b_1 24 #[.int .i64 a_Root, va_Members, va_Services, .int .u8 a_Fan] :: Ow.own 3 1 encI v_1 l_1 :: Ow.own 3 1 encI v_2 l_3 :: fr) h_9 := hS.perm2 [1, 0, 2] 3 rfl rfl
       exact ⟨F_7, !r_2, rfl, rfl, rfl, rfl, rfl, rfl, rfl, rfl, rfl, hK, hS, hLaM, hLaS, hM⟩
      ·
       replace hM := hM.2 (nd_false c_6)
       refine HA.past (k := 9) rfl rfl (by kernel_rfl) (by kernel_rfl) (pby rfl rfl c_6) rfl ?_
       refine HA.past (k := 10) rfl rfl (by kernel_rfl) (by kernel_rfl) (pby rfl rfl c_6) rfl ?_
       refine HA.past (k := 11) rfl rfl (by kernel_rfl) (by kernel_rfl) (pby rfl rfl c_6) rfl ?_
       refine HA.past (k := 12) rfl rfl (by kernel_rfl) (by kernel_rfl) (pby rfl rfl c_6) rfl ?_
       refine HA.past (k := 13) rfl rfl (by kernel_rfl) (by kernel_rfl) (pby rfl rfl c_6) rfl ?_
       refine HA.past (k := 14) rfl rfl (by kernel_rfl) (by kernel_rfl) (pby rfl rfl c_6) rfl ?_
       refine HA.one (k := 15) ⟨⟨hLaS.is, (hS.box 0 rfl)⟩, (Go.Wk.at_nil _ _)⟩ (by kernel_rfl) ?_
       refine HS.past rfl (pby rfl rfl c_6) rfl ?_
       refine HA.past (k := 16) rfl rfl (by kernel_rfl) (by kernel_rfl) (pby rfl rfl c_6) rfl ?_
       refine HA.val (k := 17) (v := .bool false) rfl rfl (by kernel_rfl) (by kernel_rfl) (wn) rfl (fun _ ⟨hLaS, c415⟩ => q_pickK false rfl c_6 rfl) ?_
       refine HA.nil ⟨⟨hLaS.is, (hS.box 0 rfl)⟩, (Go.Wk.at_nil _ _)⟩ (by kernel_rfl) (tqn (?_))
       exact ⟨F_5, false, rfl, rfl, rfl, rfl, rfl, rfl, rfl, rfl, rfl, hK, hS, hLaM, hLaS, hM⟩
     ·
      rintro f_5 h_10 ⟨F_8, b_6, e1, e2, e3, e4, e5, e6, e7, e9, e66, hK, hS, hLaM, hLaS, hM⟩
      unfold law33_Ask_Own_j3 at hM
      refine HW.fr [(1, .pointer (some ⟨b_1, 0, none⟩)), (2, .int .i64 0), (3, .slice none 0 0), (4, .slice none 0 0), (5, .int .i64 0), (6, v_1), (7, v_2), (9, .int .i64 i_2), (66, .bool b_6)] ⟨e1, e2, e3, e4, e5, e6, e7, e9, e66, trivial⟩ ?_
      refine HW.cond b_6 rfl (fun c_7 => ?_) (fun c_7 => ?_)
      ·
       replace hM := hM.1 c_7
       refine HW.region ?_
       refine oM (v_2) rfl rfl ?_
       refine oV (.pointer (some ⟨b_1, 2, none⟩)) (qfA fa_24_2 rfl rfl) rfl ?_
       refine oV (va_Services) (q_load to_22 rfl (Blk.cell (hS.box 0 rfl) rfl)) rfl ?_
       refine oM (.int .i64 i_2) rfl rfl ?_
       obtain ⟨ho_5, hM⟩ := hM
       refine oV (elemPtr 1 va_Services (i_2).toNat) (q_idx ts_22 hLaS.is rfl rfl ho_5) rfl ?_
       refine oV (.int .i64 (gi a_Services i_2)) (q_ldElem to_3 hLaS.is rfl ho_5 rfl) rfl ?_
       replace hS : St F_8 (Ow.own 3 1 encI v_2 l_3 :: Ow.box b_1 24 #[.int .i64 a_Root, va_Members, va_Services, .int .u8 a_Fan] :: Ow.own 3 1 encI v_1 l_1 :: fr) h_10 := hS.perm2 [2, 0, 1] 3 rfl rfl
       refine HO.call (wn) rfl (ec en_17 rfl rfl) (ref32_Add_walk (fr := (Ow.box b_1 24 #[.int .i64 a_Root, va_Members, va_Services, .int .u8 a_Fan] :: Ow.own 3 1 encI v_1 l_1 :: fr)) l_3 (gi a_Services i_2) v_2 hS hM) ?_
       rintro vr_2 h_11 ⟨F_9, r_3, _, rfl, hk, hS, hM⟩
       replace hK := hK.trans hk
       replace hLaM := hLaM.kp hk
       replace hLaS := hLaS.kp hk
       refine oA (vr_2) rfl rfl ?_
       refine HO.nil (blockQ_normal (tqn (?_)))
       refine HW.region ?_
       refine oM (.int .i64 i_2) rfl rfl ?_
       obtain ⟨ho_6, hM⟩ := hM
       refine oV (.int .i64 (i_2 + 1)) (q_addN _ rfl rfl rfl ho_6.1 ho_6.2) rfl ?_
       refine oA (.int .i64 (i_2 + 1)) rfl rfl ?_
       refine HO.nil (tqn (?_))
       replace hS : St F_9 (Ow.box b_1 24 #[.int .i64 a_Root, va_Members, va_Services, .int .u8 a_Fan] :: Ow.own 3 1 encI v_1 l_1 :: Ow.own 3 1 encI vr_2 r_3 :: fr) h_11 := hS.perm2 [1, 2, 0] 3 rfl rfl
       rw [hKe_2] at hM
       exact ⟨(r_3, i_2 + 1), ⟨F_9, vr_2, rfl, rfl, rfl, rfl, rfl, rfl, rfl, rfl, hK, hS, hLaM, hLaS, hM.1⟩, hM.2⟩
      ·
       replace hM := hM.2 c_7
       refine HW.skip (blockQ_normal (tqn (?_)))
       refine HW.region ?_
       refine oM (.int .i64 i_2) rfl rfl ?_
       obtain ⟨ho_7, hM⟩ := hM
       refine oV (.int .i64 (i_2 + 1)) (q_addN _ rfl rfl rfl ho_7.1 ho_7.2) rfl ?_
       refine oA (.int .i64 (i_2 + 1)) rfl rfl ?_
       refine HO.nil (tqn (?_))
       rw [hKe_2] at hM
       exact ⟨(l_3, i_2 + 1), ⟨F_8, v_2, rfl, rfl, rfl, rfl, rfl, rfl, rfl, rfl, hK, hS, hLaM, hLaS, hM.1⟩, hM.2⟩
    ·
     replace hM := hM.2 c_5
     refine HW.exit (thenQ_exit (thenQ_exit (blockQ_exit (tqn (?_)))))
     refine HW.seq ?_
     refine HW.regionA 13 mixed (fun h => (SliceIs h 1 encI va_Members a_Members) ∧ (SliceIs h 1 encI va_Services a_Services) ∧ (Blk h b_1 (.cells #[.int .i64 a_Root, va_Members, va_Services, .int .u8 a_Fan] 24 (0, 0))) ∧ (OwnIs h 0 3 1 encI v_1 l_1) ∧ (OwnIs h 0 3 1 encI v_2 l_3)) [] (by kernel_rfl) ?_
     refine HA.val (k := 0) (v := .pointer (some ⟨b_1, 0, none⟩)) rfl rfl (by kernel_rfl) (by kernel_rfl) (wn) rfl (fun _ ⟨hLaM, hLaS, c415, c416, c417⟩ => qfA fa_24_0 rfl rfl) ?_
     refine HA.val (k := 1) (v := .int .i64 a_Root) rfl rfl (by kernel_rfl) (by kernel_rfl) (wn) rfl (fun _ ⟨hLaM, hLaS, c415, c416, c417⟩ => q_load to_3 rfl (Blk.cell c415 rfl)) ?_
     refine HA.val (k := 2) (v := v_1) rfl rfl (by kernel_rfl) (by kernel_rfl) (wn) rfl (fun _ ⟨hLaM, hLaS, c415, c416, c417⟩ => q_move rfl) ?_
     refine HA.val (k := 3) (v := v_2) rfl rfl (by kernel_rfl) (by kernel_rfl) (wn) rfl (fun _ ⟨hLaM, hLaS, c415, c416, c417⟩ => q_move rfl) ?_
     refine HA.val (k := 4) (v := .pointer (some ⟨b_1, 3, none⟩)) rfl rfl (by kernel_rfl) (by kernel_rfl) (wn) rfl (fun _ ⟨hLaM, hLaS, c415, c416, c417⟩ => qfA fa_24_3 rfl rfl) ?_
     refine HA.val (k := 5) (v := .int .u8 a_Fan) rfl rfl (by kernel_rfl) (by kernel_rfl) (wn) rfl (fun _ ⟨hLaM, hLaS, c415, c416, c417⟩ => q_load to_5 rfl (Blk.cell c415 rfl)) ?_
     obtain ⟨ho_8, hM⟩ := hM
     refine HA.val (k := 6) (v := .int .u8 ((u8w (a_Fan.tmod 64)).toNat : Int)) rfl rfl (by kernel_rfl) (by kernel_rfl) (wn) rfl (fun _ ⟨hLaM, hLaS, c415, c416, c417⟩ => (q_rem rfl rfl (by decide)).of_eq (u8r_v ho_8)) ?_
     obtain ⟨ho_9, hM⟩ := hM
     refine HA.val (k := 7) (v := .int .i64 ((u8w (a_Fan.tmod 64)).toNat : Int)) rfl rfl (by kernel_rfl) (by kernel_rfl) (wn) rfl (fun _ ⟨hLaM, hLaS, c415, c416, c417⟩ => q_convInt Tryz.underlying5 Tryz.underlying3 rfl (wrap_i64 ho_9.1 ho_9.2)) ?_
     obtain ⟨ho_10, hM⟩ := hM
     refine HA.val (k := 8) (v := .int .i64 (1 + ((u8w (a_Fan.tmod 64)).toNat : Int))) rfl rfl (by kernel_rfl) (by kernel_rfl) (wn) rfl (fun _ ⟨hLaM, hLaS, c415, c416, c417⟩ => q_addN _ rfl rfl rfl ho_10.1 ho_10.2) ?_
     refine HA.val (k := 9) (v := .int .i64 a_Root) rfl rfl (by kernel_rfl) (by kernel_rfl) (wn) rfl (fun _ ⟨hLaM, hLaS, c415, c416, c417⟩ => q_assign rfl) ?_
     refine HA.val (k := 10) (v := v_1) rfl rfl (by kernel_rfl) (by kernel_rfl) (wn) rfl (fun _ ⟨hLaM, hLaS, c415, c416, c417⟩ => q_assign rfl) ?_
     refine HA.val (k := 11) (v := v_2) rfl rfl (by kernel_rfl) (by kernel_rfl) (wn) rfl (fun _ ⟨hLaM, hLaS, c415, c416, c417⟩ => q_assign rfl) ?_
     refine HA.val (k := 12) (v := .int .i64 (1 + ((u8w (a_Fan.tmod 64)).toNat : Int))) rfl rfl (by kernel_rfl) (by kernel_rfl) (wn) rfl (fun _ ⟨hLaM, hLaS, c415, c416, c417⟩ => q_assign rfl) ?_
     refine HA.nil ⟨⟨hLaM.is, hLaS.is, (hS.box 0 rfl), (hS.own 1 rfl), (hS.own 2 rfl)⟩, (Go.Wk.at_nil _ _)⟩ (by kernel_rfl) (tqn (?_))
     refine HW.ret (?_)
     refine ⟨.inr rfl, .tuple #[.int .i64 a_Root, v_1, v_2, .int .i64 (1 + ((u8w (a_Fan.tmod 64)).toNat : Int))], res4 rfl (rt rfl) (rt rfl) (rt rfl) (rt rfl), ?_⟩
     replace hS : St F_5 (Ow.own 3 1 encI v_1 l_1 :: Ow.own 3 1 encI v_2 l_3 :: fr) h_8 := hS.perm2 [1, 2] 3 rfl rfl
     exact ⟨F_5, a_Root, l_1, l_3, 1 + ((u8w (a_Fan.tmod 64)).toNat : Int), v_1, v_2, rfl, hK, hS, hLaM, hLaS, hM⟩
def ref32_Good_l2 (tL : List TB) (Q : Bool → Prop) (i_1 : Int) (K_1 : Int → Prop) (K_2 : Int → Prop) (k_1 : Int) : Prop :=
 (k_1 < i_1 → ((0 : Int) ≤ k_1 ∧ k_1 < (tL.length : Int)) ∧ (((0 : Int) ≤ i_1 ∧ i_1 < (tL.length : Int)) ∧ ((((gi tL k_1).2) = ((gi tL i_1).2) → Q false) ∧ (¬ (((gi tL k_1).2) = ((gi tL i_1).2)) → (I64 (k_1 + 1)) ∧ (K_2 (k_1 + 1)))))) ∧ (¬ (k_1 < i_1) → (I64 (i_1 + 1)) ∧ (K_1 (i_1 + 1)))
def ref32_Good_j1 (tL : List TB) (Q : Bool → Prop) (i_1 : Int) (K_1 : Int → Prop) : Prop :=
 loopW (fun (K_2 : Int → Prop) (s : Int) => ref32_Good_l2 tL Q i_1 K_1 K_2 s) 0
def ref32_Good_l1 (tR : Int) (tL : List TB) (Q : Bool → Prop) (K_1 : Int → Prop) (i_1 : Int) : Prop :=
 (i_1 < (tL.length : Int) → ((0 : Int) ≤ i_1 ∧ i_1 < (tL.length : Int)) ∧ ((((gi tL i_1).2) = tR → Q false) ∧ (¬ (((gi tL i_1).2) = tR) → (0 < i_1 → (I64 (i_1 - 1)) ∧ (((0 : Int) ≤ i_1 - 1 ∧ i_1 - 1 < (tL.length : Int)) ∧ (ref32_less_W (gi tL (i_1 - 1)) (gi tL i_1) (fun r_2 => ((!r_2) = true → Q false) ∧ ((!r_2) = false → ref32_Good_j1 tL Q i_1 K_1))))) ∧ (¬ (0 < i_1) → ref32_Good_j1 tL Q i_1 K_1)))) ∧ (¬ (i_1 < (tL.length : Int)) → ((tL.length : Int) < 256 → (I64 ((tL.length : Int) + 1)) ∧ (ref32_Below_W tR tL tR (fun r_3 => Q (decide ((r_3.length : Int) = ((tL.length : Int) + 1)))))) ∧ (¬ ((tL.length : Int) < 256) → Q false))
def ref32_Good_W (tR : Int) (tL : List TB) (Q : Bool → Prop) : Prop :=
 loopW (fun (K_1 : Int → Prop) (s : Int) => ref32_Good_l1 tR tL Q K_1 s) 0
theorem ref32_Good_walk {F : Fz} {fr : List Ow} {h0 : Heap} (tR : Int) (tL : List TB) (vT : Value) (hS : St F (fr) h0) (hLT : SliceF F h0 2 eB vT tL) {Q : Bool → Prop} (hM : ref32_Good_W tR tL Q) :
  HC Tryz.prog 38 #[.agg #[.int .i64 tR, vT]] h0 fun u h' => ∃ (F' : Fz) (r_1 : Bool), u = .bool r_1 ∧ Kp F h0 F' h' ∧ St F' (fr) h' ∧ (SliceF F' h' 2 eB vT tL) ∧ Q r_1 := by
 unfold ref32_Good_W at hM
 have hK := Kp.refl F h0
 refine HC.of_HW (n := 74) Tryz.func38 rfl rfl (Nat.le_of_ble_eq_true rfl) ?_
 refine HW.seq ?_
 refine HW.region ?_
 refine HO.eff (wn) rfl (st_box (c := #[.int .i64 tR, vT]) (k' := 2) hS rfl rfl) ?_
 rintro _ h_1 ⟨b_1, rfl, hS, hk⟩
 replace hK := hK.trans hk
 replace hLT := hLT.kp hk
 refine oA (.bool false) rfl rfl ?_
 refine HO.nil (tqn (?_))
 refine HW.seq ?_
 refine HW.seq ?_
 refine HW.region ?_
 refine oA (.int .i64 0) rfl rfl ?_
 refine HO.nil (tqn (?_))
 refine HW.block ?_
 obtain ⟨I_1, m_1, hI_1, hR_1⟩ := hM
 refine HW.loop (S := Int) (fun i_1 f h => ∃ (F' : Fz), f 1 = .pointer (some ⟨b_1, 0, none⟩) ∧ f 2 = .bool false ∧ f 3 = .int .i64 i_1 ∧ Kp F h0 F' h ∧ St F' (Ow.box b_1 31 #[.int .i64 tR, vT] :: fr) h ∧ (SliceF F' h 2 eB vT tL) ∧ I_1 i_1) m_1 0 ⟨F, rfl, rfl, rfl, hK, hS, hLT, hI_1⟩ ?_
 rintro i_1 f_1 h_2 ⟨F_1, e1, e2, e3, hK, hS, hLT, hI0⟩
 obtain ⟨K_1, hKe_1⟩ : ∃ K : Int → Prop, K = fun i_1' => I_1 i_1' ∧ m_1 i_1' < m_1 i_1 := ⟨_, rfl⟩
 have hM : ref32_Good_l1 tR tL Q K_1 i_1 := by rw [hKe_1]; exact hR_1 i_1 hI0
 unfold ref32_Good_l1 at hM
 refine HW.fr [(1, .pointer (some ⟨b_1, 0, none⟩)), (2, .bool false), (3, .int .i64 i_1)] ⟨e1, e2, e3, trivial⟩ ?_
 refine HW.seq ?_
 refine HW.seq ?_
 refine HW.region ?_
 refine oM (.int .i64 i_1) rfl rfl ?_
 refine oV (.pointer (some ⟨b_1, 1, none⟩)) (qfA fa_31_1 rfl rfl) rfl ?_
 refine oV (vT) (q_load to_29 rfl (Blk.cell (hS.box 0 rfl) rfl)) rfl ?_
 refine oV (.int .i64 (tL.length : Int)) (q_len ts_29 (shp hLT.is) rfl rfl) rfl ?_
 refine oV (.bool (decide (i_1 < (tL.length : Int)))) (q_lss rfl rfl) rfl ?_
 refine HO.nil (tqn (?_))
 refine HW.cond (decide (i_1 < (tL.length : Int))) rfl (fun c_1 => ?_) (fun c_1 => ?_)
 ·
  replace hM := hM.1 (of_decide_eq_true c_1)
  refine HW.skip (tqn (?_))
  refine HW.seq ?_
  refine HW.block ?_
  refine HW.seq_mid (fun f h => ∃ (F' : Fz), f 1 = .pointer (some ⟨b_1, 0, none⟩) ∧ f 2 = .bool false ∧ f 3 = .int .i64 i_1 ∧ Kp F h0 F' h ∧ St F' (Ow.box b_1 31 #[.int .i64 tR, vT] :: fr) h ∧ (SliceF F' h 2 eB vT tL) ∧ ref32_Good_j1 tL Q i_1 K_1) ?_ ?_
  ·
   refine HW.seq ?_
   refine HW.regionA 28 mixed (fun h => (SliceIs h 2 eB vT tL) ∧ (Blk h b_1 (.cells #[.int .i64 tR, vT] 31 (0, 0)))) [] (by kernel_rfl) ?_
   refine HA.val (k := 0) (v := .pointer (some ⟨b_1, 1, none⟩)) rfl rfl (by kernel_rfl) (by kernel_rfl) (wn) rfl (fun _ ⟨hLT, c302⟩ => qfA fa_31_1 rfl rfl) ?_
   refine HA.val (k := 1) (v := vT) rfl rfl (by kernel_rfl) (by kernel_rfl) (wn) rfl (fun _ ⟨hLT, c302⟩ => q_load to_29 rfl (Blk.cell c302 rfl)) ?_
   refine HA.val (k := 2) (v := .int .i64 i_1) rfl rfl (by kernel_rfl) (by kernel_rfl) (wn) rfl (fun _ ⟨hLT, c302⟩ => q_move rfl) ?_
   obtain ⟨ho_1, hM⟩ := hM
   refine HA.val (k := 3) (v := elemPtr 2 vT (i_1).toNat) rfl rfl (by kernel_rfl) (by kernel_rfl) (wn) rfl (fun _ ⟨hLT, c302⟩ => q_idx ts_29 hLT rfl rfl ho_1) ?_
   refine HA.val (k := 4) (v := fieldPtr 2 vT (i_1).toNat 1) rfl rfl (by kernel_rfl) (by kernel_rfl) (wn) rfl (fun _ ⟨hLT, c302⟩ => q_fldElem fa_52_1 hLT rfl ho_1) ?_
   refine HA.val (k := 5) (v := .int .i64 ((gi tL i_1).2)) rfl rfl (by kernel_rfl) (by kernel_rfl) (wn) rfl (fun _ ⟨hLT, c302⟩ => q_ldField to_3 hLT rfl ho_1 (by decide) rfl) ?_
   refine HA.val (k := 6) (v := .pointer (some ⟨b_1, 0, none⟩)) rfl rfl (by kernel_rfl) (by kernel_rfl) (wn) rfl (fun _ ⟨hLT, c302⟩ => qfA fa_31_0 rfl rfl) ?_
   refine HA.val (k := 7) (v := .int .i64 tR) rfl rfl (by kernel_rfl) (by kernel_rfl) (wn) rfl (fun _ ⟨hLT, c302⟩ => q_load to_3 rfl (Blk.cell c302 rfl)) ?_
   refine HA.val (k := 8) (v := .bool (decide (((gi tL i_1).2) = tR))) rfl rfl (by kernel_rfl) (by kernel_rfl) (wn) rfl (fun _ ⟨hLT, c302⟩ => q_eql rfl rfl) ?_
   refine HA.val (k := 9) (v := .bool (decide (((gi tL i_1).2) = tR))) rfl rfl (by kernel_rfl) (by kernel_rfl) (wn) rfl (fun _ ⟨hLT, c302⟩ => q_move rfl) ?_
   rcases Bool.eq_false_or_eq_true (decide (((gi tL i_1).2) = tR)) with c_2 | c_2
   ·
    replace hM := hM.1 (of_decide_eq_true c_2)
    refine HA.past (k := 10) rfl rfl (by kernel_rfl) (by kernel_rfl) (pby rfl rfl c_2) rfl ?_
    refine HA.past (k := 11) rfl rfl (by kernel_rfl) (by kernel_rfl) (pby rfl rfl c_2) rfl ?_
    refine HA.past (k := 12) rfl rfl (by kernel_rfl) (by kernel_rfl) (pby rfl rfl c_2) rfl ?_
    refine HA.past (k := 13) rfl rfl (by kernel_rfl) (by kernel_rfl) (past_undef rfl rfl) rfl ?_
    refine HA.past (k := 14) rfl rfl (by kernel_rfl) (by kernel_rfl) (past_undef rfl rfl) rfl ?_
    refine HA.past (k := 15) rfl rfl (by kernel_rfl) (by kernel_rfl) (past_undef rfl rfl) rfl ?_
    refine HA.past (k := 16) rfl rfl (by kernel_rfl) (by kernel_rfl) (past_undef rfl rfl) rfl ?_
    refine HA.past (k := 17) rfl rfl (by kernel_rfl) (by kernel_rfl) (past_undef rfl rfl) rfl ?_
    refine HA.past (k := 18) rfl rfl (by kernel_rfl) (by kernel_rfl) (past_undef rfl rfl) rfl ?_
    refine HA.past (k := 19) rfl rfl (by kernel_rfl) (by kernel_rfl) (past_undef rfl rfl) rfl ?_
    refine HA.past (k := 20) rfl rfl (by kernel_rfl) (by kernel_rfl) (past_undef rfl rfl) rfl ?_
    refine HA.past (k := 21) rfl rfl (by kernel_rfl) (by kernel_rfl) (past_undef rfl rfl) rfl ?_
    refine HA.past (k := 22) rfl rfl (by kernel_rfl) (by kernel_rfl) (past_undef rfl rfl) rfl ?_
    refine HA.past (k := 23) rfl rfl (by kernel_rfl) (by kernel_rfl) (past_undef rfl rfl) rfl ?_
    refine HA.one (k := 24) ⟨⟨hLT.is, (hS.box 0 rfl)⟩, (Go.Wk.at_nil _ _)⟩ (by kernel_rfl) ?_
    refine HS.past rfl (past_undef rfl rfl) rfl ?_
    refine HA.past (k := 25) rfl rfl (by kernel_rfl) (by kernel_rfl) (past_undef rfl rfl) rfl ?_
    refine HA.past (k := 26) rfl rfl (by kernel_rfl) (by kernel_rfl) (pby rfl rfl c_2) rfl ?_
    refine HA.val (k := 27) (v := .bool true) rfl rfl (by kernel_rfl) (by kernel_rfl) (wn) rfl (fun _ ⟨hLT, c302⟩ => q_pickK true rfl c_2 rfl) ?_
    refine HA.nil ⟨⟨hLT.is, (hS.box 0 rfl)⟩, (Go.Wk.at_nil _ _)⟩ (by kernel_rfl) (tqn (?_))
    refine HW.condT rfl ?_
    refine HW.seq ?_
    refine HW.region ?_
    refine oA (.bool false) rfl rfl ?_
    refine HO.nil (tqn (?_))
    refine HW.ret (thenQ_ret (blockQ_ret (thenQ_ret (thenQ_ret (blockQ_ret (thenQ_ret (?_)))))))
    refine ⟨.inr rfl, .bool false, res1 rfl (rt rfl), ?_⟩
    replace hS : St F_1 (fr) h_2 := hS.perm2 [] 1 rfl rfl
    exact ⟨F_1, false, rfl, hK, hS, hLT, hM⟩
   ·
    replace hM := hM.2 (of_decide_eq_false c_2)
    refine HA.val (k := 10) (v := .int .i64 i_1) rfl rfl (by kernel_rfl) (by kernel_rfl) (wby rfl rfl c_2) rfl (fun _ ⟨hLT, c302⟩ => q_move rfl) ?_
    refine HA.val (k := 11) (v := .bool (decide (0 < i_1))) rfl rfl (by kernel_rfl) (by kernel_rfl) (wby rfl rfl c_2) rfl (fun _ ⟨hLT, c302⟩ => q_gtr rfl rfl) ?_
    refine HA.val (k := 12) (v := .bool (decide (0 < i_1))) rfl rfl (by kernel_rfl) (by kernel_rfl) (wby rfl rfl c_2) rfl (fun _ ⟨hLT, c302⟩ => q_move rfl) ?_
    rcases Bool.eq_false_or_eq_true (decide (0 < i_1)) with c_3 | c_3
    ·
     replace hM := hM.1 (of_decide_eq_true c_3)
     refine HA.val (k := 13) (v := .pointer (some ⟨b_1, 1, none⟩)) rfl rfl (by kernel_rfl) (by kernel_rfl) (wby rfl rfl c_3) rfl (fun _ ⟨hLT, c302⟩ => qfA fa_31_1 rfl rfl) ?_
     refine HA.val (k := 14) (v := vT) rfl rfl (by kernel_rfl) (by kernel_rfl) (wby rfl rfl c_3) rfl (fun _ ⟨hLT, c302⟩ => q_load to_29 rfl (Blk.cell c302 rfl)) ?_
     refine HA.val (k := 15) (v := .int .i64 i_1) rfl rfl (by kernel_rfl) (by kernel_rfl) (wby rfl rfl c_3) rfl (fun _ ⟨hLT, c302⟩ => q_move rfl) ?_
     obtain ⟨ho_2, hM⟩ := hM
     refine HA.val (k := 16) (v := .int .i64 (i_1 - 1)) rfl rfl (by kernel_rfl) (by kernel_rfl) (wby rfl rfl c_3) rfl (fun _ ⟨hLT, c302⟩ => q_subN _ rfl rfl rfl ho_2.1 ho_2.2) ?_
     obtain ⟨ho_3, hM⟩ := hM
     refine HA.val (k := 17) (v := elemPtr 2 vT (i_1 - 1).toNat) rfl rfl (by kernel_rfl) (by kernel_rfl) (wby rfl rfl c_3) rfl (fun _ ⟨hLT, c302⟩ => q_idx ts_29 hLT rfl rfl ho_3) ?_
     refine HA.val (k := 18) (v := .agg #[.int .i64 ((gi tL (i_1 - 1)).1), .int .i64 ((gi tL (i_1 - 1)).2)]) rfl rfl (by kernel_rfl) (by kernel_rfl) (wby rfl rfl c_3) rfl (fun _ ⟨hLT, c302⟩ => q_ldElemAgg (cs := [.int .i64 ((gi tL (i_1 - 1)).1), .int .i64 ((gi tL (i_1 - 1)).2)]) ta_52 hLT rfl ho_3 rfl) ?_
     refine HA.val (k := 19) (v := .pointer (some ⟨b_1, 1, none⟩)) rfl rfl (by kernel_rfl) (by kernel_rfl) (wby rfl rfl c_3) rfl (fun _ ⟨hLT, c302⟩ => qfA fa_31_1 rfl rfl) ?_
     refine HA.val (k := 20) (v := vT) rfl rfl (by kernel_rfl) (by kernel_rfl) (wby rfl rfl c_3) rfl (fun _ ⟨hLT, c302⟩ => q_load to_29 rfl (Blk.cell c302 rfl)) ?_
     refine HA.val (k := 21) (v := .int .i64 i_1) rfl rfl (by kernel_rfl) (by kernel_rfl) (wby rfl rfl c_3) rfl (fun _ ⟨hLT, c302⟩ => q_move rfl) ?_
     refine HA.val (k := 22) (v := elemPtr 2 vT (i_1).toNat) rfl rfl (by kernel_rfl) (by kernel_rfl) (wby rfl rfl c_3) rfl (fun _ ⟨hLT, c302⟩ => q_idx ts_29 hLT rfl rfl ho_1) ?_
     refine HA.val (k := 23) (v := .agg #[.int .i64 ((gi tL i_1).1), .int .i64 ((gi tL i_1).2)]) rfl rfl (by kernel_rfl) (by kernel_rfl) (wby rfl rfl c_3) rfl (fun _ ⟨hLT, c302⟩ => q_ldElemAgg (cs := [.int .i64 ((gi tL i_1).1), .int .i64 ((gi tL i_1).2)]) ta_52 hLT rfl ho_1 rfl) ?_
     refine HA.one (k := 24) ⟨⟨hLT.is, (hS.box 0 rfl)⟩, (Go.Wk.at_nil _ _)⟩ (by kernel_rfl) ?_
     refine HS.call rfl (wby rfl rfl c_3) rfl (ec en_52 rfl rfl) (ref32_less_walk (fr := (Ow.box b_1 31 #[.int .i64 tR, vT] :: fr)) (gi tL (i_1 - 1)) (gi tL i_1) hS hM) ?_
     rintro _ h_3 ⟨F_2, r_2, rfl, hk, hS, hM⟩
     replace hK := hK.trans hk
     replace hLT := hLT.kp hk
     refine HA.val (k := 25) (v := .bool (!r_2)) rfl rfl (by kernel_rfl) (by kernel_rfl) (wby rfl rfl c_3) rfl (fun _ ⟨hLT, c302⟩ => q_not rfl) ?_
     refine HA.val (k := 26) (v := .bool (!r_2)) rfl rfl (by kernel_rfl) (by kernel_rfl) (wby rfl rfl c_2) rfl (fun _ ⟨hLT, c302⟩ => q_pickK true rfl c_3 rfl) ?_
     refine HA.val (k := 27) (v := .bool (!r_2)) rfl rfl (by kernel_rfl) (by kernel_rfl) (wn) rfl (fun _ ⟨hLT, c302⟩ => q_pickK false rfl c_2 rfl) ?_
     refine HA.nil ⟨⟨hLT.is, (hS.box 0 rfl)⟩, (Go.Wk.at_nil _ _)⟩ (by kernel_rfl) (tqn (?_))
     refine HW.cond (!r_2) rfl (fun c_4 => ?_) (fun c_4 => ?_)
     ·
      replace hM := hM.1 c_4
      refine HW.seq ?_
      refine HW.region ?_
      refine oA (.bool false) rfl rfl ?_
      refine HO.nil (tqn (?_))
      refine HW.ret (thenQ_ret (blockQ_ret (thenQ_ret (thenQ_ret (blockQ_ret (thenQ_ret (?_)))))))
      refine ⟨.inr rfl, .bool false, res1 rfl (rt rfl), ?_⟩
      replace hS : St F_2 (fr) h_3 := hS.perm2 [] 1 rfl rfl
      exact ⟨F_2, false, rfl, hK, hS, hLT, hM⟩
     ·
      replace hM := hM.2 c_4
      refine HW.skip (tqn (?_))
      exact ⟨F_2, rfl, rfl, rfl, hK, hS, hLT, hM⟩
    ·
     replace hM := hM.2 (of_decide_eq_false c_3)
     refine HA.past (k := 13) rfl rfl (by kernel_rfl) (by kernel_rfl) (pby rfl rfl c_3) rfl ?_
     refine HA.past (k := 14) rfl rfl (by kernel_rfl) (by kernel_rfl) (pby rfl rfl c_3) rfl ?_
     refine HA.past (k := 15) rfl rfl (by kernel_rfl) (by kernel_rfl) (pby rfl rfl c_3) rfl ?_
     refine HA.past (k := 16) rfl rfl (by kernel_rfl) (by kernel_rfl) (pby rfl rfl c_3) rfl ?_
     refine HA.past (k := 17) rfl rfl (by kernel_rfl) (by kernel_rfl) (pby rfl rfl c_3) rfl ?_
     refine HA.past (k := 18) rfl rfl (by kernel_rfl) (by kernel_rfl) (pby rfl rfl c_3) rfl ?_
     refine HA.past (k := 19) rfl rfl (by kernel_rfl) (by kernel_rfl) (pby rfl rfl c_3) rfl ?_
     refine HA.past (k := 20) rfl rfl (by kernel_rfl) (by kernel_rfl) (pby rfl rfl c_3) rfl ?_
     refine HA.past (k := 21) rfl rfl (by kernel_rfl) (by kernel_rfl) (pby rfl rfl c_3) rfl ?_
     refine HA.past (k := 22) rfl rfl (by kernel_rfl) (by kernel_rfl) (pby rfl rfl c_3) rfl ?_
     refine HA.past (k := 23) rfl rfl (by kernel_rfl) (by kernel_rfl) (pby rfl rfl c_3) rfl ?_
     refine HA.one (k := 24) ⟨⟨hLT.is, (hS.box 0 rfl)⟩, (Go.Wk.at_nil _ _)⟩ (by kernel_rfl) ?_
     refine HS.past rfl (pby rfl rfl c_3) rfl ?_
     refine HA.past (k := 25) rfl rfl (by kernel_rfl) (by kernel_rfl) (pby rfl rfl c_3) rfl ?_
     refine HA.val (k := 26) (v := .bool false) rfl rfl (by kernel_rfl) (by kernel_rfl) (wby rfl rfl c_2) rfl (fun _ ⟨hLT, c302⟩ => q_pickK false rfl c_3 rfl) ?_
     refine HA.val (k := 27) (v := .bool false) rfl rfl (by kernel_rfl) (by kernel_rfl) (wn) rfl (fun _ ⟨hLT, c302⟩ => q_pickK false rfl c_2 rfl) ?_
     refine HA.nil ⟨⟨hLT.is, (hS.box 0 rfl)⟩, (Go.Wk.at_nil _ _)⟩ (by kernel_rfl) (tqn (?_))
     refine HW.condF rfl ?_
     refine HW.skip (tqn (?_))
     exact ⟨F_1, rfl, rfl, rfl, hK, hS, hLT, hM⟩
  ·
   rintro f_2 h_4 ⟨F_3, e1, e2, e3, hK, hS, hLT, hM⟩
   unfold ref32_Good_j1 at hM
   refine HW.fr [(1, .pointer (some ⟨b_1, 0, none⟩)), (2, .bool false), (3, .int .i64 i_1)] ⟨e1, e2, e3, trivial⟩ ?_
   refine HW.seq ?_
   refine HW.region ?_
   refine oA (.int .i64 0) rfl rfl ?_
   refine HO.nil (tqn (?_))
   refine HW.block ?_
   obtain ⟨I_2, m_2, hI_2, hR_2⟩ := hM
   refine HW.loop (S := Int) (fun k_1 f h => ∃ (F' : Fz), f 1 = .pointer (some ⟨b_1, 0, none⟩) ∧ f 2 = .bool false ∧ f 3 = .int .i64 i_1 ∧ f 4 = .int .i64 k_1 ∧ Kp F h0 F' h ∧ St F' (Ow.box b_1 31 #[.int .i64 tR, vT] :: fr) h ∧ (SliceF F' h 2 eB vT tL) ∧ I_2 k_1) m_2 0 ⟨F_3, rfl, rfl, rfl, rfl, hK, hS, hLT, hI_2⟩ ?_
   rintro k_1 f_3 h_5 ⟨F_4, e1, e2, e3, e4, hK, hS, hLT, hI0⟩
   obtain ⟨K_2, hKe_2⟩ : ∃ K : Int → Prop, K = fun k_1' => I_2 k_1' ∧ m_2 k_1' < m_2 k_1 := ⟨_, rfl⟩
   have hM : ref32_Good_l2 tL Q i_1 K_1 K_2 k_1 := by rw [hKe_2]; exact hR_2 k_1 hI0
   unfold ref32_Good_l2 at hM
   refine HW.fr [(1, .pointer (some ⟨b_1, 0, none⟩)), (2, .bool false), (3, .int .i64 i_1), (4, .int .i64 k_1)] ⟨e1, e2, e3, e4, trivial⟩ ?_
   refine HW.seq ?_
   refine HW.seq ?_
   refine HW.region ?_
   refine oM (.int .i64 k_1) rfl rfl ?_
   refine oM (.int .i64 i_1) rfl rfl ?_
   refine oV (.bool (decide (k_1 < i_1))) (q_lss rfl rfl) rfl ?_
   refine HO.nil (tqn (?_))
   refine HW.cond (decide (k_1 < i_1)) rfl (fun c_5 => ?_) (fun c_5 => ?_)
   ·
    replace hM := hM.1 (of_decide_eq_true c_5)
    refine HW.skip (tqn (?_))
    refine HW.seq ?_
    refine HW.block ?_
    refine HW.seq ?_
    refine HW.regionA 13 mixed (fun h => (SliceIs h 2 eB vT tL) ∧ (Blk h b_1 (.cells #[.int .i64 tR, vT] 31 (0, 0)))) [] (by kernel_rfl) ?_
    refine HA.val (k := 0) (v := .pointer (some ⟨b_1, 1, none⟩)) rfl rfl (by kernel_rfl) (by kernel_rfl) (wn) rfl (fun _ ⟨hLT, c404⟩ => qfA fa_31_1 rfl rfl) ?_
    refine HA.val (k := 1) (v := vT) rfl rfl (by kernel_rfl) (by kernel_rfl) (wn) rfl (fun _ ⟨hLT, c404⟩ => q_load to_29 rfl (Blk.cell c404 rfl)) ?_
    refine HA.val (k := 2) (v := .int .i64 k_1) rfl rfl (by kernel_rfl) (by kernel_rfl) (wn) rfl (fun _ ⟨hLT, c404⟩ => q_move rfl) ?_
    obtain ⟨ho_4, hM⟩ := hM
    refine HA.val (k := 3) (v := elemPtr 2 vT (k_1).toNat) rfl rfl (by kernel_rfl) (by kernel_rfl) (wn) rfl (fun _ ⟨hLT, c404⟩ => q_idx ts_29 hLT rfl rfl ho_4) ?_
    refine HA.val (k := 4) (v := fieldPtr 2 vT (k_1).toNat 1) rfl rfl (by kernel_rfl) (by kernel_rfl) (wn) rfl (fun _ ⟨hLT, c404⟩ => q_fldElem fa_52_1 hLT rfl ho_4) ?_
    refine HA.val (k := 5) (v := .int .i64 ((gi tL k_1).2)) rfl rfl (by kernel_rfl) (by kernel_rfl) (wn) rfl (fun _ ⟨hLT, c404⟩ => q_ldField to_3 hLT rfl ho_4 (by decide) rfl) ?_
    refine HA.val (k := 6) (v := .pointer (some ⟨b_1, 1, none⟩)) rfl rfl (by kernel_rfl) (by kernel_rfl) (wn) rfl (fun _ ⟨hLT, c404⟩ => qfA fa_31_1 rfl rfl) ?_
    refine HA.val (k := 7) (v := vT) rfl rfl (by kernel_rfl) (by kernel_rfl) (wn) rfl (fun _ ⟨hLT, c404⟩ => q_load to_29 rfl (Blk.cell c404 rfl)) ?_
    refine HA.val (k := 8) (v := .int .i64 i_1) rfl rfl (by kernel_rfl) (by kernel_rfl) (wn) rfl (fun _ ⟨hLT, c404⟩ => q_move rfl) ?_
    obtain ⟨ho_5, hM⟩ := hM
    refine HA.val (k := 9) (v := elemPtr 2 vT (i_1).toNat) rfl rfl (by kernel_rfl) (by kernel_rfl) (wn) rfl (fun _ ⟨hLT, c404⟩ => q_idx ts_29 hLT rfl rfl ho_5) ?_
    refine HA.val (k := 10) (v := fieldPtr 2 vT (i_1).toNat 1) rfl rfl (by kernel_rfl) (by kernel_rfl) (wn) rfl (fun _ ⟨hLT, c404⟩ => q_fldElem fa_52_1 hLT rfl ho_5) ?_
    refine HA.val (k := 11) (v := .int .i64 ((gi tL i_1).2)) rfl rfl (by kernel_rfl) (by kernel_rfl) (wn) rfl (fun _ ⟨hLT, c404⟩ => q_ldField to_3 hLT rfl ho_5 (by decide) rfl) ?_
    refine HA.val (k := 12) (v := .bool (decide (((gi tL k_1).2) = ((gi tL i_1).2)))) rfl rfl (by kernel_rfl) (by kernel_rfl) (wn) rfl (fun _ ⟨hLT, c404⟩ => q_eql rfl rfl) ?_
    refine HA.nil ⟨⟨hLT.is, (hS.box 0 rfl)⟩, (Go.Wk.at_nil _ _)⟩ (by kernel_rfl) (tqn (?_))
    refine HW.cond (decide (((gi tL k_1).2) = ((gi tL i_1).2))) rfl (fun c_6 => ?_) (fun c_6 => ?_)
    ·
     replace hM := hM.1 (of_decide_eq_true c_6)
     refine HW.seq ?_
     refine HW.region ?_
     refine oA (.bool false) rfl rfl ?_
     refine HO.nil (tqn (?_))
     refine HW.ret (blockQ_ret (thenQ_ret (thenQ_ret (blockQ_ret (blockQ_ret (thenQ_ret (thenQ_ret (blockQ_ret (thenQ_ret (?_))))))))))
     refine ⟨.inr rfl, .bool false, res1 rfl (rt rfl), ?_⟩
     replace hS : St F_4 (fr) h_5 := hS.perm2 [] 1 rfl rfl
     exact ⟨F_4, false, rfl, hK, hS, hLT, hM⟩
    ·
     replace hM := hM.2 (of_decide_eq_false c_6)
     refine HW.skip (blockQ_normal (tqn (?_)))
     refine HW.region ?_
     refine oM (.int .i64 k_1) rfl rfl ?_
     obtain ⟨ho_6, hM⟩ := hM
     refine oV (.int .i64 (k_1 + 1)) (q_addN _ rfl rfl rfl ho_6.1 ho_6.2) rfl ?_
     refine oA (.int .i64 (k_1 + 1)) rfl rfl ?_
     refine HO.nil (tqn (?_))
     rw [hKe_2] at hM
     exact ⟨k_1 + 1, ⟨F_4, rfl, rfl, rfl, rfl, hK, hS, hLT, hM.1⟩, hM.2⟩
   ·
    replace hM := hM.2 (of_decide_eq_false c_5)
    refine HW.exit (thenQ_exit (thenQ_exit (blockQ_exit (blockQ_normal (tqn (?_))))))
    refine HW.region ?_
    refine oM (.int .i64 i_1) rfl rfl ?_
    obtain ⟨ho_7, hM⟩ := hM
    refine oV (.int .i64 (i_1 + 1)) (q_addN _ rfl rfl rfl ho_7.1 ho_7.2) rfl ?_
    refine oA (.int .i64 (i_1 + 1)) rfl rfl ?_
    refine HO.nil (tqn (?_))
    rw [hKe_1] at hM
    exact ⟨i_1 + 1, ⟨F_4, rfl, rfl, rfl, hK, hS, hLT, hM.1⟩, hM.2⟩
 ·
  replace hM := hM.2 (of_decide_eq_false c_1)
  refine HW.exit (thenQ_exit (thenQ_exit (blockQ_exit (tqn (?_)))))
  refine HW.seq ?_
  refine HW.regionA 17 mixed (fun h => (SliceIs h 2 eB vT tL) ∧ (Blk h b_1 (.cells #[.int .i64 tR, vT] 31 (0, 0)))) [] (by kernel_rfl) ?_
  refine HA.val (k := 0) (v := .pointer (some ⟨b_1, 1, none⟩)) rfl rfl (by kernel_rfl) (by kernel_rfl) (wn) rfl (fun _ ⟨hLT, c302⟩ => qfA fa_31_1 rfl rfl) ?_
  refine HA.val (k := 1) (v := vT) rfl rfl (by kernel_rfl) (by kernel_rfl) (wn) rfl (fun _ ⟨hLT, c302⟩ => q_load to_29 rfl (Blk.cell c302 rfl)) ?_
  refine HA.val (k := 2) (v := .int .i64 (tL.length : Int)) rfl rfl (by kernel_rfl) (by kernel_rfl) (wn) rfl (fun _ ⟨hLT, c302⟩ => q_len ts_29 (shp hLT) rfl rfl) ?_
  refine HA.val (k := 3) (v := .bool (decide ((tL.length : Int) < 256))) rfl rfl (by kernel_rfl) (by kernel_rfl) (wn) rfl (fun _ ⟨hLT, c302⟩ => q_lss rfl rfl) ?_
  refine HA.val (k := 4) (v := .bool (decide ((tL.length : Int) < 256))) rfl rfl (by kernel_rfl) (by kernel_rfl) (wn) rfl (fun _ ⟨hLT, c302⟩ => q_move rfl) ?_
  rcases Bool.eq_false_or_eq_true (decide ((tL.length : Int) < 256)) with c_7 | c_7
  ·
   replace hM := hM.1 (of_decide_eq_true c_7)
   refine HA.val (k := 5) (v := .agg #[.int .i64 tR, vT]) rfl rfl (by kernel_rfl) (by kernel_rfl) (wby rfl rfl c_7) rfl (fun _ ⟨hLT, c302⟩ => q_loadAgg (cs := [.int .i64 tR, vT]) ta_31 rfl rfl (Blk.cells (k := 2) c302 rfl)) ?_
   refine HA.val (k := 6) (v := .pointer (some ⟨b_1, 0, none⟩)) rfl rfl (by kernel_rfl) (by kernel_rfl) (wby rfl rfl c_7) rfl (fun _ ⟨hLT, c302⟩ => qfA fa_31_0 rfl rfl) ?_
   refine HA.val (k := 7) (v := .int .i64 tR) rfl rfl (by kernel_rfl) (by kernel_rfl) (wby rfl rfl c_7) rfl (fun _ ⟨hLT, c302⟩ => q_load to_3 rfl (Blk.cell c302 rfl)) ?_
   refine HA.val (k := 10) (v := .pointer (some ⟨b_1, 1, none⟩)) rfl rfl (by kernel_rfl) (by kernel_rfl) (wby rfl rfl c_7) rfl (fun _ ⟨hLT, c302⟩ => qfA fa_31_1 rfl rfl) ?_
   refine HA.val (k := 11) (v := vT) rfl rfl (by kernel_rfl) (by kernel_rfl) (wby rfl rfl c_7) rfl (fun _ ⟨hLT, c302⟩ => q_load to_29 rfl (Blk.cell c302 rfl)) ?_
   refine HA.val (k := 12) (v := .int .i64 (tL.length : Int)) rfl rfl (by kernel_rfl) (by kernel_rfl) (wby rfl rfl c_7) rfl (fun _ ⟨hLT, c302⟩ => q_len ts_29 (shp hLT) rfl rfl) ?_
   obtain ⟨ho_8, hM⟩ := hM
   refine HA.val (k := 13) (v := .int .i64 ((tL.length : Int) + 1)) rfl rfl (by kernel_rfl) (by kernel_rfl) (wby rfl rfl c_7) rfl (fun _ ⟨hLT, c302⟩ => q_addN _ rfl rfl rfl ho_8.1 ho_8.2) ?_
   refine HA.one (k := 8) ⟨⟨hLT.is, (hS.box 0 rfl)⟩, (Go.Wk.at_nil _ _)⟩ (by kernel_rfl) ?_
   refine HS.call rfl (wby rfl rfl c_7) rfl (ec en_66 rfl rfl) (ref32_Below_walk (fr := (Ow.box b_1 31 #[.int .i64 tR, vT] :: fr)) tR tL tR vT hS hLT hM) ?_
   rintro vr_1 h_6 ⟨F_5, r_3, _, rfl, hk, hS, _, hM⟩
   replace hK := hK.trans hk
   replace hLT := hLT.kp hk
   refine Go.Wk.HA.re (fun h => (SliceIs h 2 eB vT tL) ∧ (OwnIs h 0 3 1 encI vr_1 r_3) ∧ (Blk h b_1 (.cells #[.int .i64 tR, vT] 31 (0, 0)))) [] (fun L_ h_ hL_ ⟨hLT, c351, c302⟩ hs_ => ⟨⟨hLT, c302⟩, (Go.Wk.at_nil _ _)⟩) ?_
   refine HA.val (k := 9) (v := .int .i64 (r_3.length : Int)) rfl rfl (by kernel_rfl) (by kernel_rfl) (wby rfl rfl c_7) rfl (fun _ ⟨hLT, c351, c302⟩ => q_len ts_22 (shp c351.slice) rfl rfl) ?_
   refine HA.val (k := 14) (v := .bool (decide ((r_3.length : Int) = ((tL.length : Int) + 1)))) rfl rfl (by kernel_rfl) (by kernel_rfl) (wby rfl rfl c_7) rfl (fun _ ⟨hLT, c351, c302⟩ => q_eql rfl rfl) ?_
   refine HA.val (k := 15) (v := .bool (decide ((r_3.length : Int) = ((tL.length : Int) + 1)))) rfl rfl (by kernel_rfl) (by kernel_rfl) (wn) rfl (fun _ ⟨hLT, c351, c302⟩ => q_pickK true rfl c_7 rfl) ?_
   refine HA.val (k := 16) (v := .bool (decide ((r_3.length : Int) = ((tL.length : Int) + 1)))) rfl rfl (by kernel_rfl) (by kernel_rfl) (wn) rfl (fun _ ⟨hLT, c351, c302⟩ => q_assign rfl) ?_
   refine HA.nil ⟨⟨hLT.is, (hS.own 0 rfl), (hS.box 1 rfl)⟩, (Go.Wk.at_nil _ _)⟩ (by kernel_rfl) (tqn (?_))
   refine HW.ret (?_)
   refine ⟨.inr rfl, .bool (decide ((r_3.length : Int) = ((tL.length : Int) + 1))), res1 rfl (rt rfl), ?_⟩
   replace hS : St F_5 (fr) h_6 := hS.perm2 [] 2 rfl rfl
   exact ⟨F_5, decide ((r_3.length : Int) = ((tL.length : Int) + 1)), rfl, hK, hS, hLT, hM⟩
  ·
   replace hM := hM.2 (of_decide_eq_false c_7)
   refine HA.past (k := 5) rfl rfl (by kernel_rfl) (by kernel_rfl) (pby rfl rfl c_7) rfl ?_
   refine HA.past (k := 6) rfl rfl (by kernel_rfl) (by kernel_rfl) (pby rfl rfl c_7) rfl ?_
   refine HA.past (k := 7) rfl rfl (by kernel_rfl) (by kernel_rfl) (pby rfl rfl c_7) rfl ?_
   refine HA.past (k := 10) rfl rfl (by kernel_rfl) (by kernel_rfl) (pby rfl rfl c_7) rfl ?_
   refine HA.past (k := 11) rfl rfl (by kernel_rfl) (by kernel_rfl) (pby rfl rfl c_7) rfl ?_
   refine HA.past (k := 12) rfl rfl (by kernel_rfl) (by kernel_rfl) (pby rfl rfl c_7) rfl ?_
   refine HA.past (k := 13) rfl rfl (by kernel_rfl) (by kernel_rfl) (pby rfl rfl c_7) rfl ?_
   refine HA.one (k := 8) ⟨⟨hLT.is, (hS.box 0 rfl)⟩, (Go.Wk.at_nil _ _)⟩ (by kernel_rfl) ?_
   refine HS.past rfl (pby rfl rfl c_7) rfl ?_
   refine HA.past (k := 9) rfl rfl (by kernel_rfl) (by kernel_rfl) (pby rfl rfl c_7) rfl ?_
   refine HA.past (k := 14) rfl rfl (by kernel_rfl) (by kernel_rfl) (pby rfl rfl c_7) rfl ?_
   refine HA.val (k := 15) (v := .bool false) rfl rfl (by kernel_rfl) (by kernel_rfl) (wn) rfl (fun _ ⟨hLT, c302⟩ => q_pickK false rfl c_7 rfl) ?_
   refine HA.val (k := 16) (v := .bool false) rfl rfl (by kernel_rfl) (by kernel_rfl) (wn) rfl (fun _ ⟨hLT, c302⟩ => q_assign rfl) ?_
   refine HA.nil ⟨⟨hLT.is, (hS.box 0 rfl)⟩, (Go.Wk.at_nil _ _)⟩ (by kernel_rfl) (tqn (?_))
   refine HW.ret (?_)
   refine ⟨.inr rfl, .bool false, res1 rfl (rt rfl), ?_⟩
   replace hS : St F_1 (fr) h_2 := hS.perm2 [] 1 rfl rfl
   exact ⟨F_1, false, rfl, hK, hS, hLT, hM⟩
def ref33_Rises_l1 (l : List Int) (Q : Bool → Prop) (K_1 : Int → Prop) (i_1 : Int) : Prop :=
 (i_1 < (l.length : Int) → (I64 (i_1 - 1)) ∧ (((0 : Int) ≤ i_1 - 1 ∧ i_1 - 1 < (l.length : Int)) ∧ (((0 : Int) ≤ i_1 ∧ i_1 < (l.length : Int)) ∧ (((gi l i_1) ≤ (gi l (i_1 - 1)) → Q false) ∧ (¬ ((gi l i_1) ≤ (gi l (i_1 - 1))) → (I64 (i_1 + 1)) ∧ (K_1 (i_1 + 1))))))) ∧ (¬ (i_1 < (l.length : Int)) → Q true)
def ref33_Rises_W (l : List Int) (Q : Bool → Prop) : Prop :=
 loopW (fun (K_1 : Int → Prop) (s : Int) => ref33_Rises_l1 l Q K_1 s) 1
theorem ref33_Rises_walk {F : Fz} {fr : List Ow} {h0 : Heap} (l : List Int) (vl : Value) (hS : St F (fr) h0) (hL_l : SliceF F h0 1 encI vl l) {Q : Bool → Prop} (hM : ref33_Rises_W l Q) :
  HC Tryz.prog 39 #[vl] h0 fun u h' => ∃ (F' : Fz) (r_1 : Bool), u = .bool r_1 ∧ Kp F h0 F' h' ∧ St F' (fr) h' ∧ (SliceF F' h' 1 encI vl l) ∧ Q r_1 := by
 unfold ref33_Rises_W at hM
 have hK := Kp.refl F h0
 refine HC.of_HW (n := 20) Tryz.func39 rfl rfl (Nat.le_of_ble_eq_true rfl) ?_
 refine HW.seq ?_
 refine HW.region ?_
 refine oA (.bool false) rfl rfl ?_
 refine HO.nil (tqn (?_))
 refine HW.seq ?_
 refine HW.seq ?_
 refine HW.region ?_
 refine oA (.int .i64 1) rfl rfl ?_
 refine HO.nil (tqn (?_))
 refine HW.block ?_
 obtain ⟨I_1, m_1, hI_1, hR_1⟩ := hM
 refine HW.loop (S := Int) (fun i_1 f h => ∃ (F' : Fz), f 0 = vl ∧ f 2 = .bool false ∧ f 3 = .int .i64 i_1 ∧ Kp F h0 F' h ∧ St F' (fr) h ∧ (SliceF F' h 1 encI vl l) ∧ I_1 i_1) m_1 1 ⟨F, rfl, rfl, rfl, hK, hS, hL_l, hI_1⟩ ?_
 rintro i_1 f_1 h_1 ⟨F_1, e0, e2, e3, hK, hS, hL_l, hI0⟩
 obtain ⟨K_1, hKe_1⟩ : ∃ K : Int → Prop, K = fun i_1' => I_1 i_1' ∧ m_1 i_1' < m_1 i_1 := ⟨_, rfl⟩
 have hM : ref33_Rises_l1 l Q K_1 i_1 := by rw [hKe_1]; exact hR_1 i_1 hI0
 unfold ref33_Rises_l1 at hM
 refine HW.fr [(0, vl), (2, .bool false), (3, .int .i64 i_1)] ⟨e0, e2, e3, trivial⟩ ?_
 refine HW.seq ?_
 refine HW.seq ?_
 refine HW.region ?_
 refine oM (.int .i64 i_1) rfl rfl ?_
 refine oM (vl) rfl rfl ?_
 refine oV (.int .i64 (l.length : Int)) (q_len ts_22 (shp hL_l.is) rfl rfl) rfl ?_
 refine oV (.bool (decide (i_1 < (l.length : Int)))) (q_lss rfl rfl) rfl ?_
 refine HO.nil (tqn (?_))
 refine HW.cond (decide (i_1 < (l.length : Int))) rfl (fun c_1 => ?_) (fun c_1 => ?_)
 ·
  replace hM := hM.1 (of_decide_eq_true c_1)
  refine HW.skip (tqn (?_))
  refine HW.seq ?_
  refine HW.block ?_
  refine HW.seq ?_
  refine HW.regionA 10 mixed (fun h => (SliceIs h 1 encI vl l)) [] (by kernel_rfl) ?_
  refine HA.val (k := 0) (v := vl) rfl rfl (by kernel_rfl) (by kernel_rfl) (wn) rfl (fun _ hL_l => q_move rfl) ?_
  refine HA.val (k := 1) (v := .int .i64 i_1) rfl rfl (by kernel_rfl) (by kernel_rfl) (wn) rfl (fun _ hL_l => q_move rfl) ?_
  obtain ⟨ho_1, hM⟩ := hM
  refine HA.val (k := 2) (v := .int .i64 (i_1 - 1)) rfl rfl (by kernel_rfl) (by kernel_rfl) (wn) rfl (fun _ hL_l => q_subN _ rfl rfl rfl ho_1.1 ho_1.2) ?_
  obtain ⟨ho_2, hM⟩ := hM
  refine HA.val (k := 3) (v := elemPtr 1 vl (i_1 - 1).toNat) rfl rfl (by kernel_rfl) (by kernel_rfl) (wn) rfl (fun _ hL_l => q_idx ts_22 hL_l rfl rfl ho_2) ?_
  refine HA.val (k := 4) (v := .int .i64 (gi l (i_1 - 1))) rfl rfl (by kernel_rfl) (by kernel_rfl) (wn) rfl (fun _ hL_l => q_ldElem to_3 hL_l rfl ho_2 rfl) ?_
  refine HA.val (k := 5) (v := vl) rfl rfl (by kernel_rfl) (by kernel_rfl) (wn) rfl (fun _ hL_l => q_move rfl) ?_
  refine HA.val (k := 6) (v := .int .i64 i_1) rfl rfl (by kernel_rfl) (by kernel_rfl) (wn) rfl (fun _ hL_l => q_move rfl) ?_
  obtain ⟨ho_3, hM⟩ := hM
  refine HA.val (k := 7) (v := elemPtr 1 vl (i_1).toNat) rfl rfl (by kernel_rfl) (by kernel_rfl) (wn) rfl (fun _ hL_l => q_idx ts_22 hL_l rfl rfl ho_3) ?_
  refine HA.val (k := 8) (v := .int .i64 (gi l i_1)) rfl rfl (by kernel_rfl) (by kernel_rfl) (wn) rfl (fun _ hL_l => q_ldElem to_3 hL_l rfl ho_3 rfl) ?_
  refine HA.val (k := 9) (v := .bool (decide ((gi l i_1) ≤ (gi l (i_1 - 1))))) rfl rfl (by kernel_rfl) (by kernel_rfl) (wn) rfl (fun _ hL_l => q_geq rfl rfl) ?_
  refine HA.nil ⟨hL_l.is, (Go.Wk.at_nil _ _)⟩ (by kernel_rfl) (tqn (?_))
  refine HW.cond (decide ((gi l i_1) ≤ (gi l (i_1 - 1)))) rfl (fun c_2 => ?_) (fun c_2 => ?_)
  ·
   replace hM := hM.1 (of_decide_eq_true c_2)
   refine HW.seq ?_
   refine HW.region ?_
   refine oA (.bool false) rfl rfl ?_
   refine HO.nil (tqn (?_))
   refine HW.ret (blockQ_ret (thenQ_ret (thenQ_ret (blockQ_ret (thenQ_ret (?_))))))
   refine ⟨.inr rfl, .bool false, res1 rfl (rt rfl), ?_⟩
   exact ⟨F_1, false, rfl, hK, hS, hL_l, hM⟩
  ·
   replace hM := hM.2 (of_decide_eq_false c_2)
   refine HW.skip (blockQ_normal (tqn (?_)))
   refine HW.region ?_
   refine oM (.int .i64 i_1) rfl rfl ?_
   obtain ⟨ho_4, hM⟩ := hM
   refine oV (.int .i64 (i_1 + 1)) (q_addN _ rfl rfl rfl ho_4.1 ho_4.2) rfl ?_
   refine oA (.int .i64 (i_1 + 1)) rfl rfl ?_
   refine HO.nil (tqn (?_))
   rw [hKe_1] at hM
   exact ⟨i_1 + 1, ⟨F_1, rfl, rfl, rfl, hK, hS, hL_l, hM.1⟩, hM.2⟩
 ·
  replace hM := hM.2 (of_decide_eq_false c_1)
  refine HW.exit (thenQ_exit (thenQ_exit (blockQ_exit (tqn (?_)))))
  refine HW.seq ?_
  refine HW.region ?_
  refine oA (.bool true) rfl rfl ?_
  refine HO.nil (tqn (?_))
  refine HW.ret (?_)
  refine ⟨.inr rfl, .bool true, res1 rfl (rt rfl), ?_⟩
  exact ⟨F_1, true, rfl, hK, hS, hL_l, hM⟩
def ref32_SameInts_l1 (a : List Int) (b : List Int) (Q : Bool → Prop) (K_1 : Int → Prop) (i_1 : Int) : Prop :=
 (i_1 < (a.length : Int) → ((0 : Int) ≤ i_1 ∧ i_1 < (a.length : Int)) ∧ (((0 : Int) ≤ i_1 ∧ i_1 < (b.length : Int)) ∧ ((¬ ((gi a i_1) = (gi b i_1)) → Q false) ∧ ((gi a i_1) = (gi b i_1) → (I64 (i_1 + 1)) ∧ (K_1 (i_1 + 1)))))) ∧ (¬ (i_1 < (a.length : Int)) → Q true)
def ref32_SameInts_W (a : List Int) (b : List Int) (Q : Bool → Prop) : Prop :=
 (¬ ((a.length : Int) = (b.length : Int)) → Q false) ∧ ((a.length : Int) = (b.length : Int) → loopW (fun (K_1 : Int → Prop) (s : Int) => ref32_SameInts_l1 a b Q K_1 s) 0)
theorem ref32_SameInts_walk {F : Fz} {fr : List Ow} {h0 : Heap} (a : List Int) (b : List Int) (va : Value) (vb : Value) (hS : St F (fr) h0) (hL_a : SliceF F h0 1 encI va a) (hL_b : SliceF F h0 1 encI vb b) {Q : Bool → Prop} (hM : ref32_SameInts_W a b Q) :
  HC Tryz.prog 40 #[va, vb] h0 fun u h' => ∃ (F' : Fz) (r_1 : Bool), u = .bool r_1 ∧ Kp F h0 F' h' ∧ St F' (fr) h' ∧ (SliceF F' h' 1 encI va a) ∧ (SliceF F' h' 1 encI vb b) ∧ Q r_1 := by
 unfold ref32_SameInts_W at hM
 have hK := Kp.refl F h0
 refine HC.of_HW (n := 26) Tryz.func40 rfl rfl (Nat.le_of_ble_eq_true rfl) ?_
 refine HW.seq ?_
 refine HW.region ?_
 refine oA (.bool false) rfl rfl ?_
 refine HO.nil (tqn (?_))
 refine HW.seq ?_
 refine HW.seq ?_
 refine HW.region ?_
 refine oM (va) rfl rfl ?_
 refine oV (.int .i64 (a.length : Int)) (q_len ts_22 (shp hL_a.is) rfl rfl) rfl ?_
 refine oM (vb) rfl rfl ?_
 refine oV (.int .i64 (b.length : Int)) (q_len ts_22 (shp hL_b.is) rfl rfl) rfl ?_
 refine oV (.bool (!decide ((a.length : Int) = (b.length : Int)))) (q_neq rfl rfl) rfl ?_
 refine HO.nil (tqn (?_))
 refine HW.cond (!decide ((a.length : Int) = (b.length : Int))) rfl (fun c_1 => ?_) (fun c_1 => ?_)
 ·
  replace hM := hM.1 (nd_true c_1)
  refine HW.seq ?_
  refine HW.region ?_
  refine oA (.bool false) rfl rfl ?_
  refine HO.nil (tqn (?_))
  refine HW.ret (thenQ_ret (?_))
  refine ⟨.inr rfl, .bool false, res1 rfl (rt rfl), ?_⟩
  exact ⟨F, false, rfl, hK, hS, hL_a, hL_b, hM⟩
 ·
  replace hM := hM.2 (nd_false c_1)
  refine HW.skip (tqn (?_))
  refine HW.seq ?_
  refine HW.seq ?_
  refine HW.region ?_
  refine oA (.int .i64 0) rfl rfl ?_
  refine HO.nil (tqn (?_))
  refine HW.block ?_
  obtain ⟨I_1, m_1, hI_1, hR_1⟩ := hM
  refine HW.loop (S := Int) (fun i_1 f h => ∃ (F' : Fz), f 0 = va ∧ f 1 = vb ∧ f 4 = .bool false ∧ f 5 = .int .i64 i_1 ∧ Kp F h0 F' h ∧ St F' (fr) h ∧ (SliceF F' h 1 encI va a) ∧ (SliceF F' h 1 encI vb b) ∧ I_1 i_1) m_1 0 ⟨F, rfl, rfl, rfl, rfl, hK, hS, hL_a, hL_b, hI_1⟩ ?_
  rintro i_1 f_1 h_1 ⟨F_1, e0, e1, e4, e5, hK, hS, hL_a, hL_b, hI0⟩
  obtain ⟨K_1, hKe_1⟩ : ∃ K : Int → Prop, K = fun i_1' => I_1 i_1' ∧ m_1 i_1' < m_1 i_1 := ⟨_, rfl⟩
  have hM : ref32_SameInts_l1 a b Q K_1 i_1 := by rw [hKe_1]; exact hR_1 i_1 hI0
  unfold ref32_SameInts_l1 at hM
  refine HW.fr [(0, va), (1, vb), (4, .bool false), (5, .int .i64 i_1)] ⟨e0, e1, e4, e5, trivial⟩ ?_
  refine HW.seq ?_
  refine HW.seq ?_
  refine HW.region ?_
  refine oM (.int .i64 i_1) rfl rfl ?_
  refine oM (va) rfl rfl ?_
  refine oV (.int .i64 (a.length : Int)) (q_len ts_22 (shp hL_a.is) rfl rfl) rfl ?_
  refine oV (.bool (decide (i_1 < (a.length : Int)))) (q_lss rfl rfl) rfl ?_
  refine HO.nil (tqn (?_))
  refine HW.cond (decide (i_1 < (a.length : Int))) rfl (fun c_2 => ?_) (fun c_2 => ?_)
  ·
   replace hM := hM.1 (of_decide_eq_true c_2)
   refine HW.skip (tqn (?_))
   refine HW.seq ?_
   refine HW.block ?_
   refine HW.seq ?_
   refine HW.regionA 9 mixed (fun h => (SliceIs h 1 encI va a) ∧ (SliceIs h 1 encI vb b)) [] (by kernel_rfl) ?_
   refine HA.val (k := 0) (v := va) rfl rfl (by kernel_rfl) (by kernel_rfl) (wn) rfl (fun _ ⟨hL_a, hL_b⟩ => q_move rfl) ?_
   refine HA.val (k := 1) (v := .int .i64 i_1) rfl rfl (by kernel_rfl) (by kernel_rfl) (wn) rfl (fun _ ⟨hL_a, hL_b⟩ => q_move rfl) ?_
   obtain ⟨ho_1, hM⟩ := hM
   refine HA.val (k := 2) (v := elemPtr 1 va (i_1).toNat) rfl rfl (by kernel_rfl) (by kernel_rfl) (wn) rfl (fun _ ⟨hL_a, hL_b⟩ => q_idx ts_22 hL_a rfl rfl ho_1) ?_
   refine HA.val (k := 3) (v := .int .i64 (gi a i_1)) rfl rfl (by kernel_rfl) (by kernel_rfl) (wn) rfl (fun _ ⟨hL_a, hL_b⟩ => q_ldElem to_3 hL_a rfl ho_1 rfl) ?_
   refine HA.val (k := 4) (v := vb) rfl rfl (by kernel_rfl) (by kernel_rfl) (wn) rfl (fun _ ⟨hL_a, hL_b⟩ => q_move rfl) ?_
   refine HA.val (k := 5) (v := .int .i64 i_1) rfl rfl (by kernel_rfl) (by kernel_rfl) (wn) rfl (fun _ ⟨hL_a, hL_b⟩ => q_move rfl) ?_
   obtain ⟨ho_2, hM⟩ := hM
   refine HA.val (k := 6) (v := elemPtr 1 vb (i_1).toNat) rfl rfl (by kernel_rfl) (by kernel_rfl) (wn) rfl (fun _ ⟨hL_a, hL_b⟩ => q_idx ts_22 hL_b rfl rfl ho_2) ?_
   refine HA.val (k := 7) (v := .int .i64 (gi b i_1)) rfl rfl (by kernel_rfl) (by kernel_rfl) (wn) rfl (fun _ ⟨hL_a, hL_b⟩ => q_ldElem to_3 hL_b rfl ho_2 rfl) ?_
   refine HA.val (k := 8) (v := .bool (!decide ((gi a i_1) = (gi b i_1)))) rfl rfl (by kernel_rfl) (by kernel_rfl) (wn) rfl (fun _ ⟨hL_a, hL_b⟩ => q_neq rfl rfl) ?_
   refine HA.nil ⟨⟨hL_a.is, hL_b.is⟩, (Go.Wk.at_nil _ _)⟩ (by kernel_rfl) (tqn (?_))
   refine HW.cond (!decide ((gi a i_1) = (gi b i_1))) rfl (fun c_3 => ?_) (fun c_3 => ?_)
   ·
    replace hM := hM.1 (nd_true c_3)
    refine HW.seq ?_
    refine HW.region ?_
    refine oA (.bool false) rfl rfl ?_
    refine HO.nil (tqn (?_))
    refine HW.ret (blockQ_ret (thenQ_ret (thenQ_ret (blockQ_ret (thenQ_ret (?_))))))
    refine ⟨.inr rfl, .bool false, res1 rfl (rt rfl), ?_⟩
    exact ⟨F_1, false, rfl, hK, hS, hL_a, hL_b, hM⟩
   ·
    replace hM := hM.2 (nd_false c_3)
    refine HW.skip (blockQ_normal (tqn (?_)))
    refine HW.region ?_
    refine oM (.int .i64 i_1) rfl rfl ?_
    obtain ⟨ho_3, hM⟩ := hM
    refine oV (.int .i64 (i_1 + 1)) (q_addN _ rfl rfl rfl ho_3.1 ho_3.2) rfl ?_
    refine oA (.int .i64 (i_1 + 1)) rfl rfl ?_
    refine HO.nil (tqn (?_))
    rw [hKe_1] at hM
    exact ⟨i_1 + 1, ⟨F_1, rfl, rfl, rfl, rfl, hK, hS, hL_a, hL_b, hM.1⟩, hM.2⟩
  ·
   replace hM := hM.2 (of_decide_eq_false c_2)
   refine HW.exit (thenQ_exit (thenQ_exit (blockQ_exit (tqn (?_)))))
   refine HW.seq ?_
   refine HW.region ?_
   refine oA (.bool true) rfl rfl ?_
   refine HO.nil (tqn (?_))
   refine HW.ret (?_)
   refine ⟨.inr rfl, .bool true, res1 rfl (rt rfl), ?_⟩
   exact ⟨F_1, true, rfl, hK, hS, hL_a, hL_b, hM⟩
def ref33_Fits_W (members : Int) (services : Int) (fan : Int) (Q : Bool → Prop) : Prop :=
 ref33_Need_W members fan (fun r_2 => (0 ≤ r_2 → Q (decide (r_2 ≤ services))) ∧ (¬ (0 ≤ r_2) → Q false))
theorem ref33_Fits_walk {F : Fz} {fr : List Ow} {h0 : Heap} (members : Int) (services : Int) (fan : Int) (hS : St F (fr) h0)  {Q : Bool → Prop} (hM : ref33_Fits_W members services fan Q) :
  HC Tryz.prog 42 #[.int .i64 members, .int .i64 services, .int .i64 fan] h0 fun u h' => ∃ (F' : Fz) (r_1 : Bool), u = .bool r_1 ∧ Kp F h0 F' h' ∧ St F' (fr) h' ∧ Q r_1 := by
 unfold ref33_Fits_W at hM
 have hK := Kp.refl F h0
 refine HC.of_HW (n := 18) Tryz.func42 rfl rfl (Nat.le_of_ble_eq_true rfl) ?_
 refine HW.seq ?_
 refine HW.region ?_
 refine oA (.bool false) rfl rfl ?_
 refine HO.nil (tqn (?_))
 refine HW.seq ?_
 refine HW.region ?_
 refine oM (.int .i64 members) rfl rfl ?_
 refine oM (.int .i64 fan) rfl rfl ?_
 refine HO.call (wn) rfl (ec en_27 rfl rfl) (ref33_Need_walk (fr := (fr)) members fan hS hM) ?_
 rintro _ h_1 ⟨F_1, r_2, rfl, hk, hS, hM⟩
 replace hK := hK.trans hk
 refine oA (.int .i64 r_2) rfl rfl ?_
 refine HO.nil (tqn (?_))
 refine HW.seq ?_
 refine HW.region ?_
 refine oM (.int .i64 r_2) rfl rfl ?_
 refine oV (.bool (decide (0 ≤ r_2))) (q_geq rfl rfl) rfl ?_
 refine oM (.bool (decide (0 ≤ r_2))) rfl rfl ?_
 rcases Bool.eq_false_or_eq_true (decide (0 ≤ r_2)) with c_1 | c_1
 ·
  replace hM := hM.1 (of_decide_eq_true c_1)
  refine HO.val (v := .int .i64 r_2) (wby rfl rfl c_1) rfl (q_move rfl) ?_
  refine HO.val (v := .int .i64 services) (wby rfl rfl c_1) rfl (q_move rfl) ?_
  refine HO.val (v := .bool (decide (r_2 ≤ services))) (wby rfl rfl c_1) rfl (q_leq rfl rfl) ?_
  refine oV (.bool (decide (r_2 ≤ services))) (q_pickK true rfl c_1 rfl) rfl ?_
  refine oA (.bool (decide (r_2 ≤ services))) rfl rfl ?_
  refine HO.nil (tqn (?_))
  refine HW.ret (?_)
  refine ⟨.inr rfl, .bool (decide (r_2 ≤ services)), res1 rfl (rt rfl), ?_⟩
  exact ⟨F_1, decide (r_2 ≤ services), rfl, hK, hS, hM⟩
 ·
  replace hM := hM.2 (of_decide_eq_false c_1)
  refine HO.past (pby rfl rfl c_1) rfl ?_
  refine HO.past (pby rfl rfl c_1) rfl ?_
  refine HO.past (pby rfl rfl c_1) rfl ?_
  refine oV (.bool false) (q_pickK false rfl c_1 rfl) rfl ?_
  refine oA (.bool false) rfl rfl ?_
  refine HO.nil (tqn (?_))
  refine HW.ret (?_)
  refine ⟨.inr rfl, .bool false, res1 rfl (rt rfl), ?_⟩
  exact ⟨F_1, false, rfl, hK, hS, hM⟩
def ref32_Same_l1 (a_Links : List TB) (b_Links : List TB) (Q : Bool → Prop) (K_1 : Int → Prop) (i_1 : Int) : Prop :=
 (i_1 < (a_Links.length : Int) → ((0 : Int) ≤ i_1 ∧ i_1 < (a_Links.length : Int)) ∧ (((0 : Int) ≤ i_1 ∧ i_1 < (b_Links.length : Int)) ∧ ((¬ (((gi a_Links i_1) : TB) = (gi b_Links i_1)) → Q false) ∧ (((gi a_Links i_1) : TB) = (gi b_Links i_1) → (I64 (i_1 + 1)) ∧ (K_1 (i_1 + 1)))))) ∧ (¬ (i_1 < (a_Links.length : Int)) → Q true)
def ref32_Same_j1 (a_Links : List TB) (b_Links : List TB) (Q : Bool → Prop) (b_3 : Bool) : Prop :=
 (b_3 = true → Q false) ∧ (b_3 = false → loopW (fun (K_1 : Int → Prop) (s : Int) => ref32_Same_l1 a_Links b_Links Q K_1 s) 0)
def ref32_Same_W (a_Root : Int) (a_Links : List TB) (b_Root : Int) (b_Links : List TB) (Q : Bool → Prop) : Prop :=
 (¬ (a_Root = b_Root) → ref32_Same_j1 a_Links b_Links Q true) ∧ (a_Root = b_Root → ref32_Same_j1 a_Links b_Links Q (!decide ((a_Links.length : Int) = (b_Links.length : Int))))
theorem ref32_Same_walk {F : Fz} {fr : List Ow} {h0 : Heap} (a_Root : Int) (a_Links : List TB) (b_Root : Int) (b_Links : List TB) (va_Links : Value) (vb_Links : Value) (hS : St F (fr) h0) (hLaL : SliceF F h0 2 eB va_Links a_Links) (hLbL : SliceF F h0 2 eB vb_Links b_Links) {Q : Bool → Prop} (hM : ref32_Same_W a_Root a_Links b_Root b_Links Q) :
  HC Tryz.prog 14 #[.agg #[.int .i64 a_Root, va_Links], .agg #[.int .i64 b_Root, vb_Links]] h0 fun u h' => ∃ (F' : Fz) (r_1 : Bool), u = .bool r_1 ∧ Kp F h0 F' h' ∧ St F' (fr) h' ∧ (SliceF F' h' 2 eB va_Links a_Links) ∧ (SliceF F' h' 2 eB vb_Links b_Links) ∧ Q r_1 := by
 unfold ref32_Same_W at hM
 have hK := Kp.refl F h0
 refine HC.of_HW (n := 38) Tryz.func14 rfl rfl (Nat.le_of_ble_eq_true rfl) ?_
 refine HW.seq ?_
 refine HW.region ?_
 refine HO.eff (wn) rfl (st_box (c := #[.int .i64 a_Root, va_Links]) (k' := 2) hS rfl rfl) ?_
 rintro _ h_1 ⟨b_1, rfl, hS, hk⟩
 replace hK := hK.trans hk
 replace hLaL := hLaL.kp hk
 replace hLbL := hLbL.kp hk
 refine HO.eff (wn) rfl (st_box (c := #[.int .i64 b_Root, vb_Links]) (k' := 2) hS rfl rfl) ?_
 rintro _ h_2 ⟨b_2, rfl, hS, hk⟩
 replace hK := hK.trans hk
 replace hLaL := hLaL.kp hk
 replace hLbL := hLbL.kp hk
 refine oA (.bool false) rfl rfl ?_
 refine HO.nil (tqn (?_))
 refine HW.seq ?_
 refine HW.seq_mid (fun f h => ∃ (F' : Fz) (b_3 : Bool), f 2 = .pointer (some ⟨b_1, 0, none⟩) ∧ f 3 = .pointer (some ⟨b_2, 0, none⟩) ∧ f 4 = .bool false ∧ f 19 = .bool b_3 ∧ Kp F h0 F' h ∧ St F' (Ow.box b_1 31 #[.int .i64 a_Root, va_Links] :: Ow.box b_2 31 #[.int .i64 b_Root, vb_Links] :: fr) h ∧ (SliceF F' h 2 eB va_Links a_Links) ∧ (SliceF F' h 2 eB vb_Links b_Links) ∧ ref32_Same_j1 a_Links b_Links Q b_3) ?_ ?_
 ·
  refine HW.region ?_
  refine oV (.pointer (some ⟨b_1, 0, none⟩)) (qfA fa_31_0 rfl rfl) rfl ?_
  refine oV (.int .i64 a_Root) (q_load to_3 rfl (Blk.cell (hS.box 1 rfl) rfl)) rfl ?_
  refine oV (.pointer (some ⟨b_2, 0, none⟩)) (qfA fa_31_0 rfl rfl) rfl ?_
  refine oV (.int .i64 b_Root) (q_load to_3 rfl (Blk.cell (hS.box 0 rfl) rfl)) rfl ?_
  refine oV (.bool (!decide (a_Root = b_Root))) (q_neq rfl rfl) rfl ?_
  refine oM (.bool (!decide (a_Root = b_Root))) rfl rfl ?_
  rcases Bool.eq_false_or_eq_true (!decide (a_Root = b_Root)) with c_1 | c_1
  ·
   replace hM := hM.1 (nd_true c_1)
   refine HO.past (pby rfl rfl c_1) rfl ?_
   refine HO.past (pby rfl rfl c_1) rfl ?_
   refine HO.past (pby rfl rfl c_1) rfl ?_
   refine HO.past (pby rfl rfl c_1) rfl ?_
   refine HO.past (pby rfl rfl c_1) rfl ?_
   refine HO.past (pby rfl rfl c_1) rfl ?_
   refine HO.past (pby rfl rfl c_1) rfl ?_
   refine oV (.bool true) (q_pickK true rfl c_1 rfl) rfl ?_
   refine HO.nil (tqn (?_))
   replace hS : St F (Ow.box b_1 31 #[.int .i64 a_Root, va_Links] :: Ow.box b_2 31 #[.int .i64 b_Root, vb_Links] :: fr) h_2 := hS.perm2 [1, 0] 2 rfl rfl
   exact ⟨F, true, rfl, rfl, rfl, rfl, hK, hS, hLaL, hLbL, hM⟩
  ·
   replace hM := hM.2 (nd_false c_1)
   refine HO.val (v := .pointer (some ⟨b_1, 1, none⟩)) (wby rfl rfl c_1) rfl (qfA fa_31_1 rfl rfl) ?_
   refine HO.val (v := va_Links) (wby rfl rfl c_1) rfl (q_load to_29 rfl (Blk.cell (hS.box 1 rfl) rfl)) ?_
   refine HO.val (v := .int .i64 (a_Links.length : Int)) (wby rfl rfl c_1) rfl (q_len ts_29 (shp hLaL.is) rfl rfl) ?_
   refine HO.val (v := .pointer (some ⟨b_2, 1, none⟩)) (wby rfl rfl c_1) rfl (qfA fa_31_1 rfl rfl) ?_
   refine HO.val (v := vb_Links) (wby rfl rfl c_1) rfl (q_load to_29 rfl (Blk.cell (hS.box 0 rfl) rfl)) ?_
   refine HO.val (v := .int .i64 (b_Links.length : Int)) (wby rfl rfl c_1) rfl (q_len ts_29 (shp hLbL.is) rfl rfl) ?_
   refine HO.val (v := .bool (!decide ((a_Links.length : Int) = (b_Links.length : Int)))) (wby rfl rfl c_1) rfl (q_neq rfl rfl) ?_
   refine oV (.bool (!decide ((a_Links.length : Int) = (b_Links.length : Int)))) (q_pickK false rfl c_1 rfl) rfl ?_
   refine HO.nil (tqn (?_))
   replace hS : St F (Ow.box b_1 31 #[.int .i64 a_Root, va_Links] :: Ow.box b_2 31 #[.int .i64 b_Root, vb_Links] :: fr) h_2 := hS.perm2 [1, 0] 2 rfl rfl
   exact ⟨F, !decide ((a_Links.length : Int) = (b_Links.length : Int)), rfl, rfl, rfl, rfl, hK, hS, hLaL, hLbL, hM⟩
 ·
  rintro f_1 h_3 ⟨F_1, b_3, e2, e3, e4, e19, hK, hS, hLaL, hLbL, hM⟩
  unfold ref32_Same_j1 at hM
  refine HW.fr [(2, .pointer (some ⟨b_1, 0, none⟩)), (3, .pointer (some ⟨b_2, 0, none⟩)), (4, .bool false), (19, .bool b_3)] ⟨e2, e3, e4, e19, trivial⟩ ?_
  refine HW.cond b_3 rfl (fun c_2 => ?_) (fun c_2 => ?_)
  ·
   replace hM := hM.1 c_2
   refine HW.seq ?_
   refine HW.region ?_
   refine oA (.bool false) rfl rfl ?_
   refine HO.nil (tqn (?_))
   refine HW.ret (thenQ_ret (?_))
   refine ⟨.inr rfl, .bool false, res1 rfl (rt rfl), ?_⟩
   replace hS : St F_1 (fr) h_3 := hS.perm2 [] 2 rfl rfl
   exact ⟨F_1, false, rfl, hK, hS, hLaL, hLbL, hM⟩
  ·
   replace hM := hM.2 c_2
   refine HW.skip (tqn (?_))
   refine HW.seq ?_
   refine HW.seq ?_
   refine HW.region ?_
   refine oA (.int .i64 0) rfl rfl ?_
   refine HO.nil (tqn (?_))
   refine HW.block ?_
   obtain ⟨I_1, m_1, hI_1, hR_1⟩ := hM
   refine HW.loop (S := Int) (fun i_1 f h => ∃ (F' : Fz), f 2 = .pointer (some ⟨b_1, 0, none⟩) ∧ f 3 = .pointer (some ⟨b_2, 0, none⟩) ∧ f 4 = .bool false ∧ f 5 = .int .i64 i_1 ∧ Kp F h0 F' h ∧ St F' (Ow.box b_1 31 #[.int .i64 a_Root, va_Links] :: Ow.box b_2 31 #[.int .i64 b_Root, vb_Links] :: fr) h ∧ (SliceF F' h 2 eB va_Links a_Links) ∧ (SliceF F' h 2 eB vb_Links b_Links) ∧ I_1 i_1) m_1 0 ⟨F_1, rfl, rfl, rfl, rfl, hK, hS, hLaL, hLbL, hI_1⟩ ?_
   rintro i_1 f_2 h_4 ⟨F_2, e2, e3, e4, e5, hK, hS, hLaL, hLbL, hI0⟩
   obtain ⟨K_1, hKe_1⟩ : ∃ K : Int → Prop, K = fun i_1' => I_1 i_1' ∧ m_1 i_1' < m_1 i_1 := ⟨_, rfl⟩
   have hM : ref32_Same_l1 a_Links b_Links Q K_1 i_1 := by rw [hKe_1]; exact hR_1 i_1 hI0
   unfold ref32_Same_l1 at hM
   refine HW.fr [(2, .pointer (some ⟨b_1, 0, none⟩)), (3, .pointer (some ⟨b_2, 0, none⟩)), (4, .bool false), (5, .int .i64 i_1)] ⟨e2, e3, e4, e5, trivial⟩ ?_
   refine HW.seq ?_
   refine HW.seq ?_
   refine HW.region ?_
   refine oM (.int .i64 i_1) rfl rfl ?_
   refine oV (.pointer (some ⟨b_1, 1, none⟩)) (qfA fa_31_1 rfl rfl) rfl ?_
   refine oV (va_Links) (q_load to_29 rfl (Blk.cell (hS.box 0 rfl) rfl)) rfl ?_
   refine oV (.int .i64 (a_Links.length : Int)) (q_len ts_29 (shp hLaL.is) rfl rfl) rfl ?_
   refine oV (.bool (decide (i_1 < (a_Links.length : Int)))) (q_lss rfl rfl) rfl ?_
   refine HO.nil (tqn (?_))
   refine HW.cond (decide (i_1 < (a_Links.length : Int))) rfl (fun c_3 => ?_) (fun c_3 => ?_)
   ·
    replace hM := hM.1 (of_decide_eq_true c_3)
    refine HW.skip (tqn (?_))
    refine HW.seq ?_
    refine HW.block ?_
    refine HW.seq ?_
    refine HW.regionA 11 mixed (fun h => (SliceIs h 2 eB va_Links a_Links) ∧ (SliceIs h 2 eB vb_Links b_Links) ∧ (Blk h b_1 (.cells #[.int .i64 a_Root, va_Links] 31 (0, 0))) ∧ (Blk h b_2 (.cells #[.int .i64 b_Root, vb_Links] 31 (0, 0)))) [] (by kernel_rfl) ?_
    refine HA.val (k := 0) (v := .pointer (some ⟨b_1, 1, none⟩)) rfl rfl (by kernel_rfl) (by kernel_rfl) (wn) rfl (fun _ ⟨hLaL, hLbL, c305, c306⟩ => qfA fa_31_1 rfl rfl) ?_
    refine HA.val (k := 1) (v := va_Links) rfl rfl (by kernel_rfl) (by kernel_rfl) (wn) rfl (fun _ ⟨hLaL, hLbL, c305, c306⟩ => q_load to_29 rfl (Blk.cell c305 rfl)) ?_
    refine HA.val (k := 2) (v := .int .i64 i_1) rfl rfl (by kernel_rfl) (by kernel_rfl) (wn) rfl (fun _ ⟨hLaL, hLbL, c305, c306⟩ => q_move rfl) ?_
    obtain ⟨ho_1, hM⟩ := hM
    refine HA.val (k := 3) (v := elemPtr 2 va_Links (i_1).toNat) rfl rfl (by kernel_rfl) (by kernel_rfl) (wn) rfl (fun _ ⟨hLaL, hLbL, c305, c306⟩ => q_idx ts_29 hLaL rfl rfl ho_1) ?_
    refine HA.val (k := 4) (v := .agg #[.int .i64 ((gi a_Links i_1).1), .int .i64 ((gi a_Links i_1).2)]) rfl rfl (by kernel_rfl) (by kernel_rfl) (wn) rfl (fun _ ⟨hLaL, hLbL, c305, c306⟩ => q_ldElemAgg (cs := [.int .i64 ((gi a_Links i_1).1), .int .i64 ((gi a_Links i_1).2)]) ta_52 hLaL rfl ho_1 rfl) ?_
    refine HA.val (k := 5) (v := .pointer (some ⟨b_2, 1, none⟩)) rfl rfl (by kernel_rfl) (by kernel_rfl) (wn) rfl (fun _ ⟨hLaL, hLbL, c305, c306⟩ => qfA fa_31_1 rfl rfl) ?_
    refine HA.val (k := 6) (v := vb_Links) rfl rfl (by kernel_rfl) (by kernel_rfl) (wn) rfl (fun _ ⟨hLaL, hLbL, c305, c306⟩ => q_load to_29 rfl (Blk.cell c306 rfl)) ?_
    refine HA.val (k := 7) (v := .int .i64 i_1) rfl rfl (by kernel_rfl) (by kernel_rfl) (wn) rfl (fun _ ⟨hLaL, hLbL, c305, c306⟩ => q_move rfl) ?_
    obtain ⟨ho_2, hM⟩ := hM
    refine HA.val (k := 8) (v := elemPtr 2 vb_Links (i_1).toNat) rfl rfl (by kernel_rfl) (by kernel_rfl) (wn) rfl (fun _ ⟨hLaL, hLbL, c305, c306⟩ => q_idx ts_29 hLbL rfl rfl ho_2) ?_
    refine HA.val (k := 9) (v := .agg #[.int .i64 ((gi b_Links i_1).1), .int .i64 ((gi b_Links i_1).2)]) rfl rfl (by kernel_rfl) (by kernel_rfl) (wn) rfl (fun _ ⟨hLaL, hLbL, c305, c306⟩ => q_ldElemAgg (cs := [.int .i64 ((gi b_Links i_1).1), .int .i64 ((gi b_Links i_1).2)]) ta_52 hLbL rfl ho_2 rfl) ?_
    refine HA.val (k := 10) (v := .bool (!decide (((gi a_Links i_1) : TB) = (gi b_Links i_1)))) rfl rfl (by kernel_rfl) (by kernel_rfl) (wn) rfl (fun _ ⟨hLaL, hLbL, c305, c306⟩ => q_neqAgg (a := (gi a_Links i_1)) (b := (gi b_Links i_1)) (fun a b w => teq_52 9998 a b w) (by kernel_rfl) rfl rfl rfl rfl) ?_
    refine HA.nil ⟨⟨hLaL.is, hLbL.is, (hS.box 0 rfl), (hS.box 1 rfl)⟩, (Go.Wk.at_nil _ _)⟩ (by kernel_rfl) (tqn (?_))
    refine HW.cond (!decide (((gi a_Links i_1) : TB) = (gi b_Links i_1))) rfl (fun c_4 => ?_) (fun c_4 => ?_)
    ·
     replace hM := hM.1 (nd_true c_4)
     refine HW.seq ?_
     refine HW.region ?_
     refine oA (.bool false) rfl rfl ?_
     refine HO.nil (tqn (?_))
     refine HW.ret (blockQ_ret (thenQ_ret (thenQ_ret (blockQ_ret (thenQ_ret (?_))))))
     refine ⟨.inr rfl, .bool false, res1 rfl (rt rfl), ?_⟩
     replace hS : St F_2 (fr) h_4 := hS.perm2 [] 2 rfl rfl
     exact ⟨F_2, false, rfl, hK, hS, hLaL, hLbL, hM⟩
    ·
     replace hM := hM.2 (nd_false c_4)
     refine HW.skip (blockQ_normal (tqn (?_)))
     refine HW.region ?_
     refine oM (.int .i64 i_1) rfl rfl ?_
     obtain ⟨ho_3, hM⟩ := hM
     refine oV (.int .i64 (i_1 + 1)) (q_addN _ rfl rfl rfl ho_3.1 ho_3.2) rfl ?_
     refine oA (.int .i64 (i_1 + 1)) rfl rfl ?_
     refine HO.nil (tqn (?_))
     rw [hKe_1] at hM
     exact ⟨i_1 + 1, ⟨F_2, rfl, rfl, rfl, rfl, hK, hS, hLaL, hLbL, hM.1⟩, hM.2⟩
   ·
    replace hM := hM.2 (of_decide_eq_false c_3)
    refine HW.exit (thenQ_exit (thenQ_exit (blockQ_exit (tqn (?_)))))
    refine HW.seq ?_
    refine HW.region ?_
    refine oA (.bool true) rfl rfl ?_
    refine HO.nil (tqn (?_))
    refine HW.ret (?_)
    refine ⟨.inr rfl, .bool true, res1 rfl (rt rfl), ?_⟩
    replace hS : St F_2 (fr) h_4 := hS.perm2 [] 2 rfl rfl
    exact ⟨F_2, true, rfl, hK, hS, hLaL, hLbL, hM⟩
end Go.Wk
