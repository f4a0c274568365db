/- Walks of repair: what both laws share. -/
import Derived.Test.YtjliljlmgepmpaaGreatRepA3
set_option linter.unusedSimpArgs false
set_option linter.unusedVariables false
set_option linter.unusedSectionVars false
set_option maxHeartbeats 40000000
set_option maxRecDepth 100000
namespace Go.Wk
open Go.HL
open Go.Proofs hiding encI
variable [DM]
def ref33_Valid_j2 (tR : Int) (tL : List TB) (root : Int) (services : List Int) (Q : Bool → Prop) (r_7 : List Int) (i_1 : Int) (K_1 : Int → Prop) : Prop :=
 ((0 : Int) ≤ i_1 ∧ i_1 < (r_7.length : Int)) ∧ ((¬ ((gi r_7 i_1) = root) → ref32_Next_W tR tL (gi r_7 i_1) (fun r_10 => (0 < (r_10.length : Int) → ref32_Has_W services (gi r_7 i_1) (fun r_11 => ((!r_11) = true → Q false) ∧ ((!r_11) = false → (I64 (i_1 + 1)) ∧ (K_1 (i_1 + 1))))) ∧ (¬ (0 < (r_10.length : Int)) → (I64 (i_1 + 1)) ∧ (K_1 (i_1 + 1))))) ∧ ((gi r_7 i_1) = root → (I64 (i_1 + 1)) ∧ (K_1 (i_1 + 1))))
def ref33_Valid_l1 (tR : Int) (tL : List TB) (root : Int) (members : List Int) (services : List Int) (fan : Int) (Q : Bool → Prop) (r_7 : List Int) (K_1 : Int → Prop) (i_1 : Int) : Prop :=
 (i_1 < (r_7.length : Int) → ((0 : Int) ≤ i_1 ∧ i_1 < (r_7.length : Int)) ∧ ((¬ ((gi r_7 i_1) = root) → ref32_Has_W members (gi r_7 i_1) (fun r_8 => ((!r_8) = true → ref32_Has_W services (gi r_7 i_1) (fun r_9 => ((!r_9) = true → Q false) ∧ ((!r_9) = false → ref33_Valid_j2 tR tL root services Q r_7 i_1 K_1))) ∧ ((!r_8) = false → ref33_Valid_j2 tR tL root services Q r_7 i_1 K_1))) ∧ ((gi r_7 i_1) = root → ref33_Valid_j2 tR tL root services Q r_7 i_1 K_1))) ∧ (¬ (i_1 < (r_7.length : Int)) → ref32_Fan_W tR tL (fun r_12 => (r_12 ≤ fan → Q true) ∧ (¬ (r_12 ≤ fan) → ref33_Fits_W (members.length : Int) (services.length : Int) fan (fun r_13 => ((!r_13) = true → ref33_Star_W root members (fun r_0_1 r_1_1 => ref32_Same_W tR tL r_0_1 r_1_1 (fun r_14 => Q r_14))) ∧ ((!r_13) = false → Q false)))))
def ref33_Valid_j1 (tR : Int) (tL : List TB) (root : Int) (members : List Int) (services : List Int) (fan : Int) (Q : Bool → Prop) (b_2 : Bool) : Prop :=
 (b_2 = true → Q false) ∧ (b_2 = false → ref32_Nodes_W tR tL (fun r_7 => loopW (fun (K_1 : Int → Prop) (s : Int) => ref33_Valid_l1 tR tL root members services fan Q r_7 K_1 s) 0))
def ref33_Valid_W (tR : Int) (tL : List TB) (root : Int) (members : List Int) (services : List Int) (fan : Int) (Q : Bool → Prop) : Prop :=
 ref32_Good_W tR tL (fun r_2 => ((!r_2) = true → ref33_Valid_j1 tR tL root members services fan Q true) ∧ ((!r_2) = false → (¬ (tR = root) → ref33_Valid_j1 tR tL root members services fan Q true) ∧ (tR = root → ref33_Rises_W members (fun r_3 => ((!r_3) = true → ref33_Valid_j1 tR tL root members services fan Q true) ∧ ((!r_3) = false → ref33_Rises_W services (fun r_4 => ((!r_4) = true → ref33_Valid_j1 tR tL root members services fan Q true) ∧ ((!r_4) = false → ref32_Leaves_W tR tL (fun r_5 => ref32_SameInts_W r_5 members (fun r_6 => ref33_Valid_j1 tR tL root members services fan Q (!r_6))))))))))
theorem ref33_Valid_walk {F : Fz} {fr : List Ow} {h0 : Heap} (tR : Int) (tL : List TB) (root : Int) (members : List Int) (services : List Int) (fan : Int) (vT : Value) (vmembers : Value) (vs_ : Value) (hS : St F (fr) h0) (hLT : SliceF F h0 2 eB vT tL) (hLm : SliceF F h0 1 encI vmembers members) (hLs : SliceF F h0 1 encI vs_ services) {Q : Bool → Prop} (hM : ref33_Valid_W tR tL root members services fan Q) :
  HC Tryz.prog 19 #[.agg #[.int .i64 tR, vT], .int .i64 root, vmembers, vs_, .int .i64 fan] h0 fun u h' => ∃ (F' : Fz) (r_1 : Bool), u = .bool r_1 ∧ Kp F h0 F' h' ∧ St F' (fr) h' ∧ (SliceF F' h' 2 eB vT tL) ∧ (SliceF F' h' 1 encI vmembers members) ∧ (SliceF F' h' 1 encI vs_ services) ∧ Q r_1 := by
 unfold ref33_Valid_W at hM
 have hK := Kp.refl F h0
 refine HC.of_HW (n := 116) Tryz.func19 rfl rfl (Nat.le_of_ble_eq_true rfl) ?_
 refine HW.seq ?_
 refine HW.region ?_
 refine HO.eff (wn) rfl (st_box (c := #[.int .i64 tR, vT]) (k' := 2) hS rfl rfl) ?_
 rintro _ h_1 ⟨b_1, rfl, hS, hk⟩
 replace hK := hK.trans hk
 replace hLT := hLT.kp hk
 replace hLm := hLm.kp hk
 replace hLs := hLs.kp hk
 refine oA (.bool false) rfl rfl ?_
 refine HO.nil (tqn (?_))
 refine HW.seq ?_
 refine HW.seq_mid (fun f h => ∃ (F' : Fz) (b_2 : Bool), f 1 = .int .i64 root ∧ f 2 = vmembers ∧ f 3 = vs_ ∧ f 4 = .int .i64 fan ∧ f 5 = .pointer (some ⟨b_1, 0, none⟩) ∧ f 10 = .bool false ∧ f 38 = .bool b_2 ∧ Kp F h0 F' h ∧ St F' (Ow.box b_1 31 #[.int .i64 tR, vT] :: fr) h ∧ (SliceF F' h 2 eB vT tL) ∧ (SliceF F' h 1 encI vmembers members) ∧ (SliceF F' h 1 encI vs_ services) ∧ ref33_Valid_j1 tR tL root members services fan Q b_2) ?_ ?_
 ·
  refine HW.region ?_
  refine oV (.agg #[.int .i64 tR, vT]) (q_loadAgg (cs := [.int .i64 tR, vT]) ta_31 rfl rfl (Blk.cells (k := 2) (hS.box 0 rfl) rfl)) rfl ?_
  refine HO.call (wn) rfl (ec en_38 rfl rfl) (ref32_Good_walk (fr := (Ow.box b_1 31 #[.int .i64 tR, vT] :: fr)) tR tL vT hS hLT hM) ?_
  rintro _ h_2 ⟨F_1, r_2, rfl, hk, hS, _, hM⟩
  replace hK := hK.trans hk
  replace hLT := hLT.kp hk
  replace hLm := hLm.kp hk
  replace hLs := hLs.kp hk
  refine oV (.bool (!r_2)) (q_not rfl) rfl ?_
  refine oM (.bool (!r_2)) rfl rfl ?_
  rcases Bool.eq_false_or_eq_true (!r_2) with c_1 | c_1
  ·
   replace hM := hM.1 c_1
   refine HO.past (pby rfl rfl c_1) rfl ?_
   refine HO.past (pby rfl rfl c_1) rfl ?_
   refine HO.past (pby rfl rfl c_1) rfl ?_
   refine HO.past (pby rfl rfl c_1) rfl ?_
   refine oV (.bool true) (q_pickK true rfl c_1 rfl) rfl ?_
   refine oM (.bool true) rfl rfl ?_
   refine HO.past (past_some rfl rfl) rfl ?_
   refine HO.past (past_some rfl rfl) rfl ?_
   refine HO.past (past_some rfl rfl) rfl ?_
   refine oV (.bool true) (q_pick rfl rfl) rfl ?_
   refine oM (.bool true) rfl rfl ?_
   refine HO.past (past_some rfl rfl) rfl ?_
   refine HO.past (past_some rfl rfl) rfl ?_
   refine HO.past (past_some rfl rfl) rfl ?_
   refine oV (.bool true) (q_pick rfl rfl) rfl ?_
   refine oM (.bool true) rfl rfl ?_
   refine HO.past (past_some rfl rfl) rfl ?_
   refine HO.past (past_some rfl rfl) rfl ?_
   refine HO.past (past_some rfl rfl) rfl ?_
   refine HO.past (past_some rfl rfl) rfl ?_
   refine HO.past (past_some rfl rfl) rfl ?_
   refine oV (.bool true) (q_pick rfl rfl) rfl ?_
   refine HO.nil (tqn (?_))
   exact ⟨F_1, true, rfl, rfl, rfl, rfl, rfl, rfl, rfl, hK, hS, hLT, hLm, hLs, hM⟩
  ·
   replace hM := hM.2 c_1
   refine HO.val (v := .pointer (some ⟨b_1, 0, none⟩)) (wby rfl rfl c_1) rfl (qfA fa_31_0 rfl rfl) ?_
   refine HO.val (v := .int .i64 tR) (wby rfl rfl c_1) rfl (q_load to_3 rfl (Blk.cell (hS.box 0 rfl) rfl)) ?_
   refine HO.val (v := .int .i64 root) (wby rfl rfl c_1) rfl (q_move rfl) ?_
   refine HO.val (v := .bool (!decide (tR = root))) (wby rfl rfl c_1) rfl (q_neq rfl rfl) ?_
   refine oV (.bool (!decide (tR = root))) (q_pickK false rfl c_1 rfl) rfl ?_
   refine oM (.bool (!decide (tR = root))) rfl rfl ?_
   rcases Bool.eq_false_or_eq_true (!decide (tR = root)) with c_2 | c_2
   ·
    replace hM := hM.1 (nd_true c_2)
    refine HO.past (pby rfl rfl c_2) rfl ?_
    refine HO.past (pby rfl rfl c_2) rfl ?_
    refine HO.past (pby rfl rfl c_2) rfl ?_
    refine oV (.bool true) (q_pickK true rfl c_2 rfl) rfl ?_
    refine oM (.bool true) rfl rfl ?_
    refine HO.past (past_some rfl rfl) rfl ?_
    refine HO.past (past_some rfl rfl) rfl ?_
    refine HO.past (past_some rfl rfl) rfl ?_
    refine oV (.bool true) (q_pick rfl rfl) rfl ?_
    refine oM (.bool true) rfl rfl ?_
    refine HO.past (past_some rfl rfl) rfl ?_
    refine HO.past (past_some rfl rfl) rfl ?_
    refine HO.past (past_some rfl rfl) rfl ?_
    refine HO.past (past_some rfl rfl) rfl ?_
    refine HO.past (past_some rfl rfl) rfl ?_
    refine oV (.bool true) (q_pick rfl rfl) rfl ?_
    refine HO.nil (tqn (?_))
    exact ⟨F_1, true, rfl, rfl, rfl, rfl, rfl, rfl, rfl, hK, hS, hLT, hLm, hLs, hM⟩
   ·
    replace hM := hM.2 (nd_false c_2)
    refine HO.val (v := vmembers) (wby rfl rfl c_2) rfl (q_move rfl) ?_
    refine HO.call (wby rfl rfl c_2) rfl (ec en_39 rfl rfl) (ref33_Rises_walk (fr := (Ow.box b_1 31 #[.int .i64 tR, vT] :: fr)) members vmembers hS hLm hM) ?_
    rintro _ h_3 ⟨F_2, r_3, rfl, hk, hS, _, hM⟩
    replace hK := hK.trans hk
    replace hLT := hLT.kp hk
    replace hLm := hLm.kp hk
    replace hLs := hLs.kp hk
    refine HO.val (v := .bool (!r_3)) (wby rfl rfl c_2) rfl (q_not rfl) ?_
    refine oV (.bool (!r_3)) (q_pickK false rfl c_2 rfl) rfl ?_
    refine oM (.bool (!r_3)) rfl rfl ?_
    rcases Bool.eq_false_or_eq_true (!r_3) with c_3 | c_3
    ·
     replace hM := hM.1 c_3
     refine HO.past (pby rfl rfl c_3) rfl ?_
     refine HO.past (pby rfl rfl c_3) rfl ?_
     refine HO.past (pby rfl rfl c_3) rfl ?_
     refine oV (.bool true) (q_pickK true rfl c_3 rfl) rfl ?_
     refine oM (.bool true) rfl rfl ?_
     refine HO.past (past_some rfl rfl) rfl ?_
     refine HO.past (past_some rfl rfl) rfl ?_
     refine HO.past (past_some rfl rfl) rfl ?_
     refine HO.past (past_some rfl rfl) rfl ?_
     refine HO.past (past_some rfl rfl) rfl ?_
     refine oV (.bool true) (q_pick rfl rfl) rfl ?_
     refine HO.nil (tqn (?_))
     exact ⟨F_2, true, rfl, rfl, rfl, rfl, rfl, rfl, rfl, hK, hS, hLT, hLm, hLs, hM⟩
    ·
     replace hM := hM.2 c_3
     refine HO.val (v := vs_) (wby rfl rfl c_3) rfl (q_move rfl) ?_
     refine HO.call (wby rfl rfl c_3) rfl (ec en_39 rfl rfl) (ref33_Rises_walk (fr := (Ow.box b_1 31 #[.int .i64 tR, vT] :: fr)) services vs_ hS hLs hM) ?_
     rintro _ h_4 ⟨F_3, r_4, rfl, hk, hS, _, hM⟩
     replace hK := hK.trans hk
     replace hLT := hLT.kp hk
     replace hLm := hLm.kp hk
     replace hLs := hLs.kp hk
     refine HO.val (v := .bool (!r_4)) (wby rfl rfl c_3) rfl (q_not rfl) ?_
     refine oV (.bool (!r_4)) (q_pickK false rfl c_3 rfl) rfl ?_
     refine oM (.bool (!r_4)) rfl rfl ?_
     rcases Bool.eq_false_or_eq_true (!r_4) with c_4 | c_4
     ·
      replace hM := hM.1 c_4
      refine HO.past (pby rfl rfl c_4) rfl ?_
      refine HO.past (pby rfl rfl c_4) rfl ?_
      refine HO.past (pby rfl rfl c_4) rfl ?_
      refine HO.past (pby rfl rfl c_4) rfl ?_
      refine HO.past (pby rfl rfl c_4) rfl ?_
      refine oV (.bool true) (q_pickK true rfl c_4 rfl) rfl ?_
      refine HO.nil (tqn (?_))
      exact ⟨F_3, true, rfl, rfl, rfl, rfl, rfl, rfl, rfl, hK, hS, hLT, hLm, hLs, hM⟩
     ·
      replace hM := hM.2 c_4
      refine HO.val (v := .agg #[.int .i64 tR, vT]) (wby rfl rfl c_4) rfl (q_loadAgg (cs := [.int .i64 tR, vT]) ta_31 rfl rfl (Blk.cells (k := 2) (hS.box 0 rfl) rfl)) ?_
      refine HO.call (wby rfl rfl c_4) rfl (ec en_32 rfl rfl) (ref32_Leaves_walk (fr := (Ow.box b_1 31 #[.int .i64 tR, vT] :: fr)) tR tL vT hS hLT hM) ?_
      rintro vr_1 h_5 ⟨F_4, r_5, _, rfl, hk, hS, _, hM⟩
      replace hK := hK.trans hk
      replace hLT := hLT.kp hk
      replace hLm := hLm.kp hk
      replace hLs := hLs.kp hk
      refine HO.val (v := vmembers) (wby rfl rfl c_4) rfl (q_move rfl) ?_
      replace hS : St F_4 (Ow.own 3 1 encI vr_1 r_5 :: Ow.box b_1 31 #[.int .i64 tR, vT] :: fr) h_5 := hS
      have hZ_1 := hS
      have hkz_1 := (hS.freeze).2
      replace hS := hS.freeze.1
      have hL_1 : SliceF (fun bz_ => F_4 bz_ ∨ (Ow.own 3 1 encI vr_1 r_5).foot bz_) h_5 1 encI vr_1 r_5 := ⟨(hZ_1.own 0 rfl).slice, fun _ b hb => .inr hb⟩
      refine HO.call (wby rfl rfl c_4) rfl (ec en_40 rfl rfl) (ref32_SameInts_walk (fr := (Ow.box b_1 31 #[.int .i64 tR, vT] :: fr)) r_5 members vr_1 vmembers hS hL_1 (hLm.kp hkz_1) hM) ?_
      rintro _ h_6 ⟨F_5, r_6, rfl, hk, hS, _, _, hM⟩
      obtain ⟨hS, hk⟩ := hZ_1.back hk hS
      generalize (fun bz_ => F_5 bz_ ∧ ¬ (Ow.own 3 1 encI vr_1 r_5).foot bz_) = F_6 at hS hk
      replace hK := hK.trans hk
      replace hLT := hLT.kp hk
      replace hLm := hLm.kp hk
      replace hLs := hLs.kp hk
      refine HO.val (v := .bool (!r_6)) (wby rfl rfl c_4) rfl (q_not rfl) ?_
      refine oV (.bool (!r_6)) (q_pickK false rfl c_4 rfl) rfl ?_
      refine HO.nil (tqn (?_))
      replace hS : St F_6 (Ow.box b_1 31 #[.int .i64 tR, vT] :: fr) h_6 := hS.perm2 [1] 2 rfl rfl
      exact ⟨F_6, !r_6, rfl, rfl, rfl, rfl, rfl, rfl, rfl, hK, hS, hLT, hLm, hLs, hM⟩
 ·
  rintro f_1 h_7 ⟨F_7, b_2, e1, e2, e3, e4, e5, e10, e38, hK, hS, hLT, hLm, hLs, hM⟩
  unfold ref33_Valid_j1 at hM
  refine HW.fr [(1, .int .i64 root), (2, vmembers), (3, vs_), (4, .int .i64 fan), (5, .pointer (some ⟨b_1, 0, none⟩)), (10, .bool false), (38, .bool b_2)] ⟨e1, e2, e3, e4, e5, e10, e38, trivial⟩ ?_
  refine HW.cond b_2 rfl (fun c_5 => ?_) (fun c_5 => ?_)
  ·
   replace hM := hM.1 c_5
   refine HW.seq ?_
   refine HW.region ?_
   refine oA (.bool false) rfl rfl ?_
   refine HO.nil (tqn (?_))
   refine HW.ret (thenQ_ret (?_))
   refine ⟨.inr rfl, .bool false, res1 rfl (rt rfl), ?_⟩
   replace hS : St F_7 (fr) h_7 := hS.perm2 [] 1 rfl rfl
   exact ⟨F_7, false, rfl, hK, hS, hLT, hLm, hLs, hM⟩
  ·
   replace hM := hM.2 c_5
   refine HW.skip (tqn (?_))
   refine HW.seq ?_
   refine HW.region ?_
   refine oV (.agg #[.int .i64 tR, vT]) (q_loadAgg (cs := [.int .i64 tR, vT]) ta_31 rfl rfl (Blk.cells (k := 2) (hS.box 0 rfl) rfl)) rfl ?_
   refine HO.call (wn) rfl (ec en_37 rfl rfl) (ref32_Nodes_walk (fr := (Ow.box b_1 31 #[.int .i64 tR, vT] :: fr)) tR tL vT hS hLT hM) ?_
   rintro vr_2 h_8 ⟨F_8, r_7, _, rfl, hk, hS, _, hM⟩
   replace hK := hK.trans hk
   replace hLT := hLT.kp hk
   replace hLm := hLm.kp hk
   replace hLs := hLs.kp hk
   refine oA (vr_2) rfl rfl ?_
   refine HO.nil (tqn (?_))
   refine HW.seq ?_
   refine HW.seq ?_
   refine HW.region ?_
   refine oA (.int .i64 0) rfl rfl ?_
   refine HO.nil (tqn (?_))
   refine HW.block ?_
   obtain ⟨I_1, m_1, hI_1, hR_1⟩ := hM
   replace hS : St F_8 (Ow.box b_1 31 #[.int .i64 tR, vT] :: Ow.own 3 1 encI vr_2 r_7 :: fr) h_8 := hS.perm2 [1, 0] 2 rfl rfl
   refine HW.loop (S := Int) (fun i_1 f h => ∃ (F' : Fz), f 1 = .int .i64 root ∧ f 2 = vmembers ∧ f 3 = vs_ ∧ f 4 = .int .i64 fan ∧ f 5 = .pointer (some ⟨b_1, 0, none⟩) ∧ f 10 = .bool false ∧ f 11 = vr_2 ∧ f 12 = .int .i64 i_1 ∧ Kp F h0 F' h ∧ St F' (Ow.box b_1 31 #[.int .i64 tR, vT] :: Ow.own 3 1 encI vr_2 r_7 :: fr) h ∧ (SliceF F' h 2 eB vT tL) ∧ (SliceF F' h 1 encI vmembers members) ∧ (SliceF F' h 1 encI vs_ services) ∧ I_1 i_1) m_1 0 ⟨F_8, rfl, rfl, rfl, rfl, rfl, rfl, rfl, rfl, hK, hS, hLT, hLm, hLs, hI_1⟩ ?_
   rintro i_1 f_2 h_9 ⟨F_9, e1, e2, e3, e4, e5, e10, e11, e12, hK, hS, hLT, hLm, hLs, hI0⟩
   obtain ⟨K_1, hKe_1⟩ : ∃ K : Int → Prop, K = fun i_1' => I_1 i_1' ∧ m_1 i_1' < m_1 i_1 := ⟨_, rfl⟩
   have hM : ref33_Valid_l1 tR tL root members services fan Q r_7 K_1 i_1 := by rw [hKe_1]; exact hR_1 i_1 hI0
   unfold ref33_Valid_l1 at hM
   refine HW.fr [(1, .int .i64 root), (2, vmembers), (3, vs_), (4, .int .i64 fan), (5, .pointer (some ⟨b_1, 0, none⟩)), (10, .bool false), (11, vr_2), (12, .int .i64 i_1)] ⟨e1, e2, e3, e4, e5, e10, e11, e12, trivial⟩ ?_
   refine HW.seq ?_
   refine HW.seq ?_
   refine HW.region ?_
   refine oM (.int .i64 i_1) rfl rfl ?_
   refine oM (vr_2) rfl rfl ?_
   refine oV (.int .i64 (r_7.length : Int)) (q_len ts_22 (shp (hS.own 1 rfl).slice) rfl rfl) rfl ?_
   refine oV (.bool (decide (i_1 < (r_7.length : Int)))) (q_lss rfl rfl) rfl ?_
   refine HO.nil (tqn (?_))
   refine HW.cond (decide (i_1 < (r_7.length : Int))) rfl (fun c_6 => ?_) (fun c_6 => ?_)
   ·
    replace hM := hM.1 (of_decide_eq_true c_6)
    refine HW.skip (tqn (?_))
    refine HW.seq ?_
    refine HW.block ?_
    refine HW.seq_mid (fun f h => ∃ (F' : Fz), f 1 = .int .i64 root ∧ f 2 = vmembers ∧ f 3 = vs_ ∧ f 4 = .int .i64 fan ∧ f 5 = .pointer (some ⟨b_1, 0, none⟩) ∧ f 10 = .bool false ∧ f 11 = vr_2 ∧ f 12 = .int .i64 i_1 ∧ Kp F h0 F' h ∧ St F' (Ow.box b_1 31 #[.int .i64 tR, vT] :: Ow.own 3 1 encI vr_2 r_7 :: fr) h ∧ (SliceF F' h 2 eB vT tL) ∧ (SliceF F' h 1 encI vmembers members) ∧ (SliceF F' h 1 encI vs_ services) ∧ ref33_Valid_j2 tR tL root services Q r_7 i_1 K_1) ?_ ?_
    ·
     refine HW.seq ?_
     refine HW.region ?_
     refine oM (vr_2) rfl rfl ?_
     refine oM (.int .i64 i_1) rfl rfl ?_
     obtain ⟨ho_1, hM⟩ := hM
     refine oV (elemPtr 1 vr_2 (i_1).toNat) (q_idx ts_22 (hS.own 1 rfl).slice rfl rfl ho_1) rfl ?_
     refine oV (.int .i64 (gi r_7 i_1)) (q_ldElem to_3 (hS.own 1 rfl).slice rfl ho_1 rfl) rfl ?_
     refine oM (.int .i64 root) rfl rfl ?_
     refine oV (.bool (!decide ((gi r_7 i_1) = root))) (q_neq rfl rfl) rfl ?_
     refine oM (.bool (!decide ((gi r_7 i_1) = root))) rfl rfl ?_
     rcases Bool.eq_false_or_eq_true (!decide ((gi r_7 i_1) = root)) with c_7 | c_7
     ·
      replace hM := hM.1 (nd_true c_7)
      refine HO.val (v := vmembers) (wby rfl rfl c_7) rfl (q_move rfl) ?_
      refine HO.val (v := vr_2) (wby rfl rfl c_7) rfl (q_move rfl) ?_
      refine HO.val (v := .int .i64 i_1) (wby rfl rfl c_7) rfl (q_move rfl) ?_
      refine HO.val (v := elemPtr 1 vr_2 (i_1).toNat) (wby rfl rfl c_7) rfl (q_idx ts_22 (hS.own 1 rfl).slice rfl rfl ho_1) ?_
      refine HO.val (v := .int .i64 (gi r_7 i_1)) (wby rfl rfl c_7) rfl (q_ldElem to_3 (hS.own 1 rfl).slice rfl ho_1 rfl) ?_
      refine HO.call (wby rfl rfl c_7) rfl (ec en_8 rfl rfl) (ref32_Has_walk (fr := (Ow.box b_1 31 #[.int .i64 tR, vT] :: Ow.own 3 1 encI vr_2 r_7 :: fr)) members (gi r_7 i_1) vmembers hS hLm hM) ?_
      rintro _ h_10 ⟨F_10, r_8, rfl, hk, hS, _, hM⟩
      replace hK := hK.trans hk
      replace hLT := hLT.kp hk
      replace hLm := hLm.kp hk
      replace hLs := hLs.kp hk
      refine HO.val (v := .bool (!r_8)) (wby rfl rfl c_7) rfl (q_not rfl) ?_
      refine oV (.bool (!r_8)) (q_pickK true rfl c_7 rfl) rfl ?_
      refine oM (.bool (!r_8)) rfl rfl ?_
      rcases Bool.eq_false_or_eq_true (!r_8) with c_8 | c_8
      ·
       replace hM := hM.1 c_8
       refine HO.val (v := vs_) (wby rfl rfl c_8) rfl (q_move rfl) ?_
       refine HO.val (v := vr_2) (wby rfl rfl c_8) rfl (q_move rfl) ?_
       refine HO.val (v := .int .i64 i_1) (wby rfl rfl c_8) rfl (q_move rfl) ?_
       refine HO.val (v := elemPtr 1 vr_2 (i_1).toNat) (wby rfl rfl c_8) rfl (q_idx ts_22 (hS.own 1 rfl).slice rfl rfl ho_1) ?_
       refine HO.val (v := .int .i64 (gi r_7 i_1)) (wby rfl rfl c_8) rfl (q_ldElem to_3 (hS.own 1 rfl).slice rfl ho_1 rfl) ?_
       refine HO.call (wby rfl rfl c_8) rfl (ec en_8 rfl rfl) (ref32_Has_walk (fr := (Ow.box b_1 31 #[.int .i64 tR, vT] :: Ow.own 3 1 encI vr_2 r_7 :: fr)) services (gi r_7 i_1) vs_ hS hLs hM) ?_
       rintro _ h_11 ⟨F_11, r_9, rfl, hk, hS, _, hM⟩
       replace hK := hK.trans hk
       replace hLT := hLT.kp hk
       replace hLm := hLm.kp hk
       replace hLs := hLs.kp hk
       refine HO.val (v := .bool (!r_9)) (wby rfl rfl c_8) rfl (q_not rfl) ?_
       refine oV (.bool (!r_9)) (q_pickK true rfl c_8 rfl) rfl ?_
       refine HO.nil (tqn (?_))
       refine HW.cond (!r_9) rfl (fun c_9 => ?_) (fun c_9 => ?_)
       ·
        replace hM := hM.1 c_9
        refine HW.seq ?_
        refine HW.region ?_
        refine oA (.bool false) rfl rfl ?_
        refine HO.nil (tqn (?_))
        refine HW.ret (thenQ_ret (blockQ_ret (thenQ_ret (thenQ_ret (blockQ_ret (thenQ_ret (?_)))))))
        refine ⟨.inr rfl, .bool false, res1 rfl (rt rfl), ?_⟩
        replace hS : St F_11 (fr) h_11 := hS.perm2 [] 2 rfl rfl
        exact ⟨F_11, false, rfl, hK, hS, hLT, hLm, hLs, hM⟩
       ·
        replace hM := hM.2 c_9
        refine HW.skip (tqn (?_))
        exact ⟨F_11, rfl, rfl, rfl, rfl, rfl, rfl, rfl, rfl, hK, hS, hLT, hLm, hLs, hM⟩
      ·
       replace hM := hM.2 c_8
       refine HO.past (pby rfl rfl c_8) rfl ?_
       refine HO.past (pby rfl rfl c_8) rfl ?_
       refine HO.past (pby rfl rfl c_8) rfl ?_
       refine HO.past (pby rfl rfl c_8) rfl ?_
       refine HO.past (pby rfl rfl c_8) rfl ?_
       refine HO.past (pby rfl rfl c_8) rfl ?_
       refine HO.past (pby rfl rfl c_8) rfl ?_
       refine oV (.bool false) (q_pickK false rfl c_8 rfl) rfl ?_
       refine HO.nil (tqn (?_))
       refine HW.condF rfl ?_
       refine HW.skip (tqn (?_))
       exact ⟨F_10, rfl, rfl, rfl, rfl, rfl, rfl, rfl, rfl, hK, hS, hLT, hLm, hLs, hM⟩
     ·
      replace hM := hM.2 (nd_false c_7)
      refine HO.past (pby rfl rfl c_7) rfl ?_
      refine HO.past (pby rfl rfl c_7) rfl ?_
      refine HO.past (pby rfl rfl c_7) rfl ?_
      refine HO.past (pby rfl rfl c_7) rfl ?_
      refine HO.past (pby rfl rfl c_7) rfl ?_
      refine HO.past (pby rfl rfl c_7) rfl ?_
      refine HO.past (pby rfl rfl c_7) rfl ?_
      refine oV (.bool false) (q_pickK false rfl c_7 rfl) rfl ?_
      refine oM (.bool false) rfl rfl ?_
      refine HO.past (past_some rfl rfl) rfl ?_
      refine HO.past (past_some rfl rfl) rfl ?_
      refine HO.past (past_some rfl rfl) rfl ?_
      refine HO.past (past_some rfl rfl) rfl ?_
      refine HO.past (past_some rfl rfl) rfl ?_
      refine HO.past (past_some rfl rfl) rfl ?_
      refine HO.past (past_some rfl rfl) rfl ?_
      refine oV (.bool false) (q_pick rfl rfl) rfl ?_
      refine HO.nil (tqn (?_))
      refine HW.condF rfl ?_
      refine HW.skip (tqn (?_))
      exact ⟨F_9, rfl, rfl, rfl, rfl, rfl, rfl, rfl, rfl, hK, hS, hLT, hLm, hLs, hM⟩
    ·
     rintro f_3 h_12 ⟨F_12, e1, e2, e3, e4, e5, e10, e11, e12, hK, hS, hLT, hLm, hLs, hM⟩
     unfold ref33_Valid_j2 at hM
     refine HW.fr [(1, .int .i64 root), (2, vmembers), (3, vs_), (4, .int .i64 fan), (5, .pointer (some ⟨b_1, 0, none⟩)), (10, .bool false), (11, vr_2), (12, .int .i64 i_1)] ⟨e1, e2, e3, e4, e5, e10, e11, e12, trivial⟩ ?_
     refine HW.seq ?_
     refine HW.regionA 25 mixed (fun h => (Blk h b_1 (.cells #[.int .i64 tR, vT] 31 (0, 0))) ∧ (OwnIs h 0 3 1 encI vr_2 r_7)) [] (by kernel_rfl) ?_
     refine HA.val (k := 0) (v := vr_2) rfl rfl (by kernel_rfl) (by kernel_rfl) (wn) rfl (fun _ ⟨c306, c307⟩ => q_move rfl) ?_
     refine HA.val (k := 1) (v := .int .i64 i_1) rfl rfl (by kernel_rfl) (by kernel_rfl) (wn) rfl (fun _ ⟨c306, c307⟩ => q_move rfl) ?_
     obtain ⟨ho_2, hM⟩ := hM
     refine HA.val (k := 2) (v := elemPtr 1 vr_2 (i_1).toNat) rfl rfl (by kernel_rfl) (by kernel_rfl) (wn) rfl (fun _ ⟨c306, c307⟩ => q_idx ts_22 c307.slice rfl rfl ho_2) ?_
     refine HA.val (k := 3) (v := .int .i64 (gi r_7 i_1)) rfl rfl (by kernel_rfl) (by kernel_rfl) (wn) rfl (fun _ ⟨c306, c307⟩ => q_ldElem to_3 c307.slice rfl ho_2 rfl) ?_
     refine HA.val (k := 4) (v := .int .i64 root) rfl rfl (by kernel_rfl) (by kernel_rfl) (wn) rfl (fun _ ⟨c306, c307⟩ => q_move rfl) ?_
     refine HA.val (k := 5) (v := .bool (!decide ((gi r_7 i_1) = root))) rfl rfl (by kernel_rfl) (by kernel_rfl) (wn) rfl (fun _ ⟨c306, c307⟩ => q_neq rfl rfl) ?_
     refine HA.val (k := 6) (v := .bool (!decide ((gi r_7 i_1) = root))) rfl rfl (by kernel_rfl) (by kernel_rfl) (wn) rfl (fun _ ⟨c306, c307⟩ => q_move rfl) ?_
     rcases Bool.eq_false_or_eq_true (!decide ((gi r_7 i_1) = root)) with c_10 | c_10
     ·
      replace hM := hM.1 (nd_true c_10)
      refine HA.val (k := 7) (v := .agg #[.int .i64 tR, vT]) rfl rfl (by kernel_rfl) (by kernel_rfl) (wby rfl rfl c_10) rfl (fun _ ⟨c306, c307⟩ => q_loadAgg (cs := [.int .i64 tR, vT]) ta_31 rfl rfl (Blk.cells (k := 2) c306 rfl)) ?_
      refine HA.val (k := 8) (v := vr_2) rfl rfl (by kernel_rfl) (by kernel_rfl) (wby rfl rfl c_10) rfl (fun _ ⟨c306, c307⟩ => q_move rfl) ?_
      refine HA.val (k := 9) (v := .int .i64 i_1) rfl rfl (by kernel_rfl) (by kernel_rfl) (wby rfl rfl c_10) rfl (fun _ ⟨c306, c307⟩ => q_move rfl) ?_
      refine HA.val (k := 10) (v := elemPtr 1 vr_2 (i_1).toNat) rfl rfl (by kernel_rfl) (by kernel_rfl) (wby rfl rfl c_10) rfl (fun _ ⟨c306, c307⟩ => q_idx ts_22 c307.slice rfl rfl ho_2) ?_
      refine HA.val (k := 11) (v := .int .i64 (gi r_7 i_1)) rfl rfl (by kernel_rfl) (by kernel_rfl) (wby rfl rfl c_10) rfl (fun _ ⟨c306, c307⟩ => q_ldElem to_3 c307.slice rfl ho_2 rfl) ?_
      refine HA.one (k := 12) ⟨⟨(hS.box 0 rfl), (hS.own 1 rfl)⟩, (Go.Wk.at_nil _ _)⟩ (by kernel_rfl) ?_
      refine HS.call rfl (wby rfl rfl c_10) rfl (ec en_35 rfl rfl) (ref32_Next_walk (fr := (Ow.box b_1 31 #[.int .i64 tR, vT] :: Ow.own 3 1 encI vr_2 r_7 :: fr)) tR tL (gi r_7 i_1) vT hS hLT hM) ?_
      rintro vr_3 h_13 ⟨F_13, r_10, _, rfl, hk, hS, _, hM⟩
      replace hK := hK.trans hk
      replace hLT := hLT.kp hk
      replace hLm := hLm.kp hk
      replace hLs := hLs.kp hk
      refine Go.Wk.HA.re (fun h => (OwnIs h 0 3 1 encI vr_3 r_10) ∧ (Blk h b_1 (.cells #[.int .i64 tR, vT] 31 (0, 0))) ∧ (OwnIs h 0 3 1 encI vr_2 r_7)) [] (fun L_ h_ hL_ ⟨c380, c306, c307⟩ hs_ => ⟨⟨c306, c307⟩, (Go.Wk.at_nil _ _)⟩) ?_
      refine HA.val (k := 13) (v := .int .i64 (r_10.length : Int)) rfl rfl (by kernel_rfl) (by kernel_rfl) (wby rfl rfl c_10) rfl (fun _ ⟨c380, c306, c307⟩ => q_len ts_22 (shp c380.slice) rfl rfl) ?_
      refine HA.val (k := 14) (v := .bool (decide (0 < (r_10.length : Int)))) rfl rfl (by kernel_rfl) (by kernel_rfl) (wby rfl rfl c_10) rfl (fun _ ⟨c380, c306, c307⟩ => q_gtr rfl rfl) ?_
      refine HA.val (k := 15) (v := .bool (decide (0 < (r_10.length : Int)))) rfl rfl (by kernel_rfl) (by kernel_rfl) (wn) rfl (fun _ ⟨c380, c306, c307⟩ => q_pickK true rfl c_10 rfl) ?_
      refine HA.val (k := 16) (v := .bool (decide (0 < (r_10.length : Int)))) rfl rfl (by kernel_rfl) (by kernel_rfl) (wn) rfl (fun _ ⟨c380, c306, c307⟩ => q_move rfl) ?_
      rcases Bool.eq_false_or_eq_true (decide (0 < (r_10.length : Int))) with c_11 | c_11
      ·
       replace hM := hM.1 (of_decide_eq_true c_11)
       refine HA.val (k := 17) (v := vs_) rfl rfl (by kernel_rfl) (by kernel_rfl) (wby rfl rfl c_11) rfl (fun _ ⟨c380, c306, c307⟩ => q_move rfl) ?_
       refine HA.val (k := 18) (v := vr_2) rfl rfl (by kernel_rfl) (by kernel_rfl) (wby rfl rfl c_11) rfl (fun _ ⟨c380, c306, c307⟩ => q_move rfl) ?_
       refine HA.val (k := 19) (v := .int .i64 i_1) rfl rfl (by kernel_rfl) (by kernel_rfl) (wby rfl rfl c_11) rfl (fun _ ⟨c380, c306, c307⟩ => q_move rfl) ?_
       refine HA.val (k := 20) (v := elemPtr 1 vr_2 (i_1).toNat) rfl rfl (by kernel_rfl) (by kernel_rfl) (wby rfl rfl c_11) rfl (fun _ ⟨c380, c306, c307⟩ => q_idx ts_22 c307.slice rfl rfl ho_2) ?_
       refine HA.val (k := 21) (v := .int .i64 (gi r_7 i_1)) rfl rfl (by kernel_rfl) (by kernel_rfl) (wby rfl rfl c_11) rfl (fun _ ⟨c380, c306, c307⟩ => q_ldElem to_3 c307.slice rfl ho_2 rfl) ?_
       refine HA.one (k := 22) ⟨⟨(hS.own 0 rfl), (hS.box 1 rfl), (hS.own 2 rfl)⟩, (Go.Wk.at_nil _ _)⟩ (by kernel_rfl) ?_
       refine HS.call rfl (wby rfl rfl c_11) rfl (ec en_8 rfl rfl) (ref32_Has_walk (fr := (Ow.own 3 1 encI vr_3 r_10 :: Ow.box b_1 31 #[.int .i64 tR, vT] :: Ow.own 3 1 encI vr_2 r_7 :: fr)) services (gi r_7 i_1) vs_ hS hLs hM) ?_
       rintro _ h_14 ⟨F_14, r_11, rfl, hk, hS, _, hM⟩
       replace hK := hK.trans hk
       replace hLT := hLT.kp hk
       replace hLm := hLm.kp hk
       replace hLs := hLs.kp hk
       refine HA.val (k := 23) (v := .bool (!r_11)) rfl rfl (by kernel_rfl) (by kernel_rfl) (wby rfl rfl c_11) rfl (fun _ ⟨c380, c306, c307⟩ => q_not rfl) ?_
       refine HA.val (k := 24) (v := .bool (!r_11)) rfl rfl (by kernel_rfl) (by kernel_rfl) (wn) rfl (fun _ ⟨c380, c306, c307⟩ => q_pickK true rfl c_11 rfl) ?_
       refine HA.nil ⟨⟨(hS.own 0 rfl), (hS.box 1 rfl), (hS.own 2 rfl)⟩, (Go.Wk.at_nil _ _)⟩ (by kernel_rfl) (tqn (?_))
       refine HW.cond (!r_11) rfl (fun c_12 => ?_) (fun c_12 => ?_)
       ·
        replace hM := hM.1 c_12
        refine HW.seq ?_
        refine HW.region ?_
        refine oA (.bool false) rfl rfl ?_
        refine HO.nil (tqn (?_))
        refine HW.ret (blockQ_ret (thenQ_ret (thenQ_ret (blockQ_ret (thenQ_ret (?_))))))
        refine ⟨.inr rfl, .bool false, res1 rfl (rt rfl), ?_⟩
        replace hS : St F_14 (fr) h_14 := hS.perm2 [] 3 rfl rfl
        exact ⟨F_14, false, rfl, hK, hS, hLT, hLm, hLs, hM⟩
       ·
        replace hM := hM.2 c_12
        refine HW.skip (blockQ_normal (tqn (?_)))
        refine HW.region ?_
        refine oM (.int .i64 i_1) rfl rfl ?_
        obtain ⟨ho_3, hM⟩ := hM
        refine oV (.int .i64 (i_1 + 1)) (q_addN _ rfl rfl rfl ho_3.1 ho_3.2) rfl ?_
        refine oA (.int .i64 (i_1 + 1)) rfl rfl ?_
        refine HO.nil (tqn (?_))
        replace hS : St F_14 (Ow.box b_1 31 #[.int .i64 tR, vT] :: Ow.own 3 1 encI vr_2 r_7 :: fr) h_14 := hS.perm2 [1, 2] 3 rfl rfl
        rw [hKe_1] at hM
        exact ⟨i_1 + 1, ⟨F_14, rfl, rfl, rfl, rfl, rfl, rfl, rfl, rfl, hK, hS, hLT, hLm, hLs, hM.1⟩, hM.2⟩
      ·
       replace hM := hM.2 (of_decide_eq_false c_11)
       refine HA.past (k := 17) rfl rfl (by kernel_rfl) (by kernel_rfl) (pby rfl rfl c_11) rfl ?_
       refine HA.past (k := 18) rfl rfl (by kernel_rfl) (by kernel_rfl) (pby rfl rfl c_11) rfl ?_
       refine HA.past (k := 19) rfl rfl (by kernel_rfl) (by kernel_rfl) (pby rfl rfl c_11) rfl ?_
       refine HA.past (k := 20) rfl rfl (by kernel_rfl) (by kernel_rfl) (pby rfl rfl c_11) rfl ?_
       refine HA.past (k := 21) rfl rfl (by kernel_rfl) (by kernel_rfl) (pby rfl rfl c_11) rfl ?_
       refine HA.one (k := 22) ⟨⟨(hS.own 0 rfl), (hS.box 1 rfl), (hS.own 2 rfl)⟩, (Go.Wk.at_nil _ _)⟩ (by kernel_rfl) ?_
       refine HS.past rfl (pby rfl rfl c_11) rfl ?_
       refine HA.past (k := 23) rfl rfl (by kernel_rfl) (by kernel_rfl) (pby rfl rfl c_11) rfl ?_
       refine HA.val (k := 24) (v := .bool false) rfl rfl (by kernel_rfl) (by kernel_rfl) (wn) rfl (fun _ ⟨c380, c306, c307⟩ => q_pickK false rfl c_11 rfl) ?_
       refine HA.nil ⟨⟨(hS.own 0 rfl), (hS.box 1 rfl), (hS.own 2 rfl)⟩, (Go.Wk.at_nil _ _)⟩ (by kernel_rfl) (tqn (?_))
       refine HW.condF rfl ?_
       refine HW.skip (blockQ_normal (tqn (?_)))
       refine HW.region ?_
       refine oM (.int .i64 i_1) rfl rfl ?_
       obtain ⟨ho_4, hM⟩ := hM
       refine oV (.int .i64 (i_1 + 1)) (q_addN _ rfl rfl rfl ho_4.1 ho_4.2) rfl ?_
       refine oA (.int .i64 (i_1 + 1)) rfl rfl ?_
       refine HO.nil (tqn (?_))
       replace hS : St F_13 (Ow.box b_1 31 #[.int .i64 tR, vT] :: Ow.own 3 1 encI vr_2 r_7 :: fr) h_13 := hS.perm2 [1, 2] 3 rfl rfl
       rw [hKe_1] at hM
       exact ⟨i_1 + 1, ⟨F_13, rfl, rfl, rfl, rfl, rfl, rfl, rfl, rfl, hK, hS, hLT, hLm, hLs, hM.1⟩, hM.2⟩
     ·
      replace hM := hM.2 (nd_false c_10)
      refine HA.past (k := 7) rfl rfl (by kernel_rfl) (by kernel_rfl) (pby rfl rfl c_10) rfl ?_
      refine HA.past (k := 8) rfl rfl (by kernel_rfl) (by kernel_rfl) (pby rfl rfl c_10) rfl ?_
      refine HA.past (k := 9) rfl rfl (by kernel_rfl) (by kernel_rfl) (pby rfl rfl c_10) rfl ?_
      refine HA.past (k := 10) rfl rfl (by kernel_rfl) (by kernel_rfl) (pby rfl rfl c_10) rfl ?_
      refine HA.past (k := 11) rfl rfl (by kernel_rfl) (by kernel_rfl) (pby rfl rfl c_10) rfl ?_
      refine HA.one (k := 12) ⟨⟨(hS.box 0 rfl), (hS.own 1 rfl)⟩, (Go.Wk.at_nil _ _)⟩ (by kernel_rfl) ?_
      refine HS.past rfl (pby rfl rfl c_10) rfl ?_
      refine HA.past (k := 13) rfl rfl (by kernel_rfl) (by kernel_rfl) (pby rfl rfl c_10) rfl ?_
      refine HA.past (k := 14) rfl rfl (by kernel_rfl) (by kernel_rfl) (pby rfl rfl c_10) rfl ?_
      refine HA.val (k := 15) (v := .bool false) rfl rfl (by kernel_rfl) (by kernel_rfl) (wn) rfl (fun _ ⟨c306, c307⟩ => q_pickK false rfl c_10 rfl) ?_
      refine HA.val (k := 16) (v := .bool false) rfl rfl (by kernel_rfl) (by kernel_rfl) (wn) rfl (fun _ ⟨c306, c307⟩ => q_move rfl) ?_
      refine HA.past (k := 17) rfl rfl (by kernel_rfl) (by kernel_rfl) (past_some rfl rfl) rfl ?_
      refine HA.past (k := 18) rfl rfl (by kernel_rfl) (by kernel_rfl) (past_some rfl rfl) rfl ?_
      refine HA.past (k := 19) rfl rfl (by kernel_rfl) (by kernel_rfl) (past_some rfl rfl) rfl ?_
      refine HA.past (k := 20) rfl rfl (by kernel_rfl) (by kernel_rfl) (past_some rfl rfl) rfl ?_
      refine HA.past (k := 21) rfl rfl (by kernel_rfl) (by kernel_rfl) (past_some rfl rfl) rfl ?_
      refine HA.one (k := 22) ⟨⟨(hS.box 0 rfl), (hS.own 1 rfl)⟩, (Go.Wk.at_nil _ _)⟩ (by kernel_rfl) ?_
      refine HS.past rfl (past_some rfl rfl) rfl ?_
      refine HA.past (k := 23) rfl rfl (by kernel_rfl) (by kernel_rfl) (past_some rfl rfl) rfl ?_
      refine HA.val (k := 24) (v := .bool false) rfl rfl (by kernel_rfl) (by kernel_rfl) (wn) rfl (fun _ ⟨c306, c307⟩ => q_pick rfl rfl) ?_
      refine HA.nil ⟨⟨(hS.box 0 rfl), (hS.own 1 rfl)⟩, (Go.Wk.at_nil _ _)⟩ (by kernel_rfl) (tqn (?_))
      refine HW.condF rfl ?_
      refine HW.skip (blockQ_normal (tqn (?_)))
      refine HW.region ?_
      refine oM (.int .i64 i_1) rfl rfl ?_
      obtain ⟨ho_5, hM⟩ := hM
      refine oV (.int .i64 (i_1 + 1)) (q_addN _ rfl rfl rfl ho_5.1 ho_5.2) rfl ?_
      refine oA (.int .i64 (i_1 + 1)) rfl rfl ?_
      refine HO.nil (tqn (?_))
      rw [hKe_1] at hM
      exact ⟨i_1 + 1, ⟨F_12, rfl, rfl, rfl, rfl, rfl, rfl, rfl, rfl, hK, hS, hLT, hLm, hLs, hM.1⟩, hM.2⟩
   ·
    replace hM := hM.2 (of_decide_eq_false c_6)
    refine HW.exit (thenQ_exit (thenQ_exit (blockQ_exit (tqn (?_)))))
    refine HW.seq ?_
    refine HW.regionA 21 mixed (fun h => (SliceIs h 1 encI vmembers members) ∧ (SliceIs h 1 encI vs_ services) ∧ (Blk h b_1 (.cells #[.int .i64 tR, vT] 31 (0, 0)))) [] (by kernel_rfl) ?_
    refine HA.val (k := 0) (v := .agg #[.int .i64 tR, vT]) rfl rfl (by kernel_rfl) (by kernel_rfl) (wn) rfl (fun _ ⟨hLm, hLs, c304⟩ => q_loadAgg (cs := [.int .i64 tR, vT]) ta_31 rfl rfl (Blk.cells (k := 2) c304 rfl)) ?_
    refine HA.val (k := 2) (v := .int .i64 fan) rfl rfl (by kernel_rfl) (by kernel_rfl) (wn) rfl (fun _ ⟨hLm, hLs, c304⟩ => q_move rfl) ?_
    refine HA.one (k := 1) ⟨⟨hLm.is, hLs.is, (hS.box 0 rfl)⟩, (Go.Wk.at_nil _ _)⟩ (by kernel_rfl) ?_
    refine HS.call rfl (wn) rfl (ec en_41 rfl rfl) (ref32_Fan_walk (fr := (Ow.box b_1 31 #[.int .i64 tR, vT] :: Ow.own 3 1 encI vr_2 r_7 :: fr)) tR tL vT hS hLT hM) ?_
    rintro _ h_15 ⟨F_15, r_12, rfl, hk, hS, _, hM⟩
    replace hK := hK.trans hk
    replace hLT := hLT.kp hk
    replace hLm := hLm.kp hk
    replace hLs := hLs.kp hk
    refine HA.val (k := 3) (v := .bool (decide (r_12 ≤ fan))) rfl rfl (by kernel_rfl) (by kernel_rfl) (wn) rfl (fun _ ⟨hLm, hLs, c304⟩ => q_leq rfl rfl) ?_
    refine HA.val (k := 4) (v := .bool (decide (r_12 ≤ fan))) rfl rfl (by kernel_rfl) (by kernel_rfl) (wn) rfl (fun _ ⟨hLm, hLs, c304⟩ => q_move rfl) ?_
    rcases Bool.eq_false_or_eq_true (decide (r_12 ≤ fan)) with c_13 | c_13
    ·
     replace hM := hM.1 (of_decide_eq_true c_13)
     refine HA.past (k := 5) rfl rfl (by kernel_rfl) (by kernel_rfl) (pby rfl rfl c_13) rfl ?_
     refine HA.past (k := 6) rfl rfl (by kernel_rfl) (by kernel_rfl) (pby rfl rfl c_13) rfl ?_
     refine HA.past (k := 7) rfl rfl (by kernel_rfl) (by kernel_rfl) (pby rfl rfl c_13) rfl ?_
     refine HA.past (k := 8) rfl rfl (by kernel_rfl) (by kernel_rfl) (pby rfl rfl c_13) rfl ?_
     refine HA.past (k := 9) rfl rfl (by kernel_rfl) (by kernel_rfl) (pby rfl rfl c_13) rfl ?_
     refine HA.one (k := 10) ⟨⟨hLm.is, hLs.is, (hS.box 0 rfl)⟩, (Go.Wk.at_nil _ _)⟩ (by kernel_rfl) ?_
     refine HS.past rfl (pby rfl rfl c_13) rfl ?_
     refine HA.past (k := 11) rfl rfl (by kernel_rfl) (by kernel_rfl) (pby rfl rfl c_13) rfl ?_
     refine HA.past (k := 12) rfl rfl (by kernel_rfl) (by kernel_rfl) (pby rfl rfl c_13) rfl ?_
     refine HA.past (k := 13) rfl rfl (by kernel_rfl) (by kernel_rfl) (past_undef rfl rfl) rfl ?_
     refine HA.past (k := 14) rfl rfl (by kernel_rfl) (by kernel_rfl) (past_undef rfl rfl) rfl ?_
     refine HA.past (k := 15) rfl rfl (by kernel_rfl) (by kernel_rfl) (past_undef rfl rfl) rfl ?_
     refine HA.one (k := 16) ⟨⟨hLm.is, hLs.is, (hS.box 0 rfl)⟩, (Go.Wk.at_nil _ _)⟩ (by kernel_rfl) ?_
     refine HS.past rfl (past_undef rfl rfl) rfl ?_
     refine HA.one (k := 17) ⟨⟨hLm.is, hLs.is, (hS.box 0 rfl)⟩, (Go.Wk.at_nil _ _)⟩ (by kernel_rfl) ?_
     refine HS.past rfl (past_undef rfl rfl) rfl ?_
     refine HA.past (k := 18) rfl rfl (by kernel_rfl) (by kernel_rfl) (pby rfl rfl c_13) rfl ?_
     refine HA.val (k := 19) (v := .bool true) rfl rfl (by kernel_rfl) (by kernel_rfl) (wn) rfl (fun _ ⟨hLm, hLs, c304⟩ => q_pickK true rfl c_13 rfl) ?_
     refine HA.val (k := 20) (v := .bool true) rfl rfl (by kernel_rfl) (by kernel_rfl) (wn) rfl (fun _ ⟨hLm, hLs, c304⟩ => q_assign rfl) ?_
     refine HA.nil ⟨⟨hLm.is, hLs.is, (hS.box 0 rfl)⟩, (Go.Wk.at_nil _ _)⟩ (by kernel_rfl) (tqn (?_))
     refine HW.ret (?_)
     refine ⟨.inr rfl, .bool true, res1 rfl (rt rfl), ?_⟩
     replace hS : St F_15 (fr) h_15 := hS.perm2 [] 2 rfl rfl
     exact ⟨F_15, true, rfl, hK, hS, hLT, hLm, hLs, hM⟩
    ·
     replace hM := hM.2 (of_decide_eq_false c_13)
     refine HA.val (k := 5) (v := vmembers) rfl rfl (by kernel_rfl) (by kernel_rfl) (wby rfl rfl c_13) rfl (fun _ ⟨hLm, hLs, c304⟩ => q_move rfl) ?_
     refine HA.val (k := 6) (v := .int .i64 (members.length : Int)) rfl rfl (by kernel_rfl) (by kernel_rfl) (wby rfl rfl c_13) rfl (fun _ ⟨hLm, hLs, c304⟩ => q_len ts_22 (shp hLm) rfl rfl) ?_
     refine HA.val (k := 7) (v := vs_) rfl rfl (by kernel_rfl) (by kernel_rfl) (wby rfl rfl c_13) rfl (fun _ ⟨hLm, hLs, c304⟩ => q_move rfl) ?_
     refine HA.val (k := 8) (v := .int .i64 (services.length : Int)) rfl rfl (by kernel_rfl) (by kernel_rfl) (wby rfl rfl c_13) rfl (fun _ ⟨hLm, hLs, c304⟩ => q_len ts_22 (shp hLs) rfl rfl) ?_
     refine HA.val (k := 9) (v := .int .i64 fan) rfl rfl (by kernel_rfl) (by kernel_rfl) (wby rfl rfl c_13) rfl (fun _ ⟨hLm, hLs, c304⟩ => q_move rfl) ?_
     refine HA.one (k := 10) ⟨⟨hLm.is, hLs.is, (hS.box 0 rfl)⟩, (Go.Wk.at_nil _ _)⟩ (by kernel_rfl) ?_
     refine HS.call rfl (wby rfl rfl c_13) rfl (ec en_42 rfl rfl) (ref33_Fits_walk (fr := (Ow.box b_1 31 #[.int .i64 tR, vT] :: Ow.own 3 1 encI vr_2 r_7 :: fr)) (members.length : Int) (services.length : Int) fan hS hM) ?_
     rintro _ h_16 ⟨F_16, r_13, rfl, hk, hS, hM⟩
     replace hK := hK.trans hk
     replace hLT := hLT.kp hk
     replace hLm := hLm.kp hk
     replace hLs := hLs.kp hk
     refine HA.val (k := 11) (v := .bool (!r_13)) rfl rfl (by kernel_rfl) (by kernel_rfl) (wby rfl rfl c_13) rfl (fun _ ⟨hLm, hLs, c304⟩ => q_not rfl) ?_
     refine HA.val (k := 12) (v := .bool (!r_13)) rfl rfl (by kernel_rfl) (by kernel_rfl) (wby rfl rfl c_13) rfl (fun _ ⟨hLm, hLs, c304⟩ => q_move rfl) ?_
     rcases Bool.eq_false_or_eq_true (!r_13) with c_14 | c_14
     ·
      replace hM := hM.1 c_14
      refine HA.val (k := 13) (v := .agg #[.int .i64 tR, vT]) rfl rfl (by kernel_rfl) (by kernel_rfl) (wby rfl rfl c_14) rfl (fun _ ⟨hLm, hLs, c304⟩ => q_loadAgg (cs := [.int .i64 tR, vT]) ta_31 rfl rfl (Blk.cells (k := 2) c304 rfl)) ?_
      refine HA.val (k := 14) (v := .int .i64 root) rfl rfl (by kernel_rfl) (by kernel_rfl) (wby rfl rfl c_14) rfl (fun _ ⟨hLm, hLs, c304⟩ => q_move rfl) ?_
      refine HA.val (k := 15) (v := vmembers) rfl rfl (by kernel_rfl) (by kernel_rfl) (wby rfl rfl c_14) rfl (fun _ ⟨hLm, hLs, c304⟩ => q_move rfl) ?_
      refine HA.one (k := 16) ⟨⟨hLm.is, hLs.is, (hS.box 0 rfl)⟩, (Go.Wk.at_nil _ _)⟩ (by kernel_rfl) ?_
      refine HS.call rfl (wby rfl rfl c_14) rfl (ec en_28 rfl rfl) (ref33_Star_walk (fr := (Ow.box b_1 31 #[.int .i64 tR, vT] :: Ow.own 3 1 encI vr_2 r_7 :: fr)) root members vmembers hS hLm hM) ?_
      rintro _ h_17 ⟨F_17, r_0_1, r_1_1, vr_1_1, rfl, hk, hS, _, hM⟩
      replace hK := hK.trans hk
      replace hLT := hLT.kp hk
      replace hLm := hLm.kp hk
      replace hLs := hLs.kp hk
      refine HA.one (k := 17) ⟨⟨hLm.is, hLs.is, (hS.box 1 rfl)⟩, (Go.Wk.at_nil _ _)⟩ (by kernel_rfl) ?_
      replace hS : St F_17 (Ow.own 52 2 eB vr_1_1 r_1_1 :: Ow.box b_1 31 #[.int .i64 tR, vT] :: Ow.own 3 1 encI vr_2 r_7 :: fr) h_17 := hS
      have hZ_2 := hS
      have hkz_2 := (hS.freeze).2
      replace hS := hS.freeze.1
      have hL_2 : SliceF (fun bz_ => F_17 bz_ ∨ (Ow.own 52 2 eB vr_1_1 r_1_1).foot bz_) h_17 2 eB vr_1_1 r_1_1 := ⟨(hZ_2.own 0 rfl).slice, fun _ b hb => .inr hb⟩
      refine HS.call rfl (wby rfl rfl c_14) rfl (ec en_14 rfl rfl) (ref32_Same_walk (fr := (Ow.box b_1 31 #[.int .i64 tR, vT] :: Ow.own 3 1 encI vr_2 r_7 :: fr)) tR tL r_0_1 r_1_1 vT vr_1_1 hS (hLT.kp hkz_2) hL_2 hM) ?_
      rintro _ h_18 ⟨F_18, r_14, rfl, hk, hS, _, _, hM⟩
      obtain ⟨hS, hk⟩ := hZ_2.back hk hS
      generalize (fun bz_ => F_18 bz_ ∧ ¬ (Ow.own 52 2 eB vr_1_1 r_1_1).foot bz_) = F_19 at hS hk
      replace hK := hK.trans hk
      replace hLT := hLT.kp hk
      replace hLm := hLm.kp hk
      replace hLs := hLs.kp hk
      refine HA.val (k := 18) (v := .bool r_14) rfl rfl (by kernel_rfl) (by kernel_rfl) (wby rfl rfl c_13) rfl (fun _ ⟨hLm, hLs, c304⟩ => q_pickK true rfl c_14 rfl) ?_
      refine HA.val (k := 19) (v := .bool r_14) rfl rfl (by kernel_rfl) (by kernel_rfl) (wn) rfl (fun _ ⟨hLm, hLs, c304⟩ => q_pickK false rfl c_13 rfl) ?_
      refine HA.val (k := 20) (v := .bool r_14) rfl rfl (by kernel_rfl) (by kernel_rfl) (wn) rfl (fun _ ⟨hLm, hLs, c304⟩ => q_assign rfl) ?_
      refine HA.nil ⟨⟨hLm.is, hLs.is, (hS.box 1 rfl)⟩, (Go.Wk.at_nil _ _)⟩ (by kernel_rfl) (tqn (?_))
      refine HW.ret (?_)
      refine ⟨.inr rfl, .bool r_14, res1 rfl (rt rfl), ?_⟩
      replace hS : St F_19 (fr) h_18 := hS.perm2 [] 3 rfl rfl
      exact ⟨F_19, r_14, rfl, hK, hS, hLT, hLm, hLs, hM⟩
     ·
      replace hM := hM.2 c_14
      refine HA.past (k := 13) rfl rfl (by kernel_rfl) (by kernel_rfl) (pby rfl rfl c_14) rfl ?_
      refine HA.past (k := 14) rfl rfl (by kernel_rfl) (by kernel_rfl) (pby rfl rfl c_14) rfl ?_
      refine HA.past (k := 15) rfl rfl (by kernel_rfl) (by kernel_rfl) (pby rfl rfl c_14) rfl ?_
      refine HA.one (k := 16) ⟨⟨hLm.is, hLs.is, (hS.box 0 rfl)⟩, (Go.Wk.at_nil _ _)⟩ (by kernel_rfl) ?_
      refine HS.past rfl (pby rfl rfl c_14) rfl ?_
      refine HA.one (k := 17) ⟨⟨hLm.is, hLs.is, (hS.box 0 rfl)⟩, (Go.Wk.at_nil _ _)⟩ (by kernel_rfl) ?_
      refine HS.past rfl (pby rfl rfl c_14) rfl ?_
      refine HA.val (k := 18) (v := .bool false) rfl rfl (by kernel_rfl) (by kernel_rfl) (wby rfl rfl c_13) rfl (fun _ ⟨hLm, hLs, c304⟩ => q_pickK false rfl c_14 rfl) ?_
      refine HA.val (k := 19) (v := .bool false) rfl rfl (by kernel_rfl) (by kernel_rfl) (wn) rfl (fun _ ⟨hLm, hLs, c304⟩ => q_pickK false rfl c_13 rfl) ?_
      refine HA.val (k := 20) (v := .bool false) rfl rfl (by kernel_rfl) (by kernel_rfl) (wn) rfl (fun _ ⟨hLm, hLs, c304⟩ => q_assign rfl) ?_
      refine HA.nil ⟨⟨hLm.is, hLs.is, (hS.box 0 rfl)⟩, (Go.Wk.at_nil _ _)⟩ (by kernel_rfl) (tqn (?_))
      refine HW.ret (?_)
      refine ⟨.inr rfl, .bool false, res1 rfl (rt rfl), ?_⟩
      replace hS : St F_16 (fr) h_16 := hS.perm2 [] 2 rfl rfl
      exact ⟨F_16, false, rfl, hK, hS, hLT, hLm, hLs, hM⟩
def law34_own_W (tR : Int) (tL : List TB) (Q : Int → (List TB) → Prop) : Prop :=
 ((([] : List TB).length + tL.length) * 16 ≤ 140737488355328) ∧ (Q tR (([] : List TB) ++ tL))
theorem law34_own_walk {F : Fz} {fr : List Ow} {h0 : Heap} (tR : Int) (tL : List TB) (vT : Value) (hS : St F (fr) h0) (hLT : SliceF F h0 2 eB vT tL) {Q : Int → (List TB) → Prop} (hM : law34_own_W tR tL Q) :
  HC Tryz.prog 10 #[.agg #[.int .i64 tR, vT]] h0 fun u h' => ∃ (F' : Fz) (r_0_1 : Int) (r_1_1 : List TB) (vr_1_1 : Value), u = .agg #[.int .i64 r_0_1, vr_1_1] ∧ Kp F h0 F' h' ∧ St F' (Ow.own 52 2 eB vr_1_1 r_1_1 :: fr) h' ∧ (SliceF F' h' 2 eB vT tL) ∧ Q r_0_1 r_1_1 := by
 unfold law34_own_W at hM
 have hK := Kp.refl F h0
 refine HC.of_HW (n := 10) Tryz.func10 rfl rfl (Nat.le_of_ble_eq_true rfl) ?_
 refine HW.seq ?_
 refine HW.region ?_
 refine HO.eff (wn) rfl (st_box (c := #[.int .i64 tR, vT]) (k' := 2) hS rfl rfl) ?_
 rintro _ h_1 ⟨b_1, rfl, hS, hk⟩
 replace hK := hK.trans hk
 replace hLT := hLT.kp hk
 refine HO.eff (wn) rfl (st_alloc (c := #[.int .i64 0, .slice none 0 0]) hS tz_31 rfl) ?_
 rintro _ h_2 ⟨b_2, rfl, hS, hk⟩
 replace hK := hK.trans hk
 replace hLT := hLT.kp hk
 refine HO.nil (tqn (?_))
 refine HW.seq ?_
 refine HW.regionA 8 mixed (fun h => (Blk h b_1 (.cells #[.int .i64 tR, vT] 31 (0, 0)))) [] (by kernel_rfl) ?_
 refine HA.val (k := 0) (v := .pointer (some ⟨b_1, 0, none⟩)) rfl rfl (by kernel_rfl) (by kernel_rfl) (wn) rfl (fun _ c202 => qfA fa_31_0 rfl rfl) ?_
 refine HA.val (k := 1) (v := .int .i64 tR) rfl rfl (by kernel_rfl) (by kernel_rfl) (wn) rfl (fun _ c202 => q_load to_3 rfl (Blk.cell c202 rfl)) ?_
 refine HA.val (k := 3) (v := .pointer (some ⟨b_1, 1, none⟩)) rfl rfl (by kernel_rfl) (by kernel_rfl) (wn) rfl (fun _ c202 => qfA fa_31_1 rfl rfl) ?_
 refine HA.val (k := 4) (v := vT) rfl rfl (by kernel_rfl) (by kernel_rfl) (wn) rfl (fun _ c202 => q_load to_29 rfl (Blk.cell c202 rfl)) ?_
 refine HA.one (k := 2) ⟨(hS.box 1 rfl), (Go.Wk.at_nil _ _)⟩ (by kernel_rfl) ?_
 refine HS.eff rfl (wn) rfl (st_litEmpty (α := TB) eB hS tl_29) ?_
 rintro _ h_3 ⟨b_3, rfl, hS, hk⟩
 replace hK := hK.trans hk
 replace hLT := hLT.kp hk
 refine Go.Wk.HA.re (fun h => (Blk h b_1 (.cells #[.int .i64 tR, vT] 31 (0, 0)))) [(5, fun h => (OwnIs h 0 52 2 eB (.slice (some ⟨b_3, 0, none⟩) 0 0) ([] : List TB)))] (fun L_ h_ hL_ c202 hs_ => ⟨c202, (Go.Wk.at_nil _ _)⟩) ?_
 refine HA.one (k := 5) ⟨(hS.box 2 rfl), (at_now (hS.own 0 rfl) (Go.Wk.at_nil _ _))⟩ (by kernel_rfl) ?_
 obtain ⟨ho_1, hM⟩ := hM
 refine HS.eff rfl (wn) rfl (st_append te_29 hS (i := 0) rfl hLT.is rfl rfl rfl (by intro a _ u hu; simp [eB, encI, encN, encB, encT] at hu; rcases hu with rfl | rfl <;> rfl) ho_1 (by omega)) ?_
 rintro v_1 h_4 ⟨hS, hk⟩
 replace hK := hK.trans hk
 replace hLT := hLT.kp hk
 refine Go.Wk.HA.re (fun h => (OwnIs h 0 52 2 eB v_1 (([] : List TB) ++ tL)) ∧ (Blk h b_1 (.cells #[.int .i64 tR, vT] 31 (0, 0)))) [] (fun L_ h_ hL_ ⟨c216, c202⟩ hs_ => ⟨c202, (at_gone hL_ (by kernel_rfl) (Go.Wk.at_nil _ _))⟩) ?_
 refine HA.val (k := 6) (v := .agg #[.int .i64 tR, v_1]) rfl rfl (by kernel_rfl) (by kernel_rfl) (wn) rfl (fun _ ⟨c216, c202⟩ => q_build tp_31 (fill_cons (cs' := #[.int .i64 tR, .slice none 0 0]) (vc := #[.int .i64 tR]) rfl rfl rfl (Nat.le_of_ble_eq_true rfl) rfl (fill_cons (cs' := #[.int .i64 tR, v_1]) (vc := #[v_1]) rfl (shp c216.slice).cells rfl (Nat.le_of_ble_eq_true rfl) rfl rfl))) ?_
 refine HA.one (k := 7) ⟨⟨(hS.own 0 rfl), (hS.box 2 rfl)⟩, (Go.Wk.at_nil _ _)⟩ (by kernel_rfl) ?_
 refine HS.sto rfl (wn) rfl (st_storeAgg (c' := #[.int .i64 tR, v_1]) hS (i := 1) rfl ta_31 rfl rfl rfl (List.forall_mem_cons.2 ⟨rfl, (List.forall_mem_cons.2 ⟨(shp (hS.own 0 rfl).slice).one, (fun _ h => by cases h)⟩)⟩) (Nat.le_of_ble_eq_true rfl) rfl) ?_
 rintro h_5 ⟨hS, hk⟩
 replace hK := hK.trans hk
 replace hLT := hLT.kp hk
 refine HA.nil ⟨⟨(hS.own 0 rfl), (hS.box 2 rfl)⟩, (Go.Wk.at_nil _ _)⟩ (by kernel_rfl) (tqn (?_))
 refine HW.ret (?_)
 refine ⟨.inr rfl, .agg #[.int .i64 tR, v_1], res1 rfl (rca (cs := [.int .i64 tR, v_1]) ta_31 rfl rfl (Blk.cells (k := 2) (hS.box 1 rfl) rfl)), ?_⟩
 replace hS : St F (Ow.own 52 2 eB v_1 (([] : List TB) ++ tL) :: fr) h_5 := hS.perm2 [0] 3 rfl rfl
 exact ⟨F, tR, ([] : List TB) ++ tL, v_1, rfl, hK, hS, hLT, hM⟩
def law34_copied_W (l : List Int) (Q : (List Int) → Prop) : Prop :=
 ((([] : List Int).length + l.length) * 8 ≤ 140737488355328) ∧ (Q (([] : List Int) ++ l))
theorem law34_copied_walk {F : Fz} {fr : List Ow} {h0 : Heap} (l : List Int) (vl : Value) (hS : St F (fr) h0) (hL_l : SliceF F h0 1 encI vl l) {Q : (List Int) → Prop} (hM : law34_copied_W l Q) :
  HC Tryz.prog 11 #[vl] h0 fun u h' => ∃ (F' : Fz) (r_1 : List Int) (vr_1 : Value), u = vr_1 ∧ Kp F h0 F' h' ∧ St F' (Ow.own 3 1 encI vr_1 r_1 :: fr) h' ∧ (SliceF F' h' 1 encI vl l) ∧ Q r_1 := by
 unfold law34_copied_W at hM
 have hK := Kp.refl F h0
 refine HC.of_HW (n := 6) Tryz.func11 rfl rfl (Nat.le_of_ble_eq_true rfl) ?_
 refine HW.seq ?_
 refine HW.region ?_
 refine oA (.slice none 0 0) rfl rfl ?_
 refine HO.nil (tqn (?_))
 refine HW.seq ?_
 refine HW.region ?_
 refine HO.eff (wn) rfl (st_litEmpty (α := Int) encI hS tl_22) ?_
 rintro _ h_1 ⟨b_1, rfl, hS, hk⟩
 replace hK := hK.trans hk
 replace hL_l := hL_l.kp hk
 refine oM (vl) rfl rfl ?_
 obtain ⟨ho_1, hM⟩ := hM
 refine HO.eff (wn) rfl (st_append te_22 hS (i := 0) rfl hL_l.is rfl rfl rfl (by intro a _ u hu; simp [encI, encI, encN, encB, encT] at hu; subst hu; rfl) ho_1 (by omega)) ?_
 rintro v_1 h_2 ⟨hS, hk⟩
 replace hK := hK.trans hk
 replace hL_l := hL_l.kp hk
 refine oA (v_1) rfl rfl ?_
 refine HO.nil (tqn (?_))
 refine HW.ret (?_)
 refine ⟨.inr rfl, v_1, res1 rfl (rt rfl), ?_⟩
 exact ⟨F, ([] : List Int) ++ l, v_1, rfl, hK, hS, hL_l, hM⟩
def law34_turned_l1 (by1 : Int) (Q : (List Int) → Prop) (K_1 : (List Int) → Int → Prop) (out_1 : List Int) (i_1 : Int) : Prop :=
 (i_1 < (out_1.length : Int) → (I64 (i_1 * 7)) ∧ ((I64 by1) ∧ ((I64 ((i_1 * 7) + by1)) ∧ (((out_1.length : Int) ≠ 0) ∧ (((0 : Int) ≤ ((i_1 * 7) + by1).tmod (out_1.length : Int) ∧ ((i_1 * 7) + by1).tmod (out_1.length : Int) < (out_1.length : Int)) ∧ (((0 : Int) ≤ i_1 ∧ i_1 < (out_1.length : Int)) ∧ (((0 : Int) ≤ ((i_1 * 7) + by1).tmod (out_1.length : Int) ∧ ((i_1 * 7) + by1).tmod (out_1.length : Int) < ((out_1.set (i_1).toNat (gi out_1 (((i_1 * 7) + by1).tmod (out_1.length : Int)))).length : Int)) ∧ ((I64 (i_1 + 1)) ∧ (K_1 ((out_1.set (i_1).toNat (gi out_1 (((i_1 * 7) + by1).tmod (out_1.length : Int)))).set (((i_1 * 7) + by1).tmod (out_1.length : Int)).toNat (gi out_1 i_1)) (i_1 + 1)))))))))) ∧ (¬ (i_1 < (out_1.length : Int)) → Q out_1)
def law34_turned_W (l : List Int) (by1 : Int) (Q : (List Int) → Prop) : Prop :=
 law34_copied_W l (fun r_2 => loopW (fun (K_1 : (List Int × Int) → Prop) (s : List Int × Int) => law34_turned_l1 by1 Q (fun out_1 i_1 => K_1 (out_1, i_1)) s.1 s.2) (r_2, 0))
theorem law34_turned_walk {F : Fz} {fr : List Ow} {h0 : Heap} (l : List Int) (by1 : Int) (vl : Value) (hS : St F (fr) h0) (hL_l : SliceF F h0 1 encI vl l) {Q : (List Int) → Prop} (hM : law34_turned_W l by1 Q) :
  HC Tryz.prog 6 #[vl, .int .u8 by1] h0 fun u h' => ∃ (F' : Fz) (r_1 : List Int) (vr_1 : Value), u = vr_1 ∧ Kp F h0 F' h' ∧ St F' (Ow.own 3 1 encI vr_1 r_1 :: fr) h' ∧ (SliceF F' h' 1 encI vl l) ∧ Q r_1 := by
 unfold law34_turned_W at hM
 have hK := Kp.refl F h0
 refine HC.of_HW (n := 39) Tryz.func6 rfl rfl (Nat.le_of_ble_eq_true rfl) ?_
 refine HW.seq ?_
 refine HW.region ?_
 refine oA (.slice none 0 0) rfl rfl ?_
 refine HO.nil (tqn (?_))
 refine HW.seq ?_
 refine HW.region ?_
 refine oM (vl) rfl rfl ?_
 refine HO.call (wn) rfl (ec en_11 rfl rfl) (law34_copied_walk (fr := (fr)) l vl hS hL_l hM) ?_
 rintro vr_2 h_1 ⟨F_1, r_2, _, rfl, hk, hS, _, hM⟩
 replace hK := hK.trans hk
 replace hL_l := hL_l.kp hk
 refine oA (vr_2) rfl rfl ?_
 refine HO.nil (tqn (?_))
 refine HW.seq ?_
 refine HW.seq ?_
 refine HW.region ?_
 refine oA (.int .i64 0) rfl rfl ?_
 refine HO.nil (tqn (?_))
 refine HW.block ?_
 obtain ⟨I_1, m_1, hI_1, hR_1⟩ := hM
 refine HW.loop (S := List Int × Int) (fun s f h => match s with | (out_1, i_1) => ∃ (F' : Fz), f 1 = .int .u8 by1 ∧ f 4 = .slice none 0 0 ∧ f 5 = vr_2 ∧ f 6 = .int .i64 i_1 ∧ Kp F h0 F' h ∧ St F' (Ow.own 3 1 encI vr_2 out_1 :: fr) h ∧ (SliceF F' h 1 encI vl l) ∧ I_1 (out_1, i_1)) m_1 (r_2, 0) ⟨F_1, rfl, rfl, rfl, rfl, hK, hS, hL_l, hI_1⟩ ?_
 rintro ⟨out_1, i_1⟩ f_1 h_2 ⟨F_2, e1, e4, e5, e6, hK, hS, hL_l, hI0⟩
 obtain ⟨K_1, hKe_1⟩ : ∃ K : (List Int) → Int → Prop, K = fun out_1' i_1' => I_1 (out_1', i_1') ∧ m_1 (out_1', i_1') < m_1 (out_1, i_1) := ⟨_, rfl⟩
 have hM : law34_turned_l1 by1 Q K_1 out_1 i_1 := by rw [hKe_1]; exact hR_1 (out_1, i_1) hI0
 unfold law34_turned_l1 at hM
 refine HW.fr [(1, .int .u8 by1), (4, .slice none 0 0), (5, vr_2), (6, .int .i64 i_1)] ⟨e1, e4, e5, e6, trivial⟩ ?_
 refine HW.seq ?_
 refine HW.seq ?_
 refine HW.region ?_
 refine oM (.int .i64 i_1) rfl rfl ?_
 refine oM (vr_2) rfl rfl ?_
 refine oV (.int .i64 (out_1.length : Int)) (q_len ts_22 (shp (hS.own 0 rfl).slice) rfl rfl) rfl ?_
 refine oV (.bool (decide (i_1 < (out_1.length : Int)))) (q_lss rfl rfl) rfl ?_
 refine HO.nil (tqn (?_))
 refine HW.cond (decide (i_1 < (out_1.length : Int))) rfl (fun c_1 => ?_) (fun c_1 => ?_)
 ·
  replace hM := hM.1 (of_decide_eq_true c_1)
  refine HW.skip (tqn (?_))
  refine HW.seq ?_
  refine HW.block ?_
  refine HW.seq ?_
  refine HW.region ?_
  refine oM (.int .i64 i_1) rfl rfl ?_
  obtain ⟨ho_1, hM⟩ := hM
  refine oV (.int .i64 (i_1 * 7)) (q_mulN _ rfl rfl rfl ho_1.1 ho_1.2) rfl ?_
  refine oM (.int .u8 by1) rfl rfl ?_
  obtain ⟨ho_2, hM⟩ := hM
  refine oV (.int .i64 by1) (q_convInt Tryz.underlying5 Tryz.underlying3 rfl (wrap_i64 ho_2.1 ho_2.2)) rfl ?_
  obtain ⟨ho_3, hM⟩ := hM
  refine oV (.int .i64 ((i_1 * 7) + by1)) (q_addN _ rfl rfl rfl ho_3.1 ho_3.2) rfl ?_
  refine oM (vr_2) rfl rfl ?_
  refine oV (.int .i64 (out_1.length : Int)) (q_len ts_22 (shp (hS.own 0 rfl).slice) rfl rfl) rfl ?_
  obtain ⟨ho_4, hM⟩ := hM
  refine oV (.int .i64 (((i_1 * 7) + by1).tmod (out_1.length : Int))) (q_rem rfl rfl ho_4) rfl ?_
  refine oA (.int .i64 (((i_1 * 7) + by1).tmod (out_1.length : Int))) rfl rfl ?_
  refine HO.nil (tqn (?_))
  refine HW.regionA 16 mixed (fun h => True) [(13, fun h => (OwnIs h 0 3 1 encI vr_2 out_1))] (by kernel_rfl) ?_
  refine HA.val (k := 0) (v := vr_2) rfl rfl (by kernel_rfl) (by kernel_rfl) (wn) rfl (fun _ _ => q_move rfl) ?_
  refine HA.val (k := 1) (v := .int .i64 i_1) rfl rfl (by kernel_rfl) (by kernel_rfl) (wn) rfl (fun _ _ => q_move rfl) ?_
  refine HA.val (k := 2) (v := vr_2) rfl rfl (by kernel_rfl) (by kernel_rfl) (wn) rfl (fun _ _ => q_move rfl) ?_
  refine HA.val (k := 3) (v := .int .i64 (((i_1 * 7) + by1).tmod (out_1.length : Int))) rfl rfl (by kernel_rfl) (by kernel_rfl) (wn) rfl (fun _ _ => q_move rfl) ?_
  refine HA.val (k := 4) (v := vr_2) rfl rfl (by kernel_rfl) (by kernel_rfl) (wn) rfl (fun _ _ => q_move rfl) ?_
  refine HA.val (k := 5) (v := .int .i64 (((i_1 * 7) + by1).tmod (out_1.length : Int))) rfl rfl (by kernel_rfl) (by kernel_rfl) (wn) rfl (fun _ _ => q_move rfl) ?_
  obtain ⟨ho_5, hM⟩ := hM
  refine Go.Wk.HA.valN (k := 6) (v := elemPtr 1 vr_2 (((i_1 * 7) + by1).tmod (out_1.length : Int)).toNat) 0 13 (fun h => (OwnIs h 0 3 1 encI vr_2 out_1)) rfl rfl (by kernel_rfl) (by kernel_rfl) (wn) rfl rfl (by kernel_rfl) (fun _ _ c353 => q_idx ts_22 c353.slice rfl rfl ho_5) ?_
  refine Go.Wk.HA.valN (k := 7) (v := .int .i64 (gi out_1 (((i_1 * 7) + by1).tmod (out_1.length : Int)))) 0 13 (fun h => (OwnIs h 0 3 1 encI vr_2 out_1)) rfl rfl (by kernel_rfl) (by kernel_rfl) (wn) rfl rfl (by kernel_rfl) (fun _ _ c353 => q_ldElem to_3 c353.slice rfl ho_5 rfl) ?_
  refine HA.val (k := 8) (v := vr_2) rfl rfl (by kernel_rfl) (by kernel_rfl) (wn) rfl (fun _ _ => q_move rfl) ?_
  refine HA.val (k := 9) (v := .int .i64 i_1) rfl rfl (by kernel_rfl) (by kernel_rfl) (wn) rfl (fun _ _ => q_move rfl) ?_
  obtain ⟨ho_6, hM⟩ := hM
  refine Go.Wk.HA.valN (k := 10) (v := elemPtr 1 vr_2 (i_1).toNat) 0 13 (fun h => (OwnIs h 0 3 1 encI vr_2 out_1)) rfl rfl (by kernel_rfl) (by kernel_rfl) (wn) rfl rfl (by kernel_rfl) (fun _ _ c353 => q_idx ts_22 c353.slice rfl rfl ho_6) ?_
  refine Go.Wk.HA.valN (k := 11) (v := .int .i64 (gi out_1 i_1)) 0 13 (fun h => (OwnIs h 0 3 1 encI vr_2 out_1)) rfl rfl (by kernel_rfl) (by kernel_rfl) (wn) rfl rfl (by kernel_rfl) (fun _ _ c353 => q_ldElem to_3 c353.slice rfl ho_6 rfl) ?_
  refine Go.Wk.HA.valN (k := 12) (v := elemPtr 1 vr_2 (i_1).toNat) 0 13 (fun h => (OwnIs h 0 3 1 encI vr_2 out_1)) rfl rfl (by kernel_rfl) (by kernel_rfl) (wn) rfl rfl (by kernel_rfl) (fun _ _ c353 => q_idx ts_22 c353.slice rfl rfl ho_6) ?_
  refine HA.one (k := 13) ⟨trivial, (at_now (hS.own 0 rfl) (Go.Wk.at_nil _ _))⟩ (by kernel_rfl) ?_
  refine HS.sto rfl (wn) rfl (st_storeField (a := (gi out_1 (((i_1 * 7) + by1).tmod (out_1.length : Int)))) (n := (i_1).toNat) (j := 0) hS (i := 0) rfl to_3 (elem_field _ _ _) (by omega) (by decide) rfl (by rw [← gi_lt ho_6.1 ho_6.2]; rfl) rfl rfl) ?_
  rintro h_3 ⟨hS, hk⟩
  replace hK := hK.trans hk
  replace hL_l := hL_l.kp hk
  refine Go.Wk.HA.re (fun h => True) [(15, fun h => (OwnIs h 0 3 1 encI vr_2 (out_1.set (i_1).toNat (gi out_1 (((i_1 * 7) + by1).tmod (out_1.length : Int))))))] (fun L_ h_ hL_ _ hs_ => ⟨trivial, (at_gone hL_ (by kernel_rfl) (Go.Wk.at_nil _ _))⟩) ?_
  obtain ⟨ho_7, hM⟩ := hM
  refine Go.Wk.HA.valN (k := 14) (v := elemPtr 1 vr_2 (((i_1 * 7) + by1).tmod (out_1.length : Int)).toNat) 0 15 (fun h => (OwnIs h 0 3 1 encI vr_2 (out_1.set (i_1).toNat (gi out_1 (((i_1 * 7) + by1).tmod (out_1.length : Int)))))) rfl rfl (by kernel_rfl) (by kernel_rfl) (wn) rfl rfl (by kernel_rfl) (fun _ _ c353 => q_idx ts_22 c353.slice rfl rfl ho_7) ?_
  refine HA.one (k := 15) ⟨trivial, (at_now (hS.own 0 rfl) (Go.Wk.at_nil _ _))⟩ (by kernel_rfl) ?_
  refine HS.sto rfl (wn) rfl (st_storeField (a := (gi out_1 i_1)) (n := (((i_1 * 7) + by1).tmod (out_1.length : Int)).toNat) (j := 0) hS (i := 0) rfl to_3 (elem_field _ _ _) (by omega) (by decide) rfl (by rw [← gi_lt ho_7.1 ho_7.2]; rfl) rfl rfl) ?_
  rintro h_4 ⟨hS, hk⟩
  replace hK := hK.trans hk
  replace hL_l := hL_l.kp hk
  refine HA.nil ⟨trivial, (at_done (by kernel_rfl) (Go.Wk.at_nil _ _))⟩ (by kernel_rfl) (blockQ_normal (tqn (?_)))
  refine HW.region ?_
  refine oM (.int .i64 i_1) rfl rfl ?_
  obtain ⟨ho_8, hM⟩ := hM
  refine oV (.int .i64 (i_1 + 1)) (q_addN _ rfl rfl rfl ho_8.1 ho_8.2) rfl ?_
  refine oA (.int .i64 (i_1 + 1)) rfl rfl ?_
  refine HO.nil (tqn (?_))
  rw [hKe_1] at hM
  exact ⟨((out_1.set (i_1).toNat (gi out_1 (((i_1 * 7) + by1).tmod (out_1.length : Int)))).set (((i_1 * 7) + by1).tmod (out_1.length : Int)).toNat (gi out_1 i_1), i_1 + 1), ⟨F_2, rfl, rfl, rfl, rfl, hK, hS, hL_l, hM.1⟩, hM.2⟩
 ·
  replace hM := hM.2 (of_decide_eq_false c_1)
  refine HW.exit (thenQ_exit (thenQ_exit (blockQ_exit (tqn (?_)))))
  refine HW.seq ?_
  refine HW.region ?_
  refine oM (vr_2) rfl rfl ?_
  refine oA (vr_2) rfl rfl ?_
  refine HO.nil (tqn (?_))
  refine HW.ret (?_)
  refine ⟨.inr rfl, vr_2, res1 rfl (rt rfl), ?_⟩
  exact ⟨F_2, out_1, vr_2, rfl, hK, hS, hL_l, hM⟩
end Go.Wk
