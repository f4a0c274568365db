/- Walks and mirrors of Merge laws. -/
import Derived.Test.YtokodpeigafenaaDoorMrcW3
set_option linter.unusedSimpArgs false
set_option linter.unusedVariables false
set_option linter.unusedSectionVars false
namespace Go.Wk
open Go.HL
open Go.Proofs hiding encI
variable [DM]

def law19_MergeChanges_l51 (x_A : T_api_Addr) (Q : Bool → Prop) (b_4 : Bool) (l_1 : List T_api_Addr) (r_2 : List T_api_Record) (K_1 : Bool → (List T_api_Addr) → (List T_api_Addr) → Int → Prop) (b_410 : Bool) (l_49 : List T_api_Addr) (l_50 : List T_api_Addr) (i_1 : Int) : Prop :=
  (i_1 < (r_2.length : Int) → ((0 : Int) ≤ i_1 ∧ i_1 < (r_2.length : Int)) ∧ (ref15_Apply_W b_410 l_49 l_50 ((gi r_2 i_1).1) (((gi r_2 i_1).2.2).2) (fun r_0_95 r_1_95 r_2_3 r_3_3 r_4_3 r_5_3 r_6_3 r_7_3 => (I64 (i_1 + 1)) ∧ (K_1 r_0_95 r_1_95 r_2_3 (i_1 + 1))))) ∧ (¬ (i_1 < (r_2.length : Int)) → ref19_Lets_W b_4 l_1 x_A (fun r_5 => ((!r_5) = true → law19_lives_W  (fun r_6 => Q r_6)) ∧ ((!r_5) = false → ref15_Lets_W b_410 l_49 l_50 x_A (fun r_7 => (r_7 = true → law19_lives_W  (fun r_8 => Q r_8)) ∧ (r_7 = false → Q false)))))
def law19_MergeChanges_j2 (x_A : T_api_Addr) (Q : Bool → Prop) (b_4 : Bool) (l_1 : List T_api_Addr) (r_2 : List T_api_Record) (b_409 : Bool) (l_47 : List T_api_Addr) (l_48 : List T_api_Addr) : Prop :=
  loopW (fun (K_1 : (Bool × List T_api_Addr × List T_api_Addr × Int) → Prop) (s : Bool × List T_api_Addr × List T_api_Addr × Int) => law19_MergeChanges_l51 x_A Q b_4 l_1 r_2 (fun b_410 l_49 l_50 i_1 => K_1 (b_410, l_49, l_50, i_1)) s.1 s.2.1 s.2.2.1 s.2.2.2) (b_409, l_47, l_48, 0)
def law19_MergeChanges_j1 (x_G : T_api_Addr) (x_A : T_api_Addr) (Q : Bool → Prop) (old_0_1 : Bool) (old_1_1 : List T_api_Addr) (b_4 : Bool) (l_1 : List T_api_Addr) : Prop :=
  law19_Few_W old_0_1 old_1_1 (fun r_0_91 r_1_91 => law19_Few_W b_4 l_1 (fun r_0_92 r_1_92 => merge_Change_W x_G r_0_91 r_1_91 r_0_92 r_1_92 (fun r_2 => ref19_Change_W x_G old_0_1 old_1_1 b_4 l_1 (fun r_3 => ref08_SameRecords_W r_2 r_3 (fun r_4 => ((!r_4) = true → Q false) ∧ ((!r_4) = false → (old_0_1 = true → ref15_Apply_W false [] [] 2 old_1_1 (fun r_0_93 r_1_93 r_2_1 r_3_1 r_4_1 r_5_1 r_6_1 r_7_1 => law19_MergeChanges_j2 x_A Q b_4 l_1 r_2 r_0_93 r_1_93 r_2_1)) ∧ (old_0_1 = false → ref15_Apply_W false [] [] 1 old_1_1 (fun r_0_94 r_1_94 r_2_2 r_3_2 r_4_2 r_5_2 r_6_2 r_7_2 => law19_MergeChanges_j2 x_A Q b_4 l_1 r_2 r_0_94 r_1_94 r_2_2))))))))
def law19_MergeChanges_W (xp : Bool) (yp : List T_api_Addr) (xo : Bool) (yo : List T_api_Addr) (x_G : T_api_Addr) (x_A : T_api_Addr) (x_L : List T_api_Addr) (Q : Bool → Prop) : Prop :=
  law19_Few_W xp yp (fun r_0_85 r_1_85 => law19_Few_W xo yo (fun r_0_86 r_1_86 => law19_MergeChanges_j1 x_G x_A Q r_0_85 r_1_85 r_0_86 r_1_86))
set_option maxHeartbeats 40000000 in
set_option maxRecDepth 100000 in
theorem law19_MergeChanges_walk {F : Fz} {fr : List Ow} {h0 : Heap} (xp : Bool) (yp : List T_api_Addr) (xo : Bool) (yo : List T_api_Addr) (x_G : T_api_Addr) (x_A : T_api_Addr) (x_L : List T_api_Addr) (vp : Value) (vo : Value) (vl : Value) (hS : St F (fr) h0) (hp : SliceF F h0 17 e_api_Addr vp yp) (ho : SliceF F h0 17 e_api_Addr vo yo) (hl : SliceF F h0 17 e_api_Addr vl x_L) (hD : DM.on = false) {Q : Bool → Prop} (hM : law19_MergeChanges_W xp yp xo yo x_G x_A x_L Q) :
    HC Tryd.prog 3 #[.agg (c_acequialaw19_One (.bool xp) vp (.bool xo) vo x_G x_A vl).toArray] h0 fun u h' => ∃ (F' : Fz) (r_1 : Bool), u = .bool r_1 ∧ Kp F h0 F' h' ∧ St F' (fr) h' ∧ (SliceF F' h' 17 e_api_Addr vp yp) ∧ (SliceF F' h' 17 e_api_Addr vo yo) ∧ (SliceF F' h' 17 e_api_Addr vl x_L) ∧ Q r_1 := by
  unfold law19_MergeChanges_W at hM
  have hK := Kp.refl F h0
  refine HC.of_HW (n := 77) Tryd.func3 rfl rfl (Nat.le_of_ble_eq_true rfl) ?_
  refine HW.seq ?_
  refine HW.region ?_
  refine HO.eff (want_none) rfl (st_box (c := (c_acequialaw19_One (.bool xp) vp (.bool xo) vo x_G x_A vl).toArray) (k' := 39) hS rfl rfl) ?_
  rintro _ h_1 ⟨b_1, rfl, hS, hk⟩
  replace hK := hK.trans hk
  replace hp := hp.kp hk
  replace ho := ho.kp hk
  replace hl := hl.kp hk
  refine HO.val (v := .bool false) (want_none) rfl (q_assign rfl) ?_
  refine HO.nil (thenQ_normal (?_))
  refine HW.seq_mid (fun f h => ∃ (F' : Fz) (old_0_1 : Bool) (old_1_1 : List T_api_Addr) (b_4 : Bool) (l_1 : List T_api_Addr) (b_2 : Nat) (vold_1_1 : Value) (b_3 : Nat) (v_1 : Value) (b_5 : Nat) (b_6 : Nat), f 2 = .bool false ∧ f 3 = .pointer (some ⟨b_2, 0, none⟩) ∧ f 4 = .pointer (some ⟨b_3, 0, none⟩) ∧ f 5 = .pointer (some ⟨b_5, 0, none⟩) ∧ f 6 = .pointer (some ⟨b_6, 0, none⟩) ∧ Kp F h0 F' h ∧ St F' (Ow.box b_2 24 #[.bool old_0_1, vold_1_1] :: Ow.box b_3 24 #[.bool b_4, v_1] :: Ow.box b_5 27 (e_api_Addr x_G).toArray :: Ow.box b_6 27 (e_api_Addr x_A).toArray :: fr) h ∧ (SliceF F' h 17 e_api_Addr vp yp) ∧ (SliceF F' h 17 e_api_Addr vo yo) ∧ (SliceF F' h 17 e_api_Addr vl x_L) ∧ (SliceF F' h 17 e_api_Addr vold_1_1 old_1_1) ∧ (SliceF F' h 17 e_api_Addr v_1 l_1) ∧ law19_MergeChanges_j1 x_G x_A Q old_0_1 old_1_1 b_4 l_1) ?_ ?_
  · refine HW.regionA 18 mixed (fun h => (Blk h b_1 (.cells (c_acequialaw19_One (.bool xp) vp (.bool xo) vo x_G x_A vl).toArray 29 (0, 0)))) [] (by kernel_rfl) ?_
    refine HA.val (k := 0) (v := .pointer (some ⟨b_1, 0, none⟩)) rfl rfl (by kernel_rfl) (by kernel_rfl) (want_none) rfl (fun _ c201 => q_fieldAddr fa_29_0 rfl rfl) ?_
    refine HA.val (k := 1) (v := .agg #[.bool xp, vp]) rfl rfl (by kernel_rfl) (by kernel_rfl) (want_none) rfl (fun _ c201 => q_loadAgg (cs := [.bool xp, vp]) ta_24 rfl rfl (Blk.cells (k := 2) c201 rfl)) ?_
    refine HA.val (k := 3) (v := .pointer (some ⟨b_1, 2, none⟩)) rfl rfl (by kernel_rfl) (by kernel_rfl) (want_none) rfl (fun _ c201 => q_fieldAddr fa_29_1 rfl rfl) ?_
    refine HA.val (k := 4) (v := .agg #[.bool xo, vo]) rfl rfl (by kernel_rfl) (by kernel_rfl) (want_none) rfl (fun _ c201 => q_loadAgg (cs := [.bool xo, vo]) ta_24 rfl rfl (Blk.cells (k := 2) c201 rfl)) ?_
    refine HA.val (k := 6) (v := .pointer (some ⟨b_1, 4, none⟩)) rfl rfl (by kernel_rfl) (by kernel_rfl) (want_none) rfl (fun _ c201 => q_fieldAddr fa_29_2 rfl rfl) ?_
    refine HA.val (k := 7) (v := .agg (e_api_Addr x_G).toArray) rfl rfl (by kernel_rfl) (by kernel_rfl) (want_none) rfl (fun _ c201 => q_loadAgg (cs := (e_api_Addr x_G)) ta_27 rfl rfl (Blk.cells (k := 17) c201 rfl)) ?_
    refine HA.val (k := 8) (v := .pointer (some ⟨b_1, 21, none⟩)) rfl rfl (by kernel_rfl) (by kernel_rfl) (want_none) rfl (fun _ c201 => q_fieldAddr fa_29_3 rfl rfl) ?_
    refine HA.val (k := 9) (v := .agg (e_api_Addr x_A).toArray) rfl rfl (by kernel_rfl) (by kernel_rfl) (want_none) rfl (fun _ c201 => q_loadAgg (cs := (e_api_Addr x_A)) ta_27 rfl rfl (Blk.cells (k := 17) c201 rfl)) ?_
    refine HA.node (C1 := fun (i : Fz × Bool × (List T_api_Addr) × Bool × (List T_api_Addr) × Nat × Nat × Nat × Nat × Value × Value) => match i with | (F', b_238, l_45, b_239, l_46, b_234, b_235, b_236, b_237, v_45, v_46) => fun h => (SliceIs h 17 e_api_Addr vp yp) ∧ (SliceIs h 17 e_api_Addr vo yo) ∧ (SliceIs h 17 e_api_Addr vl x_L) ∧ (SliceIs h 17 e_api_Addr v_45 l_45) ∧ (SliceIs h 17 e_api_Addr v_46 l_46) ∧ (Blk h b_1 (.cells (c_acequialaw19_One (.bool xp) vp (.bool xo) vo x_G x_A vl).toArray 29 (0, 0)))) (cs1 := fun (i : Fz × Bool × (List T_api_Addr) × Bool × (List T_api_Addr) × Nat × Nat × Nat × Nat × Value × Value) => match i with | (F', b_238, l_45, b_239, l_46, b_234, b_235, b_236, b_237, v_45, v_46) => [(14, fun h => (Blk h b_237 (.cells #[.bool false, .slice none 0 0] 24 (0, 0)))), (15, fun h => (Blk h b_236 (.cells #[.bool false, .slice none 0 0] 24 (0, 0)))), (16, fun h => (Blk h b_235 (.cells (e_api_Addr (false, (default : Ba 16))).toArray 27 (0, 0)))), (17, fun h => (Blk h b_234 (.cells (e_api_Addr (false, (default : Ba 16))).toArray 27 (0, 0))))]) (fuel1 := 4) (listed1 := #[true, true, true, true, true, true, true, true, true, true, true, true, true, true, false, false, false, false]) (fun (i : Fz × Bool × (List T_api_Addr) × Bool × (List T_api_Addr) × Nat × Nat × Nat × Nat × Value × Value) f h => match i with | (F', b_238, l_45, b_239, l_46, b_234, b_235, b_236, b_237, v_45, v_46) => f 0 = .agg (c_acequialaw19_One (.bool xp) vp (.bool xo) vo x_G x_A vl).toArray ∧ f 1 = .pointer (some ⟨b_1, 0, none⟩) ∧ f 2 = .bool false ∧ f 3 = .pointer (some ⟨b_237, 0, none⟩) ∧ f 4 = .pointer (some ⟨b_236, 0, none⟩) ∧ f 5 = .pointer (some ⟨b_235, 0, none⟩) ∧ f 6 = .pointer (some ⟨b_234, 0, none⟩) ∧ f 10 = .pointer (some ⟨b_1, 0, none⟩) ∧ f 11 = .agg #[.bool xp, vp] ∧ f 12 = .agg #[.bool b_238, v_45] ∧ f 13 = .pointer (some ⟨b_1, 2, none⟩) ∧ f 14 = .agg #[.bool xo, vo] ∧ f 15 = .agg #[.bool b_239, v_46] ∧ f 16 = .pointer (some ⟨b_1, 4, none⟩) ∧ f 17 = .agg (e_api_Addr x_G).toArray ∧ f 18 = .pointer (some ⟨b_1, 21, none⟩) ∧ f 19 = .agg (e_api_Addr x_A).toArray ∧ Kp F h0 F' h ∧ St F' (Ow.box b_234 27 (e_api_Addr (false, (default : Ba 16))).toArray :: Ow.box b_235 27 (e_api_Addr (false, (default : Ba 16))).toArray :: Ow.box b_236 24 #[.bool false, .slice none 0 0] :: Ow.box b_237 24 #[.bool false, .slice none 0 0] :: Ow.box b_1 29 (c_acequialaw19_One (.bool xp) vp (.bool xo) vo x_G x_A vl).toArray :: fr) h ∧ (SliceF F' h 17 e_api_Addr vp yp) ∧ (SliceF F' h 17 e_api_Addr vo yo) ∧ (SliceF F' h 17 e_api_Addr vl x_L) ∧ (SliceF F' h 17 e_api_Addr v_45 l_45) ∧ (SliceF F' h 17 e_api_Addr v_46 l_46) ∧ law19_MergeChanges_j1 x_G x_A Q b_238 l_45 b_239 l_46) ?_ (fun N_1 => ?_)
    · rintro ⟨F_35, b_238, l_45, b_239, l_46, b_234, b_235, b_236, b_237, v_45, v_46⟩ f_3 h_140 ⟨e0, e1, e2, e3, e4, e5, e6, e10, e11, e12, e13, e14, e15, e16, e17, e18, e19, hK, hS, hp, ho, hl, hL_78, hL_79, hM⟩
      refine HA.fr [(0, .agg (c_acequialaw19_One (.bool xp) vp (.bool xo) vo x_G x_A vl).toArray), (1, .pointer (some ⟨b_1, 0, none⟩)), (2, .bool false), (3, .pointer (some ⟨b_237, 0, none⟩)), (4, .pointer (some ⟨b_236, 0, none⟩)), (5, .pointer (some ⟨b_235, 0, none⟩)), (6, .pointer (some ⟨b_234, 0, none⟩)), (10, .pointer (some ⟨b_1, 0, none⟩)), (11, .agg #[.bool xp, vp]), (12, .agg #[.bool b_238, v_45]), (13, .pointer (some ⟨b_1, 2, none⟩)), (14, .agg #[.bool xo, vo]), (15, .agg #[.bool b_239, v_46]), (16, .pointer (some ⟨b_1, 4, none⟩)), (17, .agg (e_api_Addr x_G).toArray), (18, .pointer (some ⟨b_1, 21, none⟩)), (19, .agg (e_api_Addr x_A).toArray)] ⟨e0, e1, e2, e3, e4, e5, e6, e10, e11, e12, e13, e14, e15, e16, e17, e18, e19, trivial⟩ ?_
      refine HA.one (k := 14) ⟨⟨hp.is, ho.is, hl.is, hL_78.is, hL_79.is, (hS.box 4 rfl)⟩, (at_now (hS.box 3 rfl) (at_now (hS.box 2 rfl) (at_now (hS.box 1 rfl) (at_now (hS.box 0 rfl) (Go.Wk.at_nil _ _)))))⟩ (by kernel_rfl) ?_
      refine HS.sto rfl (want_none) rfl (st_storeAgg (c' := #[.bool b_238, v_45]) hS (i := 3) rfl ta_24 rfl rfl rfl (List.forall_mem_cons.2 ⟨rfl, (List.forall_mem_cons.2 ⟨(shp hL_78.is).one, (fun _ h => by cases h)⟩)⟩) (Nat.le_of_ble_eq_true rfl) rfl) ?_
      rintro h_141 ⟨hS, hk⟩
      replace hS : St F_35 (Ow.box b_234 27 (e_api_Addr (false, (default : Ba 16))).toArray :: Ow.box b_235 27 (e_api_Addr (false, (default : Ba 16))).toArray :: Ow.box b_236 24 #[.bool false, .slice none 0 0] :: Ow.box b_237 24 #[.bool b_238, v_45] :: Ow.box b_1 29 (c_acequialaw19_One (.bool xp) vp (.bool xo) vo x_G x_A vl).toArray :: fr) h_141 := hS
      replace hK := hK.trans hk
      replace hp := hp.kp hk
      replace ho := ho.kp hk
      replace hl := hl.kp hk
      replace hL_78 := hL_78.kp hk
      replace hL_79 := hL_79.kp hk
      refine HA.one (k := 15) ⟨⟨hp.is, ho.is, hl.is, hL_78.is, hL_79.is, (hS.box 4 rfl)⟩, (at_done (by kernel_rfl) (at_now (hS.box 2 rfl) (at_now (hS.box 1 rfl) (at_now (hS.box 0 rfl) (Go.Wk.at_nil _ _)))))⟩ (by kernel_rfl) ?_
      refine HS.sto rfl (want_none) rfl (st_storeAgg (c' := #[.bool b_239, v_46]) hS (i := 2) rfl ta_24 rfl rfl rfl (List.forall_mem_cons.2 ⟨rfl, (List.forall_mem_cons.2 ⟨(shp hL_79.is).one, (fun _ h => by cases h)⟩)⟩) (Nat.le_of_ble_eq_true rfl) rfl) ?_
      rintro h_142 ⟨hS, hk⟩
      replace hS : St F_35 (Ow.box b_234 27 (e_api_Addr (false, (default : Ba 16))).toArray :: Ow.box b_235 27 (e_api_Addr (false, (default : Ba 16))).toArray :: Ow.box b_236 24 #[.bool b_239, v_46] :: Ow.box b_237 24 #[.bool b_238, v_45] :: Ow.box b_1 29 (c_acequialaw19_One (.bool xp) vp (.bool xo) vo x_G x_A vl).toArray :: fr) h_142 := hS
      replace hK := hK.trans hk
      replace hp := hp.kp hk
      replace ho := ho.kp hk
      replace hl := hl.kp hk
      replace hL_78 := hL_78.kp hk
      replace hL_79 := hL_79.kp hk
      refine HA.one (k := 16) ⟨⟨hp.is, ho.is, hl.is, hL_78.is, hL_79.is, (hS.box 4 rfl)⟩, (at_done (by kernel_rfl) (at_done (by kernel_rfl) (at_now (hS.box 1 rfl) (at_now (hS.box 0 rfl) (Go.Wk.at_nil _ _)))))⟩ (by kernel_rfl) ?_
      refine HS.sto rfl (want_none) rfl (st_storeAgg (c' := (e_api_Addr x_G).toArray) hS (i := 1) rfl ta_27 rfl rfl rfl (one_e_api_Addr _) (Nat.le_of_ble_eq_true rfl) rfl) ?_
      rintro h_143 ⟨hS, hk⟩
      replace hS : St F_35 (Ow.box b_234 27 (e_api_Addr (false, (default : Ba 16))).toArray :: Ow.box b_235 27 (e_api_Addr x_G).toArray :: Ow.box b_236 24 #[.bool b_239, v_46] :: Ow.box b_237 24 #[.bool b_238, v_45] :: Ow.box b_1 29 (c_acequialaw19_One (.bool xp) vp (.bool xo) vo x_G x_A vl).toArray :: fr) h_143 := hS
      replace hK := hK.trans hk
      replace hp := hp.kp hk
      replace ho := ho.kp hk
      replace hl := hl.kp hk
      replace hL_78 := hL_78.kp hk
      replace hL_79 := hL_79.kp hk
      refine HA.one (k := 17) ⟨⟨hp.is, ho.is, hl.is, hL_78.is, hL_79.is, (hS.box 4 rfl)⟩, (at_done (by kernel_rfl) (at_done (by kernel_rfl) (at_done (by kernel_rfl) (at_now (hS.box 0 rfl) (Go.Wk.at_nil _ _)))))⟩ (by kernel_rfl) ?_
      refine HS.sto rfl (want_none) rfl (st_storeAgg (c' := (e_api_Addr x_A).toArray) hS (i := 0) rfl ta_27 rfl rfl rfl (one_e_api_Addr _) (Nat.le_of_ble_eq_true rfl) rfl) ?_
      rintro h_144 ⟨hS, hk⟩
      replace hS : St F_35 (Ow.box b_234 27 (e_api_Addr x_A).toArray :: Ow.box b_235 27 (e_api_Addr x_G).toArray :: Ow.box b_236 24 #[.bool b_239, v_46] :: Ow.box b_237 24 #[.bool b_238, v_45] :: Ow.box b_1 29 (c_acequialaw19_One (.bool xp) vp (.bool xo) vo x_G x_A vl).toArray :: fr) h_144 := hS
      replace hK := hK.trans hk
      replace hp := hp.kp hk
      replace ho := ho.kp hk
      replace hl := hl.kp hk
      replace hL_78 := hL_78.kp hk
      replace hL_79 := hL_79.kp hk
      refine HA.nil ⟨⟨hp.is, ho.is, hl.is, hL_78.is, hL_79.is, (hS.box 4 rfl)⟩, (at_done (by kernel_rfl) (at_done (by kernel_rfl) (at_done (by kernel_rfl) (at_done (by kernel_rfl) (Go.Wk.at_nil _ _)))))⟩ (by kernel_rfl) (thenQ_normal (?_))
      replace hS : St F_35 (Ow.box b_237 24 #[.bool b_238, v_45] :: Ow.box b_236 24 #[.bool b_239, v_46] :: Ow.box b_235 27 (e_api_Addr x_G).toArray :: Ow.box b_234 27 (e_api_Addr x_A).toArray :: fr) h_144 := hS.perm2 [3, 2, 1, 0] 5 rfl rfl
      exact ⟨F_35, b_238, l_45, b_239, l_46, b_237, v_45, b_236, v_46, b_235, b_234, rfl, rfl, rfl, rfl, rfl, hK, hS, hp, ho, hl, hL_78, hL_79, hM⟩
    refine HA.node (C1 := fun (i : Fz × Bool × (List T_api_Addr) × Bool × (List T_api_Addr) × Nat × Nat × Nat × Value × Value) => match i with | (F', b_208, l_36, b_209, l_37, b_205, b_206, b_207, v_36, v_37) => fun h => (SliceIs h 17 e_api_Addr vp yp) ∧ (SliceIs h 17 e_api_Addr vo yo) ∧ (SliceIs h 17 e_api_Addr vl x_L) ∧ (SliceIs h 17 e_api_Addr v_36 l_36) ∧ (SliceIs h 17 e_api_Addr v_37 l_37) ∧ (Blk h b_1 (.cells (c_acequialaw19_One (.bool xp) vp (.bool xo) vo x_G x_A vl).toArray 29 (0, 0)))) (cs1 := fun (i : Fz × Bool × (List T_api_Addr) × Bool × (List T_api_Addr) × Nat × Nat × Nat × Value × Value) => match i with | (F', b_208, l_36, b_209, l_37, b_205, b_206, b_207, v_36, v_37) => [(14, fun h => (Blk h b_207 (.cells #[.bool false, .slice none 0 0] 24 (0, 0)))), (15, fun h => (Blk h b_206 (.cells #[.bool false, .slice none 0 0] 24 (0, 0)))), (16, fun h => (Blk h b_205 (.cells (e_api_Addr (false, (default : Ba 16))).toArray 27 (0, 0))))]) (fuel1 := 5) (listed1 := #[true, true, true, true, true, true, true, true, true, true, true, true, true, false, false, false, false, false]) (fun (i : Fz × Bool × (List T_api_Addr) × Bool × (List T_api_Addr) × Nat × Nat × Nat × Value × Value) f h => match i with | (F', b_208, l_36, b_209, l_37, b_205, b_206, b_207, v_36, v_37) => f 0 = .agg (c_acequialaw19_One (.bool xp) vp (.bool xo) vo x_G x_A vl).toArray ∧ f 1 = .pointer (some ⟨b_1, 0, none⟩) ∧ f 2 = .bool false ∧ f 3 = .pointer (some ⟨b_207, 0, none⟩) ∧ f 4 = .pointer (some ⟨b_206, 0, none⟩) ∧ f 5 = .pointer (some ⟨b_205, 0, none⟩) ∧ f 10 = .pointer (some ⟨b_1, 0, none⟩) ∧ f 11 = .agg #[.bool xp, vp] ∧ f 12 = .agg #[.bool b_208, v_36] ∧ f 13 = .pointer (some ⟨b_1, 2, none⟩) ∧ f 14 = .agg #[.bool xo, vo] ∧ f 15 = .agg #[.bool b_209, v_37] ∧ f 16 = .pointer (some ⟨b_1, 4, none⟩) ∧ f 17 = .agg (e_api_Addr x_G).toArray ∧ f 18 = .pointer (some ⟨b_1, 21, none⟩) ∧ f 19 = .agg (e_api_Addr x_A).toArray ∧ Kp F h0 F' h ∧ St F' (Ow.box b_205 27 (e_api_Addr (false, (default : Ba 16))).toArray :: Ow.box b_206 24 #[.bool false, .slice none 0 0] :: Ow.box b_207 24 #[.bool false, .slice none 0 0] :: Ow.box b_1 29 (c_acequialaw19_One (.bool xp) vp (.bool xo) vo x_G x_A vl).toArray :: fr) h ∧ (SliceF F' h 17 e_api_Addr vp yp) ∧ (SliceF F' h 17 e_api_Addr vo yo) ∧ (SliceF F' h 17 e_api_Addr vl x_L) ∧ (SliceF F' h 17 e_api_Addr v_36 l_36) ∧ (SliceF F' h 17 e_api_Addr v_37 l_37) ∧ law19_MergeChanges_j1 x_G x_A Q b_208 l_36 b_209 l_37) ?_ (fun N_2 => ?_)
    · rintro ⟨F_38, b_208, l_36, b_209, l_37, b_205, b_206, b_207, v_36, v_37⟩ f_6 h_148 ⟨e0, e1, e2, e3, e4, e5, e10, e11, e12, e13, e14, e15, e16, e17, e18, e19, hK, hS, hp, ho, hl, hL_68, hL_69, hM⟩
      refine HA.fr [(0, .agg (c_acequialaw19_One (.bool xp) vp (.bool xo) vo x_G x_A vl).toArray), (1, .pointer (some ⟨b_1, 0, none⟩)), (2, .bool false), (3, .pointer (some ⟨b_207, 0, none⟩)), (4, .pointer (some ⟨b_206, 0, none⟩)), (5, .pointer (some ⟨b_205, 0, none⟩)), (10, .pointer (some ⟨b_1, 0, none⟩)), (11, .agg #[.bool xp, vp]), (12, .agg #[.bool b_208, v_36]), (13, .pointer (some ⟨b_1, 2, none⟩)), (14, .agg #[.bool xo, vo]), (15, .agg #[.bool b_209, v_37]), (16, .pointer (some ⟨b_1, 4, none⟩)), (17, .agg (e_api_Addr x_G).toArray), (18, .pointer (some ⟨b_1, 21, none⟩)), (19, .agg (e_api_Addr x_A).toArray)] ⟨e0, e1, e2, e3, e4, e5, e10, e11, e12, e13, e14, e15, e16, e17, e18, e19, trivial⟩ ?_
      refine HA.one (k := 13) ⟨⟨hp.is, ho.is, hl.is, hL_68.is, hL_69.is, (hS.box 3 rfl)⟩, (at_now (hS.box 2 rfl) (at_now (hS.box 1 rfl) (at_now (hS.box 0 rfl) (Go.Wk.at_nil _ _))))⟩ (by kernel_rfl) ?_
      refine HS.eff rfl (want_none) rfl (st_alloc (c := (e_api_Addr (false, (default : Ba 16))).toArray) hS tz_27 rfl) ?_
      rintro _ h_149 ⟨b_241, rfl, hS, hk⟩
      replace hK := hK.trans hk
      replace hp := hp.kp hk
      replace ho := ho.kp hk
      replace hl := hl.kp hk
      replace hL_68 := hL_68.kp hk
      replace hL_69 := hL_69.kp hk
      exact Go.Wk.HA.via (N_1 (F_38, b_208, l_36, b_209, l_37, b_241, b_205, b_206, b_207, v_36, v_37) _ _ ⟨rfl, rfl, rfl, rfl, rfl, rfl, rfl, rfl, rfl, rfl, rfl, rfl, rfl, rfl, rfl, rfl, rfl, hK, hS, hp, ho, hl, hL_68, hL_69, hM⟩) (fun L_ h_ hL_ ⟨hp, ho, hl, hL_68, hL_69, c201⟩ hs_ => ⟨⟨hp, ho, hl, hL_68, hL_69, c201⟩, (at_keep 0 rfl hs_ (fun c266 => c266) (at_keep 1 rfl hs_ (fun c272 => c272) (at_keep 2 rfl hs_ (fun c278 => c278) (Go.Wk.at_nil _ _))))⟩)
    refine HA.node (C1 := fun (i : Fz × Bool × (List T_api_Addr) × Bool × (List T_api_Addr) × Nat × Nat × Nat × Value × Value) => match i with | (F', b_214, l_38, b_215, l_39, b_211, b_212, b_213, v_38, v_39) => fun h => (SliceIs h 17 e_api_Addr vp yp) ∧ (SliceIs h 17 e_api_Addr vo yo) ∧ (SliceIs h 17 e_api_Addr vl x_L) ∧ (SliceIs h 17 e_api_Addr v_38 l_38) ∧ (SliceIs h 17 e_api_Addr v_39 l_39) ∧ (Blk h b_1 (.cells (c_acequialaw19_One (.bool xp) vp (.bool xo) vo x_G x_A vl).toArray 29 (0, 0)))) (cs1 := fun (i : Fz × Bool × (List T_api_Addr) × Bool × (List T_api_Addr) × Nat × Nat × Nat × Value × Value) => match i with | (F', b_214, l_38, b_215, l_39, b_211, b_212, b_213, v_38, v_39) => [(14, fun h => (Blk h b_213 (.cells #[.bool false, .slice none 0 0] 24 (0, 0)))), (15, fun h => (Blk h b_212 (.cells #[.bool false, .slice none 0 0] 24 (0, 0)))), (17, fun h => (Blk h b_211 (.cells (e_api_Addr (false, (default : Ba 16))).toArray 27 (0, 0))))]) (fuel1 := 5) (listed1 := #[true, true, true, true, true, true, true, true, true, true, true, true, false, true, false, false, false, false]) (fun (i : Fz × Bool × (List T_api_Addr) × Bool × (List T_api_Addr) × Nat × Nat × Nat × Value × Value) f h => match i with | (F', b_214, l_38, b_215, l_39, b_211, b_212, b_213, v_38, v_39) => f 0 = .agg (c_acequialaw19_One (.bool xp) vp (.bool xo) vo x_G x_A vl).toArray ∧ f 1 = .pointer (some ⟨b_1, 0, none⟩) ∧ f 2 = .bool false ∧ f 3 = .pointer (some ⟨b_213, 0, none⟩) ∧ f 4 = .pointer (some ⟨b_212, 0, none⟩) ∧ f 6 = .pointer (some ⟨b_211, 0, none⟩) ∧ f 10 = .pointer (some ⟨b_1, 0, none⟩) ∧ f 11 = .agg #[.bool xp, vp] ∧ f 12 = .agg #[.bool b_214, v_38] ∧ f 13 = .pointer (some ⟨b_1, 2, none⟩) ∧ f 14 = .agg #[.bool xo, vo] ∧ f 15 = .agg #[.bool b_215, v_39] ∧ f 16 = .pointer (some ⟨b_1, 4, none⟩) ∧ f 17 = .agg (e_api_Addr x_G).toArray ∧ f 18 = .pointer (some ⟨b_1, 21, none⟩) ∧ f 19 = .agg (e_api_Addr x_A).toArray ∧ Kp F h0 F' h ∧ St F' (Ow.box b_211 27 (e_api_Addr (false, (default : Ba 16))).toArray :: Ow.box b_212 24 #[.bool false, .slice none 0 0] :: Ow.box b_213 24 #[.bool false, .slice none 0 0] :: Ow.box b_1 29 (c_acequialaw19_One (.bool xp) vp (.bool xo) vo x_G x_A vl).toArray :: fr) h ∧ (SliceF F' h 17 e_api_Addr vp yp) ∧ (SliceF F' h 17 e_api_Addr vo yo) ∧ (SliceF F' h 17 e_api_Addr vl x_L) ∧ (SliceF F' h 17 e_api_Addr v_38 l_38) ∧ (SliceF F' h 17 e_api_Addr v_39 l_39) ∧ law19_MergeChanges_j1 x_G x_A Q b_214 l_38 b_215 l_39) ?_ (fun N_3 => ?_)
    · rintro ⟨F_41, b_214, l_38, b_215, l_39, b_211, b_212, b_213, v_38, v_39⟩ f_9 h_153 ⟨e0, e1, e2, e3, e4, e6, e10, e11, e12, e13, e14, e15, e16, e17, e18, e19, hK, hS, hp, ho, hl, hL_70, hL_71, hM⟩
      refine HA.fr [(0, .agg (c_acequialaw19_One (.bool xp) vp (.bool xo) vo x_G x_A vl).toArray), (1, .pointer (some ⟨b_1, 0, none⟩)), (2, .bool false), (3, .pointer (some ⟨b_213, 0, none⟩)), (4, .pointer (some ⟨b_212, 0, none⟩)), (6, .pointer (some ⟨b_211, 0, none⟩)), (10, .pointer (some ⟨b_1, 0, none⟩)), (11, .agg #[.bool xp, vp]), (12, .agg #[.bool b_214, v_38]), (13, .pointer (some ⟨b_1, 2, none⟩)), (14, .agg #[.bool xo, vo]), (15, .agg #[.bool b_215, v_39]), (16, .pointer (some ⟨b_1, 4, none⟩)), (17, .agg (e_api_Addr x_G).toArray), (18, .pointer (some ⟨b_1, 21, none⟩)), (19, .agg (e_api_Addr x_A).toArray)] ⟨e0, e1, e2, e3, e4, e6, e10, e11, e12, e13, e14, e15, e16, e17, e18, e19, trivial⟩ ?_
      refine HA.one (k := 12) ⟨⟨hp.is, ho.is, hl.is, hL_70.is, hL_71.is, (hS.box 3 rfl)⟩, (at_now (hS.box 2 rfl) (at_now (hS.box 1 rfl) (at_now (hS.box 0 rfl) (Go.Wk.at_nil _ _))))⟩ (by kernel_rfl) ?_
      refine HS.eff rfl (want_none) rfl (st_alloc (c := (e_api_Addr (false, (default : Ba 16))).toArray) hS tz_27 rfl) ?_
      rintro _ h_154 ⟨b_243, rfl, hS, hk⟩
      replace hK := hK.trans hk
      replace hp := hp.kp hk
      replace ho := ho.kp hk
      replace hl := hl.kp hk
      replace hL_70 := hL_70.kp hk
      replace hL_71 := hL_71.kp hk
      replace hS : St F_41 (Ow.box b_211 27 (e_api_Addr (false, (default : Ba 16))).toArray :: Ow.box b_243 27 (e_api_Addr (false, (default : Ba 16))).toArray :: Ow.box b_212 24 #[.bool false, .slice none 0 0] :: Ow.box b_213 24 #[.bool false, .slice none 0 0] :: Ow.box b_1 29 (c_acequialaw19_One (.bool xp) vp (.bool xo) vo x_G x_A vl).toArray :: fr) h_154 := hS.perm2 [1, 0, 2, 3, 4] 5 rfl rfl
      exact Go.Wk.HA.via (N_1 (F_41, b_214, l_38, b_215, l_39, b_211, b_243, b_212, b_213, v_38, v_39) _ _ ⟨rfl, rfl, rfl, rfl, rfl, rfl, rfl, rfl, rfl, rfl, rfl, rfl, rfl, rfl, rfl, rfl, rfl, hK, hS, hp, ho, hl, hL_70, hL_71, hM⟩) (fun L_ h_ hL_ ⟨hp, ho, hl, hL_70, hL_71, c201⟩ hs_ => ⟨⟨hp, ho, hl, hL_70, hL_71, c201⟩, (at_keep 0 rfl hs_ (fun c266 => c266) (at_keep 1 rfl hs_ (fun c272 => c272) (at_keep 3 rfl hs_ (fun c284 => c284) (Go.Wk.at_nil _ _))))⟩)
    refine HA.node (C1 := fun (i : Fz × Bool × (List T_api_Addr) × Bool × (List T_api_Addr) × Nat × Nat × Nat × Value × Value) => match i with | (F', b_220, l_40, b_221, l_41, b_217, b_218, b_219, v_40, v_41) => fun h => (SliceIs h 17 e_api_Addr vp yp) ∧ (SliceIs h 17 e_api_Addr vo yo) ∧ (SliceIs h 17 e_api_Addr vl x_L) ∧ (SliceIs h 17 e_api_Addr v_40 l_40) ∧ (SliceIs h 17 e_api_Addr v_41 l_41) ∧ (Blk h b_1 (.cells (c_acequialaw19_One (.bool xp) vp (.bool xo) vo x_G x_A vl).toArray 29 (0, 0)))) (cs1 := fun (i : Fz × Bool × (List T_api_Addr) × Bool × (List T_api_Addr) × Nat × Nat × Nat × Value × Value) => match i with | (F', b_220, l_40, b_221, l_41, b_217, b_218, b_219, v_40, v_41) => [(14, fun h => (Blk h b_219 (.cells #[.bool false, .slice none 0 0] 24 (0, 0)))), (16, fun h => (Blk h b_218 (.cells (e_api_Addr (false, (default : Ba 16))).toArray 27 (0, 0)))), (17, fun h => (Blk h b_217 (.cells (e_api_Addr (false, (default : Ba 16))).toArray 27 (0, 0))))]) (fuel1 := 5) (listed1 := #[true, true, true, true, true, true, true, true, true, true, true, false, true, true, false, false, false, false]) (fun (i : Fz × Bool × (List T_api_Addr) × Bool × (List T_api_Addr) × Nat × Nat × Nat × Value × Value) f h => match i with | (F', b_220, l_40, b_221, l_41, b_217, b_218, b_219, v_40, v_41) => f 0 = .agg (c_acequialaw19_One (.bool xp) vp (.bool xo) vo x_G x_A vl).toArray ∧ f 1 = .pointer (some ⟨b_1, 0, none⟩) ∧ f 2 = .bool false ∧ f 3 = .pointer (some ⟨b_219, 0, none⟩) ∧ f 5 = .pointer (some ⟨b_218, 0, none⟩) ∧ f 6 = .pointer (some ⟨b_217, 0, none⟩) ∧ f 10 = .pointer (some ⟨b_1, 0, none⟩) ∧ f 11 = .agg #[.bool xp, vp] ∧ f 12 = .agg #[.bool b_220, v_40] ∧ f 13 = .pointer (some ⟨b_1, 2, none⟩) ∧ f 14 = .agg #[.bool xo, vo] ∧ f 15 = .agg #[.bool b_221, v_41] ∧ f 16 = .pointer (some ⟨b_1, 4, none⟩) ∧ f 17 = .agg (e_api_Addr x_G).toArray ∧ f 18 = .pointer (some ⟨b_1, 21, none⟩) ∧ f 19 = .agg (e_api_Addr x_A).toArray ∧ Kp F h0 F' h ∧ St F' (Ow.box b_217 27 (e_api_Addr (false, (default : Ba 16))).toArray :: Ow.box b_218 27 (e_api_Addr (false, (default : Ba 16))).toArray :: Ow.box b_219 24 #[.bool false, .slice none 0 0] :: Ow.box b_1 29 (c_acequialaw19_One (.bool xp) vp (.bool xo) vo x_G x_A vl).toArray :: fr) h ∧ (SliceF F' h 17 e_api_Addr vp yp) ∧ (SliceF F' h 17 e_api_Addr vo yo) ∧ (SliceF F' h 17 e_api_Addr vl x_L) ∧ (SliceF F' h 17 e_api_Addr v_40 l_40) ∧ (SliceF F' h 17 e_api_Addr v_41 l_41) ∧ law19_MergeChanges_j1 x_G x_A Q b_220 l_40 b_221 l_41) ?_ (fun N_4 => ?_)
    · rintro ⟨F_44, b_220, l_40, b_221, l_41, b_217, b_218, b_219, v_40, v_41⟩ f_12 h_158 ⟨e0, e1, e2, e3, e5, e6, e10, e11, e12, e13, e14, e15, e16, e17, e18, e19, hK, hS, hp, ho, hl, hL_72, hL_73, hM⟩
      refine HA.fr [(0, .agg (c_acequialaw19_One (.bool xp) vp (.bool xo) vo x_G x_A vl).toArray), (1, .pointer (some ⟨b_1, 0, none⟩)), (2, .bool false), (3, .pointer (some ⟨b_219, 0, none⟩)), (5, .pointer (some ⟨b_218, 0, none⟩)), (6, .pointer (some ⟨b_217, 0, none⟩)), (10, .pointer (some ⟨b_1, 0, none⟩)), (11, .agg #[.bool xp, vp]), (12, .agg #[.bool b_220, v_40]), (13, .pointer (some ⟨b_1, 2, none⟩)), (14, .agg #[.bool xo, vo]), (15, .agg #[.bool b_221, v_41]), (16, .pointer (some ⟨b_1, 4, none⟩)), (17, .agg (e_api_Addr x_G).toArray), (18, .pointer (some ⟨b_1, 21, none⟩)), (19, .agg (e_api_Addr x_A).toArray)] ⟨e0, e1, e2, e3, e5, e6, e10, e11, e12, e13, e14, e15, e16, e17, e18, e19, trivial⟩ ?_
      refine HA.one (k := 11) ⟨⟨hp.is, ho.is, hl.is, hL_72.is, hL_73.is, (hS.box 3 rfl)⟩, (at_now (hS.box 2 rfl) (at_now (hS.box 1 rfl) (at_now (hS.box 0 rfl) (Go.Wk.at_nil _ _))))⟩ (by kernel_rfl) ?_
      refine HS.eff rfl (want_none) rfl (st_alloc (c := #[.bool false, .slice none 0 0]) hS tz_24 rfl) ?_
      rintro _ h_159 ⟨b_245, rfl, hS, hk⟩
      replace hK := hK.trans hk
      replace hp := hp.kp hk
      replace ho := ho.kp hk
      replace hl := hl.kp hk
      replace hL_72 := hL_72.kp hk
      replace hL_73 := hL_73.kp hk
      replace hS : St F_44 (Ow.box b_217 27 (e_api_Addr (false, (default : Ba 16))).toArray :: Ow.box b_218 27 (e_api_Addr (false, (default : Ba 16))).toArray :: Ow.box b_245 24 #[.bool false, .slice none 0 0] :: Ow.box b_219 24 #[.bool false, .slice none 0 0] :: Ow.box b_1 29 (c_acequialaw19_One (.bool xp) vp (.bool xo) vo x_G x_A vl).toArray :: fr) h_159 := hS.perm2 [1, 2, 0, 3, 4] 5 rfl rfl
      exact Go.Wk.HA.via (N_1 (F_44, b_220, l_40, b_221, l_41, b_217, b_218, b_245, b_219, v_40, v_41) _ _ ⟨rfl, rfl, rfl, rfl, rfl, rfl, rfl, rfl, rfl, rfl, rfl, rfl, rfl, rfl, rfl, rfl, rfl, hK, hS, hp, ho, hl, hL_72, hL_73, hM⟩) (fun L_ h_ hL_ ⟨hp, ho, hl, hL_72, hL_73, c201⟩ hs_ => ⟨⟨hp, ho, hl, hL_72, hL_73, c201⟩, (at_keep 0 rfl hs_ (fun c266 => c266) (at_keep 2 rfl hs_ (fun c278 => c278) (at_keep 3 rfl hs_ (fun c284 => c284) (Go.Wk.at_nil _ _))))⟩)
    refine HA.node (C1 := fun (i : Fz × Bool × (List T_api_Addr) × Bool × (List T_api_Addr) × Nat × Nat × Nat × Value × Value) => match i with | (F', b_226, l_42, b_227, l_43, b_223, b_224, b_225, v_42, v_43) => fun h => (SliceIs h 17 e_api_Addr vp yp) ∧ (SliceIs h 17 e_api_Addr vo yo) ∧ (SliceIs h 17 e_api_Addr vl x_L) ∧ (SliceIs h 17 e_api_Addr v_42 l_42) ∧ (SliceIs h 17 e_api_Addr v_43 l_43) ∧ (Blk h b_1 (.cells (c_acequialaw19_One (.bool xp) vp (.bool xo) vo x_G x_A vl).toArray 29 (0, 0)))) (cs1 := fun (i : Fz × Bool × (List T_api_Addr) × Bool × (List T_api_Addr) × Nat × Nat × Nat × Value × Value) => match i with | (F', b_226, l_42, b_227, l_43, b_223, b_224, b_225, v_42, v_43) => [(15, fun h => (Blk h b_225 (.cells #[.bool false, .slice none 0 0] 24 (0, 0)))), (16, fun h => (Blk h b_224 (.cells (e_api_Addr (false, (default : Ba 16))).toArray 27 (0, 0)))), (17, fun h => (Blk h b_223 (.cells (e_api_Addr (false, (default : Ba 16))).toArray 27 (0, 0))))]) (fuel1 := 5) (listed1 := #[true, true, true, true, true, true, true, true, true, true, false, true, true, true, false, false, false, false]) (fun (i : Fz × Bool × (List T_api_Addr) × Bool × (List T_api_Addr) × Nat × Nat × Nat × Value × Value) f h => match i with | (F', b_226, l_42, b_227, l_43, b_223, b_224, b_225, v_42, v_43) => f 0 = .agg (c_acequialaw19_One (.bool xp) vp (.bool xo) vo x_G x_A vl).toArray ∧ f 1 = .pointer (some ⟨b_1, 0, none⟩) ∧ f 2 = .bool false ∧ f 4 = .pointer (some ⟨b_225, 0, none⟩) ∧ f 5 = .pointer (some ⟨b_224, 0, none⟩) ∧ f 6 = .pointer (some ⟨b_223, 0, none⟩) ∧ f 10 = .pointer (some ⟨b_1, 0, none⟩) ∧ f 11 = .agg #[.bool xp, vp] ∧ f 12 = .agg #[.bool b_226, v_42] ∧ f 13 = .pointer (some ⟨b_1, 2, none⟩) ∧ f 14 = .agg #[.bool xo, vo] ∧ f 15 = .agg #[.bool b_227, v_43] ∧ f 16 = .pointer (some ⟨b_1, 4, none⟩) ∧ f 17 = .agg (e_api_Addr x_G).toArray ∧ f 18 = .pointer (some ⟨b_1, 21, none⟩) ∧ f 19 = .agg (e_api_Addr x_A).toArray ∧ Kp F h0 F' h ∧ St F' (Ow.box b_223 27 (e_api_Addr (false, (default : Ba 16))).toArray :: Ow.box b_224 27 (e_api_Addr (false, (default : Ba 16))).toArray :: Ow.box b_225 24 #[.bool false, .slice none 0 0] :: Ow.box b_1 29 (c_acequialaw19_One (.bool xp) vp (.bool xo) vo x_G x_A vl).toArray :: fr) h ∧ (SliceF F' h 17 e_api_Addr vp yp) ∧ (SliceF F' h 17 e_api_Addr vo yo) ∧ (SliceF F' h 17 e_api_Addr vl x_L) ∧ (SliceF F' h 17 e_api_Addr v_42 l_42) ∧ (SliceF F' h 17 e_api_Addr v_43 l_43) ∧ law19_MergeChanges_j1 x_G x_A Q b_226 l_42 b_227 l_43) ?_ (fun N_5 => ?_)
    · rintro ⟨F_47, b_226, l_42, b_227, l_43, b_223, b_224, b_225, v_42, v_43⟩ f_15 h_163 ⟨e0, e1, e2, e4, e5, e6, e10, e11, e12, e13, e14, e15, e16, e17, e18, e19, hK, hS, hp, ho, hl, hL_74, hL_75, hM⟩
      refine HA.fr [(0, .agg (c_acequialaw19_One (.bool xp) vp (.bool xo) vo x_G x_A vl).toArray), (1, .pointer (some ⟨b_1, 0, none⟩)), (2, .bool false), (4, .pointer (some ⟨b_225, 0, none⟩)), (5, .pointer (some ⟨b_224, 0, none⟩)), (6, .pointer (some ⟨b_223, 0, none⟩)), (10, .pointer (some ⟨b_1, 0, none⟩)), (11, .agg #[.bool xp, vp]), (12, .agg #[.bool b_226, v_42]), (13, .pointer (some ⟨b_1, 2, none⟩)), (14, .agg #[.bool xo, vo]), (15, .agg #[.bool b_227, v_43]), (16, .pointer (some ⟨b_1, 4, none⟩)), (17, .agg (e_api_Addr x_G).toArray), (18, .pointer (some ⟨b_1, 21, none⟩)), (19, .agg (e_api_Addr x_A).toArray)] ⟨e0, e1, e2, e4, e5, e6, e10, e11, e12, e13, e14, e15, e16, e17, e18, e19, trivial⟩ ?_
      refine HA.one (k := 10) ⟨⟨hp.is, ho.is, hl.is, hL_74.is, hL_75.is, (hS.box 3 rfl)⟩, (at_now (hS.box 2 rfl) (at_now (hS.box 1 rfl) (at_now (hS.box 0 rfl) (Go.Wk.at_nil _ _))))⟩ (by kernel_rfl) ?_
      refine HS.eff rfl (want_none) rfl (st_alloc (c := #[.bool false, .slice none 0 0]) hS tz_24 rfl) ?_
      rintro _ h_164 ⟨b_247, rfl, hS, hk⟩
      replace hK := hK.trans hk
      replace hp := hp.kp hk
      replace ho := ho.kp hk
      replace hl := hl.kp hk
      replace hL_74 := hL_74.kp hk
      replace hL_75 := hL_75.kp hk
      replace hS : St F_47 (Ow.box b_223 27 (e_api_Addr (false, (default : Ba 16))).toArray :: Ow.box b_224 27 (e_api_Addr (false, (default : Ba 16))).toArray :: Ow.box b_225 24 #[.bool false, .slice none 0 0] :: Ow.box b_247 24 #[.bool false, .slice none 0 0] :: Ow.box b_1 29 (c_acequialaw19_One (.bool xp) vp (.bool xo) vo x_G x_A vl).toArray :: fr) h_164 := hS.perm2 [1, 2, 3, 0, 4] 5 rfl rfl
      exact Go.Wk.HA.via (N_1 (F_47, b_226, l_42, b_227, l_43, b_223, b_224, b_225, b_247, v_42, v_43) _ _ ⟨rfl, rfl, rfl, rfl, rfl, rfl, rfl, rfl, rfl, rfl, rfl, rfl, rfl, rfl, rfl, rfl, rfl, hK, hS, hp, ho, hl, hL_74, hL_75, hM⟩) (fun L_ h_ hL_ ⟨hp, ho, hl, hL_74, hL_75, c201⟩ hs_ => ⟨⟨hp, ho, hl, hL_74, hL_75, c201⟩, (at_keep 1 rfl hs_ (fun c272 => c272) (at_keep 2 rfl hs_ (fun c278 => c278) (at_keep 3 rfl hs_ (fun c284 => c284) (Go.Wk.at_nil _ _))))⟩)
    refine HA.node (C1 := fun (i : Fz × Bool × (List T_api_Addr) × Nat × Nat × Nat × Nat × Value) => match i with | (F', b_233, l_44, b_229, b_230, b_231, b_232, v_44) => fun h => (SliceIs h 17 e_api_Addr vp yp) ∧ (SliceIs h 17 e_api_Addr vo yo) ∧ (SliceIs h 17 e_api_Addr vl x_L) ∧ (SliceIs h 17 e_api_Addr v_44 l_44) ∧ (Blk h b_1 (.cells (c_acequialaw19_One (.bool xp) vp (.bool xo) vo x_G x_A vl).toArray 29 (0, 0)))) (cs1 := fun (i : Fz × Bool × (List T_api_Addr) × Nat × Nat × Nat × Nat × Value) => match i with | (F', b_233, l_44, b_229, b_230, b_231, b_232, v_44) => [(14, fun h => (Blk h b_232 (.cells #[.bool false, .slice none 0 0] 24 (0, 0)))), (15, fun h => (Blk h b_231 (.cells #[.bool false, .slice none 0 0] 24 (0, 0)))), (16, fun h => (Blk h b_230 (.cells (e_api_Addr (false, (default : Ba 16))).toArray 27 (0, 0)))), (17, fun h => (Blk h b_229 (.cells (e_api_Addr (false, (default : Ba 16))).toArray 27 (0, 0))))]) (fuel1 := 5) (listed1 := #[true, true, true, true, true, false, true, true, true, true, true, true, true, true, false, false, false, false]) (fun (i : Fz × Bool × (List T_api_Addr) × Nat × Nat × Nat × Nat × Value) f h => match i with | (F', b_233, l_44, b_229, b_230, b_231, b_232, v_44) => f 0 = .agg (c_acequialaw19_One (.bool xp) vp (.bool xo) vo x_G x_A vl).toArray ∧ f 1 = .pointer (some ⟨b_1, 0, none⟩) ∧ f 2 = .bool false ∧ f 3 = .pointer (some ⟨b_232, 0, none⟩) ∧ f 4 = .pointer (some ⟨b_231, 0, none⟩) ∧ f 5 = .pointer (some ⟨b_230, 0, none⟩) ∧ f 6 = .pointer (some ⟨b_229, 0, none⟩) ∧ f 10 = .pointer (some ⟨b_1, 0, none⟩) ∧ f 11 = .agg #[.bool xp, vp] ∧ f 12 = .agg #[.bool b_233, v_44] ∧ f 13 = .pointer (some ⟨b_1, 2, none⟩) ∧ f 14 = .agg #[.bool xo, vo] ∧ f 16 = .pointer (some ⟨b_1, 4, none⟩) ∧ f 17 = .agg (e_api_Addr x_G).toArray ∧ f 18 = .pointer (some ⟨b_1, 21, none⟩) ∧ f 19 = .agg (e_api_Addr x_A).toArray ∧ Kp F h0 F' h ∧ St F' (Ow.box b_229 27 (e_api_Addr (false, (default : Ba 16))).toArray :: Ow.box b_230 27 (e_api_Addr (false, (default : Ba 16))).toArray :: Ow.box b_231 24 #[.bool false, .slice none 0 0] :: Ow.box b_232 24 #[.bool false, .slice none 0 0] :: Ow.box b_1 29 (c_acequialaw19_One (.bool xp) vp (.bool xo) vo x_G x_A vl).toArray :: fr) h ∧ (SliceF F' h 17 e_api_Addr vp yp) ∧ (SliceF F' h 17 e_api_Addr vo yo) ∧ (SliceF F' h 17 e_api_Addr vl x_L) ∧ (SliceF F' h 17 e_api_Addr v_44 l_44) ∧ law19_Few_W xo yo (fun r_0_33 r_1_33 => law19_MergeChanges_j1 x_G x_A Q b_233 l_44 r_0_33 r_1_33)) ?_ (fun N_6 => ?_)
    · rintro ⟨F_51, b_233, l_44, b_229, b_230, b_231, b_232, v_44⟩ f_18 h_168 ⟨e0, e1, e2, e3, e4, e5, e6, e10, e11, e12, e13, e14, e16, e17, e18, e19, hK, hS, hp, ho, hl, hL_76, hM⟩
      refine HA.fr [(0, .agg (c_acequialaw19_One (.bool xp) vp (.bool xo) vo x_G x_A vl).toArray), (1, .pointer (some ⟨b_1, 0, none⟩)), (2, .bool false), (3, .pointer (some ⟨b_232, 0, none⟩)), (4, .pointer (some ⟨b_231, 0, none⟩)), (5, .pointer (some ⟨b_230, 0, none⟩)), (6, .pointer (some ⟨b_229, 0, none⟩)), (10, .pointer (some ⟨b_1, 0, none⟩)), (11, .agg #[.bool xp, vp]), (12, .agg #[.bool b_233, v_44]), (13, .pointer (some ⟨b_1, 2, none⟩)), (14, .agg #[.bool xo, vo]), (16, .pointer (some ⟨b_1, 4, none⟩)), (17, .agg (e_api_Addr x_G).toArray), (18, .pointer (some ⟨b_1, 21, none⟩)), (19, .agg (e_api_Addr x_A).toArray)] ⟨e0, e1, e2, e3, e4, e5, e6, e10, e11, e12, e13, e14, e16, e17, e18, e19, trivial⟩ ?_
      refine HA.one (k := 5) ⟨⟨hp.is, ho.is, hl.is, hL_76.is, (hS.box 4 rfl)⟩, (at_now (hS.box 3 rfl) (at_now (hS.box 2 rfl) (at_now (hS.box 1 rfl) (at_now (hS.box 0 rfl) (Go.Wk.at_nil _ _)))))⟩ (by kernel_rfl) ?_
      refine HS.call rfl (want_none) rfl (ec en_9 rfl rfl) (law19_Few_walk (fr := (Ow.box b_229 27 (e_api_Addr (false, (default : Ba 16))).toArray :: Ow.box b_230 27 (e_api_Addr (false, (default : Ba 16))).toArray :: Ow.box b_231 24 #[.bool false, .slice none 0 0] :: Ow.box b_232 24 #[.bool false, .slice none 0 0] :: Ow.box b_1 29 (c_acequialaw19_One (.bool xp) vp (.bool xo) vo x_G x_A vl).toArray :: fr)) xo yo vo hS ho hM) ?_
      rintro _ h_169 ⟨F_52, r_0_34, r_1_34, vr_1_34, rfl, hk, hS, _, hL_81, hM⟩
      replace hK := hK.trans hk
      replace hp := hp.kp hk
      replace ho := ho.kp hk
      replace hl := hl.kp hk
      replace hL_76 := hL_76.kp hk
      exact Go.Wk.HA.via (N_1 (F_52, b_233, l_44, r_0_34, r_1_34, b_229, b_230, b_231, b_232, v_44, vr_1_34) _ _ ⟨rfl, rfl, rfl, rfl, rfl, rfl, rfl, rfl, rfl, rfl, rfl, rfl, rfl, rfl, rfl, rfl, rfl, hK, hS, hp, ho, hl, hL_76, hL_81, hM⟩) (fun L_ h_ hL_ ⟨hp, ho, hl, hL_76, hL_81, c201⟩ hs_ => ⟨⟨hp, ho, hl, hL_76, c201⟩, (at_keep 0 rfl hs_ (fun c266 => c266) (at_keep 1 rfl hs_ (fun c272 => c272) (at_keep 2 rfl hs_ (fun c278 => c278) (at_keep 3 rfl hs_ (fun c284 => c284) (Go.Wk.at_nil _ _)))))⟩)
    refine HA.node (C1 := fun (i : Fz × Bool × (List T_api_Addr) × Bool × (List T_api_Addr) × Nat × Nat × Value × Value) => match i with | (F', b_147, l_20, b_148, l_21, b_145, b_146, v_20, v_21) => fun h => (SliceIs h 17 e_api_Addr vp yp) ∧ (SliceIs h 17 e_api_Addr vo yo) ∧ (SliceIs h 17 e_api_Addr vl x_L) ∧ (SliceIs h 17 e_api_Addr v_20 l_20) ∧ (SliceIs h 17 e_api_Addr v_21 l_21) ∧ (Blk h b_1 (.cells (c_acequialaw19_One (.bool xp) vp (.bool xo) vo x_G x_A vl).toArray 29 (0, 0)))) (cs1 := fun (i : Fz × Bool × (List T_api_Addr) × Bool × (List T_api_Addr) × Nat × Nat × Value × Value) => match i with | (F', b_147, l_20, b_148, l_21, b_145, b_146, v_20, v_21) => [(14, fun h => (Blk h b_146 (.cells #[.bool false, .slice none 0 0] 24 (0, 0)))), (15, fun h => (Blk h b_145 (.cells #[.bool false, .slice none 0 0] 24 (0, 0))))]) (fuel1 := 6) (listed1 := #[true, true, true, true, true, true, true, true, true, true, true, true, false, false, false, false, false, false]) (fun (i : Fz × Bool × (List T_api_Addr) × Bool × (List T_api_Addr) × Nat × Nat × Value × Value) f h => match i with | (F', b_147, l_20, b_148, l_21, b_145, b_146, v_20, v_21) => f 0 = .agg (c_acequialaw19_One (.bool xp) vp (.bool xo) vo x_G x_A vl).toArray ∧ f 1 = .pointer (some ⟨b_1, 0, none⟩) ∧ f 2 = .bool false ∧ f 3 = .pointer (some ⟨b_146, 0, none⟩) ∧ f 4 = .pointer (some ⟨b_145, 0, none⟩) ∧ f 10 = .pointer (some ⟨b_1, 0, none⟩) ∧ f 11 = .agg #[.bool xp, vp] ∧ f 12 = .agg #[.bool b_147, v_20] ∧ f 13 = .pointer (some ⟨b_1, 2, none⟩) ∧ f 14 = .agg #[.bool xo, vo] ∧ f 15 = .agg #[.bool b_148, v_21] ∧ f 16 = .pointer (some ⟨b_1, 4, none⟩) ∧ f 17 = .agg (e_api_Addr x_G).toArray ∧ f 18 = .pointer (some ⟨b_1, 21, none⟩) ∧ f 19 = .agg (e_api_Addr x_A).toArray ∧ Kp F h0 F' h ∧ St F' (Ow.box b_145 24 #[.bool false, .slice none 0 0] :: Ow.box b_146 24 #[.bool false, .slice none 0 0] :: Ow.box b_1 29 (c_acequialaw19_One (.bool xp) vp (.bool xo) vo x_G x_A vl).toArray :: fr) h ∧ (SliceF F' h 17 e_api_Addr vp yp) ∧ (SliceF F' h 17 e_api_Addr vo yo) ∧ (SliceF F' h 17 e_api_Addr vl x_L) ∧ (SliceF F' h 17 e_api_Addr v_20 l_20) ∧ (SliceF F' h 17 e_api_Addr v_21 l_21) ∧ law19_MergeChanges_j1 x_G x_A Q b_147 l_20 b_148 l_21) ?_ (fun N_7 => ?_)
    · rintro ⟨F_55, b_147, l_20, b_148, l_21, b_145, b_146, v_20, v_21⟩ f_21 h_174 ⟨e0, e1, e2, e3, e4, e10, e11, e12, e13, e14, e15, e16, e17, e18, e19, hK, hS, hp, ho, hl, hL_47, hL_48, hM⟩
      refine HA.fr [(0, .agg (c_acequialaw19_One (.bool xp) vp (.bool xo) vo x_G x_A vl).toArray), (1, .pointer (some ⟨b_1, 0, none⟩)), (2, .bool false), (3, .pointer (some ⟨b_146, 0, none⟩)), (4, .pointer (some ⟨b_145, 0, none⟩)), (10, .pointer (some ⟨b_1, 0, none⟩)), (11, .agg #[.bool xp, vp]), (12, .agg #[.bool b_147, v_20]), (13, .pointer (some ⟨b_1, 2, none⟩)), (14, .agg #[.bool xo, vo]), (15, .agg #[.bool b_148, v_21]), (16, .pointer (some ⟨b_1, 4, none⟩)), (17, .agg (e_api_Addr x_G).toArray), (18, .pointer (some ⟨b_1, 21, none⟩)), (19, .agg (e_api_Addr x_A).toArray)] ⟨e0, e1, e2, e3, e4, e10, e11, e12, e13, e14, e15, e16, e17, e18, e19, trivial⟩ ?_
      refine HA.two (k := 12) (k' := 13) ⟨⟨hp.is, ho.is, hl.is, hL_47.is, hL_48.is, (hS.box 2 rfl)⟩, (at_now (hS.box 1 rfl) (at_now (hS.box 0 rfl) (Go.Wk.at_nil _ _)))⟩ (by kernel_rfl) ?_ ?_
      · refine HS.eff rfl (want_none) rfl (st_alloc (c := (e_api_Addr (false, (default : Ba 16))).toArray) hS tz_27 rfl) ?_
        rintro _ h_175 ⟨b_250, rfl, hS, hk⟩
        replace hK := hK.trans hk
        replace hp := hp.kp hk
        replace ho := ho.kp hk
        replace hl := hl.kp hk
        replace hL_47 := hL_47.kp hk
        replace hL_48 := hL_48.kp hk
        exact Go.Wk.HA.via (N_2 (F_55, b_147, l_20, b_148, l_21, b_250, b_145, b_146, v_20, v_21) _ _ ⟨rfl, rfl, rfl, rfl, rfl, rfl, rfl, rfl, rfl, rfl, rfl, rfl, rfl, rfl, rfl, rfl, hK, hS, hp, ho, hl, hL_47, hL_48, hM⟩) (fun L_ h_ hL_ ⟨hp, ho, hl, hL_47, hL_48, c201⟩ hs_ => ⟨⟨hp, ho, hl, hL_47, hL_48, c201⟩, (at_keep 0 rfl hs_ (fun c266 => c266) (at_keep 1 rfl hs_ (fun c272 => c272) (Go.Wk.at_nil _ _)))⟩)
      · refine HS.eff rfl (want_none) rfl (st_alloc (c := (e_api_Addr (false, (default : Ba 16))).toArray) hS tz_27 rfl) ?_
        rintro _ h_176 ⟨b_251, rfl, hS, hk⟩
        replace hK := hK.trans hk
        replace hp := hp.kp hk
        replace ho := ho.kp hk
        replace hl := hl.kp hk
        replace hL_47 := hL_47.kp hk
        replace hL_48 := hL_48.kp hk
        exact Go.Wk.HA.via (N_3 (F_55, b_147, l_20, b_148, l_21, b_251, b_145, b_146, v_20, v_21) _ _ ⟨rfl, rfl, rfl, rfl, rfl, rfl, rfl, rfl, rfl, rfl, rfl, rfl, rfl, rfl, rfl, rfl, hK, hS, hp, ho, hl, hL_47, hL_48, hM⟩) (fun L_ h_ hL_ ⟨hp, ho, hl, hL_47, hL_48, c201⟩ hs_ => ⟨⟨hp, ho, hl, hL_47, hL_48, c201⟩, (at_keep 0 rfl hs_ (fun c266 => c266) (at_keep 1 rfl hs_ (fun c272 => c272) (Go.Wk.at_nil _ _)))⟩)
    refine HA.node (C1 := fun (i : Fz × Bool × (List T_api_Addr) × Bool × (List T_api_Addr) × Nat × Nat × Value × Value) => match i with | (F', b_153, l_22, b_154, l_23, b_151, b_152, v_22, v_23) => fun h => (SliceIs h 17 e_api_Addr vp yp) ∧ (SliceIs h 17 e_api_Addr vo yo) ∧ (SliceIs h 17 e_api_Addr vl x_L) ∧ (SliceIs h 17 e_api_Addr v_22 l_22) ∧ (SliceIs h 17 e_api_Addr v_23 l_23) ∧ (Blk h b_1 (.cells (c_acequialaw19_One (.bool xp) vp (.bool xo) vo x_G x_A vl).toArray 29 (0, 0)))) (cs1 := fun (i : Fz × Bool × (List T_api_Addr) × Bool × (List T_api_Addr) × Nat × Nat × Value × Value) => match i with | (F', b_153, l_22, b_154, l_23, b_151, b_152, v_22, v_23) => [(14, fun h => (Blk h b_152 (.cells #[.bool false, .slice none 0 0] 24 (0, 0)))), (16, fun h => (Blk h b_151 (.cells (e_api_Addr (false, (default : Ba 16))).toArray 27 (0, 0))))]) (fuel1 := 6) (listed1 := #[true, true, true, true, true, true, true, true, true, true, true, false, true, false, false, false, false, false]) (fun (i : Fz × Bool × (List T_api_Addr) × Bool × (List T_api_Addr) × Nat × Nat × Value × Value) f h => match i with | (F', b_153, l_22, b_154, l_23, b_151, b_152, v_22, v_23) => f 0 = .agg (c_acequialaw19_One (.bool xp) vp (.bool xo) vo x_G x_A vl).toArray ∧ f 1 = .pointer (some ⟨b_1, 0, none⟩) ∧ f 2 = .bool false ∧ f 3 = .pointer (some ⟨b_152, 0, none⟩) ∧ f 5 = .pointer (some ⟨b_151, 0, none⟩) ∧ f 10 = .pointer (some ⟨b_1, 0, none⟩) ∧ f 11 = .agg #[.bool xp, vp] ∧ f 12 = .agg #[.bool b_153, v_22] ∧ f 13 = .pointer (some ⟨b_1, 2, none⟩) ∧ f 14 = .agg #[.bool xo, vo] ∧ f 15 = .agg #[.bool b_154, v_23] ∧ f 16 = .pointer (some ⟨b_1, 4, none⟩) ∧ f 17 = .agg (e_api_Addr x_G).toArray ∧ f 18 = .pointer (some ⟨b_1, 21, none⟩) ∧ f 19 = .agg (e_api_Addr x_A).toArray ∧ Kp F h0 F' h ∧ St F' (Ow.box b_151 27 (e_api_Addr (false, (default : Ba 16))).toArray :: Ow.box b_152 24 #[.bool false, .slice none 0 0] :: Ow.box b_1 29 (c_acequialaw19_One (.bool xp) vp (.bool xo) vo x_G x_A vl).toArray :: fr) h ∧ (SliceF F' h 17 e_api_Addr vp yp) ∧ (SliceF F' h 17 e_api_Addr vo yo) ∧ (SliceF F' h 17 e_api_Addr vl x_L) ∧ (SliceF F' h 17 e_api_Addr v_22 l_22) ∧ (SliceF F' h 17 e_api_Addr v_23 l_23) ∧ law19_MergeChanges_j1 x_G x_A Q b_153 l_22 b_154 l_23) ?_ (fun N_8 => ?_)
    · rintro ⟨F_58, b_153, l_22, b_154, l_23, b_151, b_152, v_22, v_23⟩ f_24 h_181 ⟨e0, e1, e2, e3, e5, e10, e11, e12, e13, e14, e15, e16, e17, e18, e19, hK, hS, hp, ho, hl, hL_49, hL_50, hM⟩
      refine HA.fr [(0, .agg (c_acequialaw19_One (.bool xp) vp (.bool xo) vo x_G x_A vl).toArray), (1, .pointer (some ⟨b_1, 0, none⟩)), (2, .bool false), (3, .pointer (some ⟨b_152, 0, none⟩)), (5, .pointer (some ⟨b_151, 0, none⟩)), (10, .pointer (some ⟨b_1, 0, none⟩)), (11, .agg #[.bool xp, vp]), (12, .agg #[.bool b_153, v_22]), (13, .pointer (some ⟨b_1, 2, none⟩)), (14, .agg #[.bool xo, vo]), (15, .agg #[.bool b_154, v_23]), (16, .pointer (some ⟨b_1, 4, none⟩)), (17, .agg (e_api_Addr x_G).toArray), (18, .pointer (some ⟨b_1, 21, none⟩)), (19, .agg (e_api_Addr x_A).toArray)] ⟨e0, e1, e2, e3, e5, e10, e11, e12, e13, e14, e15, e16, e17, e18, e19, trivial⟩ ?_
      refine HA.two (k := 11) (k' := 13) ⟨⟨hp.is, ho.is, hl.is, hL_49.is, hL_50.is, (hS.box 2 rfl)⟩, (at_now (hS.box 1 rfl) (at_now (hS.box 0 rfl) (Go.Wk.at_nil _ _)))⟩ (by kernel_rfl) ?_ ?_
      · refine HS.eff rfl (want_none) rfl (st_alloc (c := #[.bool false, .slice none 0 0]) hS tz_24 rfl) ?_
        rintro _ h_182 ⟨b_254, rfl, hS, hk⟩
        replace hK := hK.trans hk
        replace hp := hp.kp hk
        replace ho := ho.kp hk
        replace hl := hl.kp hk
        replace hL_49 := hL_49.kp hk
        replace hL_50 := hL_50.kp hk
        replace hS : St F_58 (Ow.box b_151 27 (e_api_Addr (false, (default : Ba 16))).toArray :: Ow.box b_254 24 #[.bool false, .slice none 0 0] :: Ow.box b_152 24 #[.bool false, .slice none 0 0] :: Ow.box b_1 29 (c_acequialaw19_One (.bool xp) vp (.bool xo) vo x_G x_A vl).toArray :: fr) h_182 := hS.perm2 [1, 0, 2, 3] 4 rfl rfl
        exact Go.Wk.HA.via (N_2 (F_58, b_153, l_22, b_154, l_23, b_151, b_254, b_152, v_22, v_23) _ _ ⟨rfl, rfl, rfl, rfl, rfl, rfl, rfl, rfl, rfl, rfl, rfl, rfl, rfl, rfl, rfl, rfl, hK, hS, hp, ho, hl, hL_49, hL_50, hM⟩) (fun L_ h_ hL_ ⟨hp, ho, hl, hL_49, hL_50, c201⟩ hs_ => ⟨⟨hp, ho, hl, hL_49, hL_50, c201⟩, (at_keep 0 rfl hs_ (fun c266 => c266) (at_keep 2 rfl hs_ (fun c278 => c278) (Go.Wk.at_nil _ _)))⟩)
      · refine HS.eff rfl (want_none) rfl (st_alloc (c := (e_api_Addr (false, (default : Ba 16))).toArray) hS tz_27 rfl) ?_
        rintro _ h_183 ⟨b_255, rfl, hS, hk⟩
        replace hK := hK.trans hk
        replace hp := hp.kp hk
        replace ho := ho.kp hk
        replace hl := hl.kp hk
        replace hL_49 := hL_49.kp hk
        replace hL_50 := hL_50.kp hk
        exact Go.Wk.HA.via (N_4 (F_58, b_153, l_22, b_154, l_23, b_255, b_151, b_152, v_22, v_23) _ _ ⟨rfl, rfl, rfl, rfl, rfl, rfl, rfl, rfl, rfl, rfl, rfl, rfl, rfl, rfl, rfl, rfl, hK, hS, hp, ho, hl, hL_49, hL_50, hM⟩) (fun L_ h_ hL_ ⟨hp, ho, hl, hL_49, hL_50, c201⟩ hs_ => ⟨⟨hp, ho, hl, hL_49, hL_50, c201⟩, (at_keep 0 rfl hs_ (fun c266 => c266) (at_keep 1 rfl hs_ (fun c278 => c278) (Go.Wk.at_nil _ _)))⟩)
    refine HA.node (C1 := fun (i : Fz × Bool × (List T_api_Addr) × Bool × (List T_api_Addr) × Nat × Nat × Value × Value) => match i with | (F', b_159, l_24, b_160, l_25, b_157, b_158, v_24, v_25) => fun h => (SliceIs h 17 e_api_Addr vp yp) ∧ (SliceIs h 17 e_api_Addr vo yo) ∧ (SliceIs h 17 e_api_Addr vl x_L) ∧ (SliceIs h 17 e_api_Addr v_24 l_24) ∧ (SliceIs h 17 e_api_Addr v_25 l_25) ∧ (Blk h b_1 (.cells (c_acequialaw19_One (.bool xp) vp (.bool xo) vo x_G x_A vl).toArray 29 (0, 0)))) (cs1 := fun (i : Fz × Bool × (List T_api_Addr) × Bool × (List T_api_Addr) × Nat × Nat × Value × Value) => match i with | (F', b_159, l_24, b_160, l_25, b_157, b_158, v_24, v_25) => [(14, fun h => (Blk h b_158 (.cells #[.bool false, .slice none 0 0] 24 (0, 0)))), (17, fun h => (Blk h b_157 (.cells (e_api_Addr (false, (default : Ba 16))).toArray 27 (0, 0))))]) (fuel1 := 6) (listed1 := #[true, true, true, true, true, true, true, true, true, true, true, false, false, true, false, false, false, false]) (fun (i : Fz × Bool × (List T_api_Addr) × Bool × (List T_api_Addr) × Nat × Nat × Value × Value) f h => match i with | (F', b_159, l_24, b_160, l_25, b_157, b_158, v_24, v_25) => f 0 = .agg (c_acequialaw19_One (.bool xp) vp (.bool xo) vo x_G x_A vl).toArray ∧ f 1 = .pointer (some ⟨b_1, 0, none⟩) ∧ f 2 = .bool false ∧ f 3 = .pointer (some ⟨b_158, 0, none⟩) ∧ f 6 = .pointer (some ⟨b_157, 0, none⟩) ∧ f 10 = .pointer (some ⟨b_1, 0, none⟩) ∧ f 11 = .agg #[.bool xp, vp] ∧ f 12 = .agg #[.bool b_159, v_24] ∧ f 13 = .pointer (some ⟨b_1, 2, none⟩) ∧ f 14 = .agg #[.bool xo, vo] ∧ f 15 = .agg #[.bool b_160, v_25] ∧ f 16 = .pointer (some ⟨b_1, 4, none⟩) ∧ f 17 = .agg (e_api_Addr x_G).toArray ∧ f 18 = .pointer (some ⟨b_1, 21, none⟩) ∧ f 19 = .agg (e_api_Addr x_A).toArray ∧ Kp F h0 F' h ∧ St F' (Ow.box b_157 27 (e_api_Addr (false, (default : Ba 16))).toArray :: Ow.box b_158 24 #[.bool false, .slice none 0 0] :: Ow.box b_1 29 (c_acequialaw19_One (.bool xp) vp (.bool xo) vo x_G x_A vl).toArray :: fr) h ∧ (SliceF F' h 17 e_api_Addr vp yp) ∧ (SliceF F' h 17 e_api_Addr vo yo) ∧ (SliceF F' h 17 e_api_Addr vl x_L) ∧ (SliceF F' h 17 e_api_Addr v_24 l_24) ∧ (SliceF F' h 17 e_api_Addr v_25 l_25) ∧ law19_MergeChanges_j1 x_G x_A Q b_159 l_24 b_160 l_25) ?_ (fun N_9 => ?_)
    · rintro ⟨F_61, b_159, l_24, b_160, l_25, b_157, b_158, v_24, v_25⟩ f_27 h_188 ⟨e0, e1, e2, e3, e6, e10, e11, e12, e13, e14, e15, e16, e17, e18, e19, hK, hS, hp, ho, hl, hL_51, hL_52, hM⟩
      refine HA.fr [(0, .agg (c_acequialaw19_One (.bool xp) vp (.bool xo) vo x_G x_A vl).toArray), (1, .pointer (some ⟨b_1, 0, none⟩)), (2, .bool false), (3, .pointer (some ⟨b_158, 0, none⟩)), (6, .pointer (some ⟨b_157, 0, none⟩)), (10, .pointer (some ⟨b_1, 0, none⟩)), (11, .agg #[.bool xp, vp]), (12, .agg #[.bool b_159, v_24]), (13, .pointer (some ⟨b_1, 2, none⟩)), (14, .agg #[.bool xo, vo]), (15, .agg #[.bool b_160, v_25]), (16, .pointer (some ⟨b_1, 4, none⟩)), (17, .agg (e_api_Addr x_G).toArray), (18, .pointer (some ⟨b_1, 21, none⟩)), (19, .agg (e_api_Addr x_A).toArray)] ⟨e0, e1, e2, e3, e6, e10, e11, e12, e13, e14, e15, e16, e17, e18, e19, trivial⟩ ?_
      refine HA.two (k := 11) (k' := 12) ⟨⟨hp.is, ho.is, hl.is, hL_51.is, hL_52.is, (hS.box 2 rfl)⟩, (at_now (hS.box 1 rfl) (at_now (hS.box 0 rfl) (Go.Wk.at_nil _ _)))⟩ (by kernel_rfl) ?_ ?_
      · refine HS.eff rfl (want_none) rfl (st_alloc (c := #[.bool false, .slice none 0 0]) hS tz_24 rfl) ?_
        rintro _ h_189 ⟨b_258, rfl, hS, hk⟩
        replace hK := hK.trans hk
        replace hp := hp.kp hk
        replace ho := ho.kp hk
        replace hl := hl.kp hk
        replace hL_51 := hL_51.kp hk
        replace hL_52 := hL_52.kp hk
        replace hS : St F_61 (Ow.box b_157 27 (e_api_Addr (false, (default : Ba 16))).toArray :: Ow.box b_258 24 #[.bool false, .slice none 0 0] :: Ow.box b_158 24 #[.bool false, .slice none 0 0] :: Ow.box b_1 29 (c_acequialaw19_One (.bool xp) vp (.bool xo) vo x_G x_A vl).toArray :: fr) h_189 := hS.perm2 [1, 0, 2, 3] 4 rfl rfl
        exact Go.Wk.HA.via (N_3 (F_61, b_159, l_24, b_160, l_25, b_157, b_258, b_158, v_24, v_25) _ _ ⟨rfl, rfl, rfl, rfl, rfl, rfl, rfl, rfl, rfl, rfl, rfl, rfl, rfl, rfl, rfl, rfl, hK, hS, hp, ho, hl, hL_51, hL_52, hM⟩) (fun L_ h_ hL_ ⟨hp, ho, hl, hL_51, hL_52, c201⟩ hs_ => ⟨⟨hp, ho, hl, hL_51, hL_52, c201⟩, (at_keep 0 rfl hs_ (fun c266 => c266) (at_keep 2 rfl hs_ (fun c284 => c284) (Go.Wk.at_nil _ _)))⟩)
      · refine HS.eff rfl (want_none) rfl (st_alloc (c := (e_api_Addr (false, (default : Ba 16))).toArray) hS tz_27 rfl) ?_
        rintro _ h_190 ⟨b_259, rfl, hS, hk⟩
        replace hK := hK.trans hk
        replace hp := hp.kp hk
        replace ho := ho.kp hk
        replace hl := hl.kp hk
        replace hL_51 := hL_51.kp hk
        replace hL_52 := hL_52.kp hk
        replace hS : St F_61 (Ow.box b_157 27 (e_api_Addr (false, (default : Ba 16))).toArray :: Ow.box b_259 27 (e_api_Addr (false, (default : Ba 16))).toArray :: Ow.box b_158 24 #[.bool false, .slice none 0 0] :: Ow.box b_1 29 (c_acequialaw19_One (.bool xp) vp (.bool xo) vo x_G x_A vl).toArray :: fr) h_190 := hS.perm2 [1, 0, 2, 3] 4 rfl rfl
        exact Go.Wk.HA.via (N_4 (F_61, b_159, l_24, b_160, l_25, b_157, b_259, b_158, v_24, v_25) _ _ ⟨rfl, rfl, rfl, rfl, rfl, rfl, rfl, rfl, rfl, rfl, rfl, rfl, rfl, rfl, rfl, rfl, hK, hS, hp, ho, hl, hL_51, hL_52, hM⟩) (fun L_ h_ hL_ ⟨hp, ho, hl, hL_51, hL_52, c201⟩ hs_ => ⟨⟨hp, ho, hl, hL_51, hL_52, c201⟩, (at_keep 0 rfl hs_ (fun c266 => c266) (at_keep 2 rfl hs_ (fun c284 => c284) (Go.Wk.at_nil _ _)))⟩)
    refine HA.node (C1 := fun (i : Fz × Bool × (List T_api_Addr) × Bool × (List T_api_Addr) × Nat × Nat × Value × Value) => match i with | (F', b_165, l_26, b_166, l_27, b_163, b_164, v_26, v_27) => fun h => (SliceIs h 17 e_api_Addr vp yp) ∧ (SliceIs h 17 e_api_Addr vo yo) ∧ (SliceIs h 17 e_api_Addr vl x_L) ∧ (SliceIs h 17 e_api_Addr v_26 l_26) ∧ (SliceIs h 17 e_api_Addr v_27 l_27) ∧ (Blk h b_1 (.cells (c_acequialaw19_One (.bool xp) vp (.bool xo) vo x_G x_A vl).toArray 29 (0, 0)))) (cs1 := fun (i : Fz × Bool × (List T_api_Addr) × Bool × (List T_api_Addr) × Nat × Nat × Value × Value) => match i with | (F', b_165, l_26, b_166, l_27, b_163, b_164, v_26, v_27) => [(15, fun h => (Blk h b_164 (.cells #[.bool false, .slice none 0 0] 24 (0, 0)))), (16, fun h => (Blk h b_163 (.cells (e_api_Addr (false, (default : Ba 16))).toArray 27 (0, 0))))]) (fuel1 := 6) (listed1 := #[true, true, true, true, true, true, true, true, true, true, false, true, true, false, false, false, false, false]) (fun (i : Fz × Bool × (List T_api_Addr) × Bool × (List T_api_Addr) × Nat × Nat × Value × Value) f h => match i with | (F', b_165, l_26, b_166, l_27, b_163, b_164, v_26, v_27) => f 0 = .agg (c_acequialaw19_One (.bool xp) vp (.bool xo) vo x_G x_A vl).toArray ∧ f 1 = .pointer (some ⟨b_1, 0, none⟩) ∧ f 2 = .bool false ∧ f 4 = .pointer (some ⟨b_164, 0, none⟩) ∧ f 5 = .pointer (some ⟨b_163, 0, none⟩) ∧ f 10 = .pointer (some ⟨b_1, 0, none⟩) ∧ f 11 = .agg #[.bool xp, vp] ∧ f 12 = .agg #[.bool b_165, v_26] ∧ f 13 = .pointer (some ⟨b_1, 2, none⟩) ∧ f 14 = .agg #[.bool xo, vo] ∧ f 15 = .agg #[.bool b_166, v_27] ∧ f 16 = .pointer (some ⟨b_1, 4, none⟩) ∧ f 17 = .agg (e_api_Addr x_G).toArray ∧ f 18 = .pointer (some ⟨b_1, 21, none⟩) ∧ f 19 = .agg (e_api_Addr x_A).toArray ∧ Kp F h0 F' h ∧ St F' (Ow.box b_163 27 (e_api_Addr (false, (default : Ba 16))).toArray :: Ow.box b_164 24 #[.bool false, .slice none 0 0] :: Ow.box b_1 29 (c_acequialaw19_One (.bool xp) vp (.bool xo) vo x_G x_A vl).toArray :: fr) h ∧ (SliceF F' h 17 e_api_Addr vp yp) ∧ (SliceF F' h 17 e_api_Addr vo yo) ∧ (SliceF F' h 17 e_api_Addr vl x_L) ∧ (SliceF F' h 17 e_api_Addr v_26 l_26) ∧ (SliceF F' h 17 e_api_Addr v_27 l_27) ∧ law19_MergeChanges_j1 x_G x_A Q b_165 l_26 b_166 l_27) ?_ (fun N_10 => ?_)
    · rintro ⟨F_64, b_165, l_26, b_166, l_27, b_163, b_164, v_26, v_27⟩ f_30 h_195 ⟨e0, e1, e2, e4, e5, e10, e11, e12, e13, e14, e15, e16, e17, e18, e19, hK, hS, hp, ho, hl, hL_53, hL_54, hM⟩
      refine HA.fr [(0, .agg (c_acequialaw19_One (.bool xp) vp (.bool xo) vo x_G x_A vl).toArray), (1, .pointer (some ⟨b_1, 0, none⟩)), (2, .bool false), (4, .pointer (some ⟨b_164, 0, none⟩)), (5, .pointer (some ⟨b_163, 0, none⟩)), (10, .pointer (some ⟨b_1, 0, none⟩)), (11, .agg #[.bool xp, vp]), (12, .agg #[.bool b_165, v_26]), (13, .pointer (some ⟨b_1, 2, none⟩)), (14, .agg #[.bool xo, vo]), (15, .agg #[.bool b_166, v_27]), (16, .pointer (some ⟨b_1, 4, none⟩)), (17, .agg (e_api_Addr x_G).toArray), (18, .pointer (some ⟨b_1, 21, none⟩)), (19, .agg (e_api_Addr x_A).toArray)] ⟨e0, e1, e2, e4, e5, e10, e11, e12, e13, e14, e15, e16, e17, e18, e19, trivial⟩ ?_
      refine HA.two (k := 10) (k' := 13) ⟨⟨hp.is, ho.is, hl.is, hL_53.is, hL_54.is, (hS.box 2 rfl)⟩, (at_now (hS.box 1 rfl) (at_now (hS.box 0 rfl) (Go.Wk.at_nil _ _)))⟩ (by kernel_rfl) ?_ ?_
      · refine HS.eff rfl (want_none) rfl (st_alloc (c := #[.bool false, .slice none 0 0]) hS tz_24 rfl) ?_
        rintro _ h_196 ⟨b_262, rfl, hS, hk⟩
        replace hK := hK.trans hk
        replace hp := hp.kp hk
        replace ho := ho.kp hk
        replace hl := hl.kp hk
        replace hL_53 := hL_53.kp hk
        replace hL_54 := hL_54.kp hk
        replace hS : St F_64 (Ow.box b_163 27 (e_api_Addr (false, (default : Ba 16))).toArray :: Ow.box b_164 24 #[.bool false, .slice none 0 0] :: Ow.box b_262 24 #[.bool false, .slice none 0 0] :: Ow.box b_1 29 (c_acequialaw19_One (.bool xp) vp (.bool xo) vo x_G x_A vl).toArray :: fr) h_196 := hS.perm2 [1, 2, 0, 3] 4 rfl rfl
        exact Go.Wk.HA.via (N_2 (F_64, b_165, l_26, b_166, l_27, b_163, b_164, b_262, v_26, v_27) _ _ ⟨rfl, rfl, rfl, rfl, rfl, rfl, rfl, rfl, rfl, rfl, rfl, rfl, rfl, rfl, rfl, rfl, hK, hS, hp, ho, hl, hL_53, hL_54, hM⟩) (fun L_ h_ hL_ ⟨hp, ho, hl, hL_53, hL_54, c201⟩ hs_ => ⟨⟨hp, ho, hl, hL_53, hL_54, c201⟩, (at_keep 1 rfl hs_ (fun c272 => c272) (at_keep 2 rfl hs_ (fun c278 => c278) (Go.Wk.at_nil _ _)))⟩)
      · refine HS.eff rfl (want_none) rfl (st_alloc (c := (e_api_Addr (false, (default : Ba 16))).toArray) hS tz_27 rfl) ?_
        rintro _ h_197 ⟨b_263, rfl, hS, hk⟩
        replace hK := hK.trans hk
        replace hp := hp.kp hk
        replace ho := ho.kp hk
        replace hl := hl.kp hk
        replace hL_53 := hL_53.kp hk
        replace hL_54 := hL_54.kp hk
        exact Go.Wk.HA.via (N_5 (F_64, b_165, l_26, b_166, l_27, b_263, b_163, b_164, v_26, v_27) _ _ ⟨rfl, rfl, rfl, rfl, rfl, rfl, rfl, rfl, rfl, rfl, rfl, rfl, rfl, rfl, rfl, rfl, hK, hS, hp, ho, hl, hL_53, hL_54, hM⟩) (fun L_ h_ hL_ ⟨hp, ho, hl, hL_53, hL_54, c201⟩ hs_ => ⟨⟨hp, ho, hl, hL_53, hL_54, c201⟩, (at_keep 0 rfl hs_ (fun c272 => c272) (at_keep 1 rfl hs_ (fun c278 => c278) (Go.Wk.at_nil _ _)))⟩)
    refine HA.node (C1 := fun (i : Fz × Bool × (List T_api_Addr) × Bool × (List T_api_Addr) × Nat × Nat × Value × Value) => match i with | (F', b_171, l_28, b_172, l_29, b_169, b_170, v_28, v_29) => fun h => (SliceIs h 17 e_api_Addr vp yp) ∧ (SliceIs h 17 e_api_Addr vo yo) ∧ (SliceIs h 17 e_api_Addr vl x_L) ∧ (SliceIs h 17 e_api_Addr v_28 l_28) ∧ (SliceIs h 17 e_api_Addr v_29 l_29) ∧ (Blk h b_1 (.cells (c_acequialaw19_One (.bool xp) vp (.bool xo) vo x_G x_A vl).toArray 29 (0, 0)))) (cs1 := fun (i : Fz × Bool × (List T_api_Addr) × Bool × (List T_api_Addr) × Nat × Nat × Value × Value) => match i with | (F', b_171, l_28, b_172, l_29, b_169, b_170, v_28, v_29) => [(15, fun h => (Blk h b_170 (.cells #[.bool false, .slice none 0 0] 24 (0, 0)))), (17, fun h => (Blk h b_169 (.cells (e_api_Addr (false, (default : Ba 16))).toArray 27 (0, 0))))]) (fuel1 := 6) (listed1 := #[true, true, true, true, true, true, true, true, true, true, false, true, false, true, false, false, false, false]) (fun (i : Fz × Bool × (List T_api_Addr) × Bool × (List T_api_Addr) × Nat × Nat × Value × Value) f h => match i with | (F', b_171, l_28, b_172, l_29, b_169, b_170, v_28, v_29) => f 0 = .agg (c_acequialaw19_One (.bool xp) vp (.bool xo) vo x_G x_A vl).toArray ∧ f 1 = .pointer (some ⟨b_1, 0, none⟩) ∧ f 2 = .bool false ∧ f 4 = .pointer (some ⟨b_170, 0, none⟩) ∧ f 6 = .pointer (some ⟨b_169, 0, none⟩) ∧ f 10 = .pointer (some ⟨b_1, 0, none⟩) ∧ f 11 = .agg #[.bool xp, vp] ∧ f 12 = .agg #[.bool b_171, v_28] ∧ f 13 = .pointer (some ⟨b_1, 2, none⟩) ∧ f 14 = .agg #[.bool xo, vo] ∧ f 15 = .agg #[.bool b_172, v_29] ∧ f 16 = .pointer (some ⟨b_1, 4, none⟩) ∧ f 17 = .agg (e_api_Addr x_G).toArray ∧ f 18 = .pointer (some ⟨b_1, 21, none⟩) ∧ f 19 = .agg (e_api_Addr x_A).toArray ∧ Kp F h0 F' h ∧ St F' (Ow.box b_169 27 (e_api_Addr (false, (default : Ba 16))).toArray :: Ow.box b_170 24 #[.bool false, .slice none 0 0] :: Ow.box b_1 29 (c_acequialaw19_One (.bool xp) vp (.bool xo) vo x_G x_A vl).toArray :: fr) h ∧ (SliceF F' h 17 e_api_Addr vp yp) ∧ (SliceF F' h 17 e_api_Addr vo yo) ∧ (SliceF F' h 17 e_api_Addr vl x_L) ∧ (SliceF F' h 17 e_api_Addr v_28 l_28) ∧ (SliceF F' h 17 e_api_Addr v_29 l_29) ∧ law19_MergeChanges_j1 x_G x_A Q b_171 l_28 b_172 l_29) ?_ (fun N_11 => ?_)
    · rintro ⟨F_67, b_171, l_28, b_172, l_29, b_169, b_170, v_28, v_29⟩ f_33 h_202 ⟨e0, e1, e2, e4, e6, e10, e11, e12, e13, e14, e15, e16, e17, e18, e19, hK, hS, hp, ho, hl, hL_55, hL_56, hM⟩
      refine HA.fr [(0, .agg (c_acequialaw19_One (.bool xp) vp (.bool xo) vo x_G x_A vl).toArray), (1, .pointer (some ⟨b_1, 0, none⟩)), (2, .bool false), (4, .pointer (some ⟨b_170, 0, none⟩)), (6, .pointer (some ⟨b_169, 0, none⟩)), (10, .pointer (some ⟨b_1, 0, none⟩)), (11, .agg #[.bool xp, vp]), (12, .agg #[.bool b_171, v_28]), (13, .pointer (some ⟨b_1, 2, none⟩)), (14, .agg #[.bool xo, vo]), (15, .agg #[.bool b_172, v_29]), (16, .pointer (some ⟨b_1, 4, none⟩)), (17, .agg (e_api_Addr x_G).toArray), (18, .pointer (some ⟨b_1, 21, none⟩)), (19, .agg (e_api_Addr x_A).toArray)] ⟨e0, e1, e2, e4, e6, e10, e11, e12, e13, e14, e15, e16, e17, e18, e19, trivial⟩ ?_
      refine HA.two (k := 10) (k' := 12) ⟨⟨hp.is, ho.is, hl.is, hL_55.is, hL_56.is, (hS.box 2 rfl)⟩, (at_now (hS.box 1 rfl) (at_now (hS.box 0 rfl) (Go.Wk.at_nil _ _)))⟩ (by kernel_rfl) ?_ ?_
      · refine HS.eff rfl (want_none) rfl (st_alloc (c := #[.bool false, .slice none 0 0]) hS tz_24 rfl) ?_
        rintro _ h_203 ⟨b_266, rfl, hS, hk⟩
        replace hK := hK.trans hk
        replace hp := hp.kp hk
        replace ho := ho.kp hk
        replace hl := hl.kp hk
        replace hL_55 := hL_55.kp hk
        replace hL_56 := hL_56.kp hk
        replace hS : St F_67 (Ow.box b_169 27 (e_api_Addr (false, (default : Ba 16))).toArray :: Ow.box b_170 24 #[.bool false, .slice none 0 0] :: Ow.box b_266 24 #[.bool false, .slice none 0 0] :: Ow.box b_1 29 (c_acequialaw19_One (.bool xp) vp (.bool xo) vo x_G x_A vl).toArray :: fr) h_203 := hS.perm2 [1, 2, 0, 3] 4 rfl rfl
        exact Go.Wk.HA.via (N_3 (F_67, b_171, l_28, b_172, l_29, b_169, b_170, b_266, v_28, v_29) _ _ ⟨rfl, rfl, rfl, rfl, rfl, rfl, rfl, rfl, rfl, rfl, rfl, rfl, rfl, rfl, rfl, rfl, hK, hS, hp, ho, hl, hL_55, hL_56, hM⟩) (fun L_ h_ hL_ ⟨hp, ho, hl, hL_55, hL_56, c201⟩ hs_ => ⟨⟨hp, ho, hl, hL_55, hL_56, c201⟩, (at_keep 1 rfl hs_ (fun c272 => c272) (at_keep 2 rfl hs_ (fun c284 => c284) (Go.Wk.at_nil _ _)))⟩)
      · refine HS.eff rfl (want_none) rfl (st_alloc (c := (e_api_Addr (false, (default : Ba 16))).toArray) hS tz_27 rfl) ?_
        rintro _ h_204 ⟨b_267, rfl, hS, hk⟩
        replace hK := hK.trans hk
        replace hp := hp.kp hk
        replace ho := ho.kp hk
        replace hl := hl.kp hk
        replace hL_55 := hL_55.kp hk
        replace hL_56 := hL_56.kp hk
        replace hS : St F_67 (Ow.box b_169 27 (e_api_Addr (false, (default : Ba 16))).toArray :: Ow.box b_267 27 (e_api_Addr (false, (default : Ba 16))).toArray :: Ow.box b_170 24 #[.bool false, .slice none 0 0] :: Ow.box b_1 29 (c_acequialaw19_One (.bool xp) vp (.bool xo) vo x_G x_A vl).toArray :: fr) h_204 := hS.perm2 [1, 0, 2, 3] 4 rfl rfl
        exact Go.Wk.HA.via (N_5 (F_67, b_171, l_28, b_172, l_29, b_169, b_267, b_170, v_28, v_29) _ _ ⟨rfl, rfl, rfl, rfl, rfl, rfl, rfl, rfl, rfl, rfl, rfl, rfl, rfl, rfl, rfl, rfl, hK, hS, hp, ho, hl, hL_55, hL_56, hM⟩) (fun L_ h_ hL_ ⟨hp, ho, hl, hL_55, hL_56, c201⟩ hs_ => ⟨⟨hp, ho, hl, hL_55, hL_56, c201⟩, (at_keep 0 rfl hs_ (fun c272 => c272) (at_keep 2 rfl hs_ (fun c284 => c284) (Go.Wk.at_nil _ _)))⟩)
    refine HA.node (C1 := fun (i : Fz × Bool × (List T_api_Addr) × Bool × (List T_api_Addr) × Nat × Nat × Value × Value) => match i with | (F', b_177, l_30, b_178, l_31, b_175, b_176, v_30, v_31) => fun h => (SliceIs h 17 e_api_Addr vp yp) ∧ (SliceIs h 17 e_api_Addr vo yo) ∧ (SliceIs h 17 e_api_Addr vl x_L) ∧ (SliceIs h 17 e_api_Addr v_30 l_30) ∧ (SliceIs h 17 e_api_Addr v_31 l_31) ∧ (Blk h b_1 (.cells (c_acequialaw19_One (.bool xp) vp (.bool xo) vo x_G x_A vl).toArray 29 (0, 0)))) (cs1 := fun (i : Fz × Bool × (List T_api_Addr) × Bool × (List T_api_Addr) × Nat × Nat × Value × Value) => match i with | (F', b_177, l_30, b_178, l_31, b_175, b_176, v_30, v_31) => [(16, fun h => (Blk h b_176 (.cells (e_api_Addr (false, (default : Ba 16))).toArray 27 (0, 0)))), (17, fun h => (Blk h b_175 (.cells (e_api_Addr (false, (default : Ba 16))).toArray 27 (0, 0))))]) (fuel1 := 6) (listed1 := #[true, true, true, true, true, true, true, true, true, true, false, false, true, true, false, false, false, false]) (fun (i : Fz × Bool × (List T_api_Addr) × Bool × (List T_api_Addr) × Nat × Nat × Value × Value) f h => match i with | (F', b_177, l_30, b_178, l_31, b_175, b_176, v_30, v_31) => f 0 = .agg (c_acequialaw19_One (.bool xp) vp (.bool xo) vo x_G x_A vl).toArray ∧ f 1 = .pointer (some ⟨b_1, 0, none⟩) ∧ f 2 = .bool false ∧ f 5 = .pointer (some ⟨b_176, 0, none⟩) ∧ f 6 = .pointer (some ⟨b_175, 0, none⟩) ∧ f 10 = .pointer (some ⟨b_1, 0, none⟩) ∧ f 11 = .agg #[.bool xp, vp] ∧ f 12 = .agg #[.bool b_177, v_30] ∧ f 13 = .pointer (some ⟨b_1, 2, none⟩) ∧ f 14 = .agg #[.bool xo, vo] ∧ f 15 = .agg #[.bool b_178, v_31] ∧ f 16 = .pointer (some ⟨b_1, 4, none⟩) ∧ f 17 = .agg (e_api_Addr x_G).toArray ∧ f 18 = .pointer (some ⟨b_1, 21, none⟩) ∧ f 19 = .agg (e_api_Addr x_A).toArray ∧ Kp F h0 F' h ∧ St F' (Ow.box b_175 27 (e_api_Addr (false, (default : Ba 16))).toArray :: Ow.box b_176 27 (e_api_Addr (false, (default : Ba 16))).toArray :: Ow.box b_1 29 (c_acequialaw19_One (.bool xp) vp (.bool xo) vo x_G x_A vl).toArray :: fr) h ∧ (SliceF F' h 17 e_api_Addr vp yp) ∧ (SliceF F' h 17 e_api_Addr vo yo) ∧ (SliceF F' h 17 e_api_Addr vl x_L) ∧ (SliceF F' h 17 e_api_Addr v_30 l_30) ∧ (SliceF F' h 17 e_api_Addr v_31 l_31) ∧ law19_MergeChanges_j1 x_G x_A Q b_177 l_30 b_178 l_31) ?_ (fun N_12 => ?_)
    · rintro ⟨F_70, b_177, l_30, b_178, l_31, b_175, b_176, v_30, v_31⟩ f_36 h_209 ⟨e0, e1, e2, e5, e6, e10, e11, e12, e13, e14, e15, e16, e17, e18, e19, hK, hS, hp, ho, hl, hL_57, hL_58, hM⟩
      refine HA.fr [(0, .agg (c_acequialaw19_One (.bool xp) vp (.bool xo) vo x_G x_A vl).toArray), (1, .pointer (some ⟨b_1, 0, none⟩)), (2, .bool false), (5, .pointer (some ⟨b_176, 0, none⟩)), (6, .pointer (some ⟨b_175, 0, none⟩)), (10, .pointer (some ⟨b_1, 0, none⟩)), (11, .agg #[.bool xp, vp]), (12, .agg #[.bool b_177, v_30]), (13, .pointer (some ⟨b_1, 2, none⟩)), (14, .agg #[.bool xo, vo]), (15, .agg #[.bool b_178, v_31]), (16, .pointer (some ⟨b_1, 4, none⟩)), (17, .agg (e_api_Addr x_G).toArray), (18, .pointer (some ⟨b_1, 21, none⟩)), (19, .agg (e_api_Addr x_A).toArray)] ⟨e0, e1, e2, e5, e6, e10, e11, e12, e13, e14, e15, e16, e17, e18, e19, trivial⟩ ?_
      refine HA.two (k := 10) (k' := 11) ⟨⟨hp.is, ho.is, hl.is, hL_57.is, hL_58.is, (hS.box 2 rfl)⟩, (at_now (hS.box 1 rfl) (at_now (hS.box 0 rfl) (Go.Wk.at_nil _ _)))⟩ (by kernel_rfl) ?_ ?_
      · refine HS.eff rfl (want_none) rfl (st_alloc (c := #[.bool false, .slice none 0 0]) hS tz_24 rfl) ?_
        rintro _ h_210 ⟨b_270, rfl, hS, hk⟩
        replace hK := hK.trans hk
        replace hp := hp.kp hk
        replace ho := ho.kp hk
        replace hl := hl.kp hk
        replace hL_57 := hL_57.kp hk
        replace hL_58 := hL_58.kp hk
        replace hS : St F_70 (Ow.box b_175 27 (e_api_Addr (false, (default : Ba 16))).toArray :: Ow.box b_176 27 (e_api_Addr (false, (default : Ba 16))).toArray :: Ow.box b_270 24 #[.bool false, .slice none 0 0] :: Ow.box b_1 29 (c_acequialaw19_One (.bool xp) vp (.bool xo) vo x_G x_A vl).toArray :: fr) h_210 := hS.perm2 [1, 2, 0, 3] 4 rfl rfl
        exact Go.Wk.HA.via (N_4 (F_70, b_177, l_30, b_178, l_31, b_175, b_176, b_270, v_30, v_31) _ _ ⟨rfl, rfl, rfl, rfl, rfl, rfl, rfl, rfl, rfl, rfl, rfl, rfl, rfl, rfl, rfl, rfl, hK, hS, hp, ho, hl, hL_57, hL_58, hM⟩) (fun L_ h_ hL_ ⟨hp, ho, hl, hL_57, hL_58, c201⟩ hs_ => ⟨⟨hp, ho, hl, hL_57, hL_58, c201⟩, (at_keep 1 rfl hs_ (fun c278 => c278) (at_keep 2 rfl hs_ (fun c284 => c284) (Go.Wk.at_nil _ _)))⟩)
      · refine HS.eff rfl (want_none) rfl (st_alloc (c := #[.bool false, .slice none 0 0]) hS tz_24 rfl) ?_
        rintro _ h_211 ⟨b_271, rfl, hS, hk⟩
        replace hK := hK.trans hk
        replace hp := hp.kp hk
        replace ho := ho.kp hk
        replace hl := hl.kp hk
        replace hL_57 := hL_57.kp hk
        replace hL_58 := hL_58.kp hk
        replace hS : St F_70 (Ow.box b_175 27 (e_api_Addr (false, (default : Ba 16))).toArray :: Ow.box b_176 27 (e_api_Addr (false, (default : Ba 16))).toArray :: Ow.box b_271 24 #[.bool false, .slice none 0 0] :: Ow.box b_1 29 (c_acequialaw19_One (.bool xp) vp (.bool xo) vo x_G x_A vl).toArray :: fr) h_211 := hS.perm2 [1, 2, 0, 3] 4 rfl rfl
        exact Go.Wk.HA.via (N_5 (F_70, b_177, l_30, b_178, l_31, b_175, b_176, b_271, v_30, v_31) _ _ ⟨rfl, rfl, rfl, rfl, rfl, rfl, rfl, rfl, rfl, rfl, rfl, rfl, rfl, rfl, rfl, rfl, hK, hS, hp, ho, hl, hL_57, hL_58, hM⟩) (fun L_ h_ hL_ ⟨hp, ho, hl, hL_57, hL_58, c201⟩ hs_ => ⟨⟨hp, ho, hl, hL_57, hL_58, c201⟩, (at_keep 1 rfl hs_ (fun c278 => c278) (at_keep 2 rfl hs_ (fun c284 => c284) (Go.Wk.at_nil _ _)))⟩)
    refine HA.node (C1 := fun (i : Fz × Bool × (List T_api_Addr) × Nat × Nat × Nat × Value) => match i with | (F', b_184, l_32, b_181, b_182, b_183, v_32) => fun h => (SliceIs h 17 e_api_Addr vp yp) ∧ (SliceIs h 17 e_api_Addr vo yo) ∧ (SliceIs h 17 e_api_Addr vl x_L) ∧ (SliceIs h 17 e_api_Addr v_32 l_32) ∧ (Blk h b_1 (.cells (c_acequialaw19_One (.bool xp) vp (.bool xo) vo x_G x_A vl).toArray 29 (0, 0)))) (cs1 := fun (i : Fz × Bool × (List T_api_Addr) × Nat × Nat × Nat × Value) => match i with | (F', b_184, l_32, b_181, b_182, b_183, v_32) => [(14, fun h => (Blk h b_183 (.cells #[.bool false, .slice none 0 0] 24 (0, 0)))), (15, fun h => (Blk h b_182 (.cells #[.bool false, .slice none 0 0] 24 (0, 0)))), (16, fun h => (Blk h b_181 (.cells (e_api_Addr (false, (default : Ba 16))).toArray 27 (0, 0))))]) (fuel1 := 6) (listed1 := #[true, true, true, true, true, false, true, true, true, true, true, true, true, false, false, false, false, false]) (fun (i : Fz × Bool × (List T_api_Addr) × Nat × Nat × Nat × Value) f h => match i with | (F', b_184, l_32, b_181, b_182, b_183, v_32) => f 0 = .agg (c_acequialaw19_One (.bool xp) vp (.bool xo) vo x_G x_A vl).toArray ∧ f 1 = .pointer (some ⟨b_1, 0, none⟩) ∧ f 2 = .bool false ∧ f 3 = .pointer (some ⟨b_183, 0, none⟩) ∧ f 4 = .pointer (some ⟨b_182, 0, none⟩) ∧ f 5 = .pointer (some ⟨b_181, 0, none⟩) ∧ f 10 = .pointer (some ⟨b_1, 0, none⟩) ∧ f 11 = .agg #[.bool xp, vp] ∧ f 12 = .agg #[.bool b_184, v_32] ∧ f 13 = .pointer (some ⟨b_1, 2, none⟩) ∧ f 14 = .agg #[.bool xo, vo] ∧ f 16 = .pointer (some ⟨b_1, 4, none⟩) ∧ f 17 = .agg (e_api_Addr x_G).toArray ∧ f 18 = .pointer (some ⟨b_1, 21, none⟩) ∧ f 19 = .agg (e_api_Addr x_A).toArray ∧ Kp F h0 F' h ∧ St F' (Ow.box b_181 27 (e_api_Addr (false, (default : Ba 16))).toArray :: Ow.box b_182 24 #[.bool false, .slice none 0 0] :: Ow.box b_183 24 #[.bool false, .slice none 0 0] :: Ow.box b_1 29 (c_acequialaw19_One (.bool xp) vp (.bool xo) vo x_G x_A vl).toArray :: fr) h ∧ (SliceF F' h 17 e_api_Addr vp yp) ∧ (SliceF F' h 17 e_api_Addr vo yo) ∧ (SliceF F' h 17 e_api_Addr vl x_L) ∧ (SliceF F' h 17 e_api_Addr v_32 l_32) ∧ law19_Few_W xo yo (fun r_0_35 r_1_35 => law19_MergeChanges_j1 x_G x_A Q b_184 l_32 r_0_35 r_1_35)) ?_ (fun N_13 => ?_)
    · rintro ⟨F_74, b_184, l_32, b_181, b_182, b_183, v_32⟩ f_39 h_216 ⟨e0, e1, e2, e3, e4, e5, e10, e11, e12, e13, e14, e16, e17, e18, e19, hK, hS, hp, ho, hl, hL_59, hM⟩
      refine HA.fr [(0, .agg (c_acequialaw19_One (.bool xp) vp (.bool xo) vo x_G x_A vl).toArray), (1, .pointer (some ⟨b_1, 0, none⟩)), (2, .bool false), (3, .pointer (some ⟨b_183, 0, none⟩)), (4, .pointer (some ⟨b_182, 0, none⟩)), (5, .pointer (some ⟨b_181, 0, none⟩)), (10, .pointer (some ⟨b_1, 0, none⟩)), (11, .agg #[.bool xp, vp]), (12, .agg #[.bool b_184, v_32]), (13, .pointer (some ⟨b_1, 2, none⟩)), (14, .agg #[.bool xo, vo]), (16, .pointer (some ⟨b_1, 4, none⟩)), (17, .agg (e_api_Addr x_G).toArray), (18, .pointer (some ⟨b_1, 21, none⟩)), (19, .agg (e_api_Addr x_A).toArray)] ⟨e0, e1, e2, e3, e4, e5, e10, e11, e12, e13, e14, e16, e17, e18, e19, trivial⟩ ?_
      refine HA.two (k := 5) (k' := 13) ⟨⟨hp.is, ho.is, hl.is, hL_59.is, (hS.box 3 rfl)⟩, (at_now (hS.box 2 rfl) (at_now (hS.box 1 rfl) (at_now (hS.box 0 rfl) (Go.Wk.at_nil _ _))))⟩ (by kernel_rfl) ?_ ?_
      · refine HS.call rfl (want_none) rfl (ec en_9 rfl rfl) (law19_Few_walk (fr := (Ow.box b_181 27 (e_api_Addr (false, (default : Ba 16))).toArray :: Ow.box b_182 24 #[.bool false, .slice none 0 0] :: Ow.box b_183 24 #[.bool false, .slice none 0 0] :: Ow.box b_1 29 (c_acequialaw19_One (.bool xp) vp (.bool xo) vo x_G x_A vl).toArray :: fr)) xo yo vo hS ho hM) ?_
        rintro _ h_217 ⟨F_75, r_0_36, r_1_36, vr_1_36, rfl, hk, hS, _, hL_83, hM⟩
        replace hK := hK.trans hk
        replace hp := hp.kp hk
        replace ho := ho.kp hk
        replace hl := hl.kp hk
        replace hL_59 := hL_59.kp hk
        exact Go.Wk.HA.via (N_2 (F_75, b_184, l_32, r_0_36, r_1_36, b_181, b_182, b_183, v_32, vr_1_36) _ _ ⟨rfl, rfl, rfl, rfl, rfl, rfl, rfl, rfl, rfl, rfl, rfl, rfl, rfl, rfl, rfl, rfl, hK, hS, hp, ho, hl, hL_59, hL_83, hM⟩) (fun L_ h_ hL_ ⟨hp, ho, hl, hL_59, hL_83, c201⟩ hs_ => ⟨⟨hp, ho, hl, hL_59, c201⟩, (at_keep 0 rfl hs_ (fun c266 => c266) (at_keep 1 rfl hs_ (fun c272 => c272) (at_keep 2 rfl hs_ (fun c278 => c278) (Go.Wk.at_nil _ _))))⟩)
      · refine HS.eff rfl (want_none) rfl (st_alloc (c := (e_api_Addr (false, (default : Ba 16))).toArray) hS tz_27 rfl) ?_
        rintro _ h_218 ⟨b_273, rfl, hS, hk⟩
        replace hK := hK.trans hk
        replace hp := hp.kp hk
        replace ho := ho.kp hk
        replace hl := hl.kp hk
        replace hL_59 := hL_59.kp hk
        exact Go.Wk.HA.via (N_6 (F_74, b_184, l_32, b_273, b_181, b_182, b_183, v_32) _ _ ⟨rfl, rfl, rfl, rfl, rfl, rfl, rfl, rfl, rfl, rfl, rfl, rfl, rfl, rfl, rfl, rfl, hK, hS, hp, ho, hl, hL_59, hM⟩) (fun L_ h_ hL_ ⟨hp, ho, hl, hL_59, c201⟩ hs_ => ⟨⟨hp, ho, hl, hL_59, c201⟩, (at_keep 0 rfl hs_ (fun c266 => c266) (at_keep 1 rfl hs_ (fun c272 => c272) (at_keep 2 rfl hs_ (fun c278 => c278) (Go.Wk.at_nil _ _))))⟩)
    refine HA.node (C1 := fun (i : Fz × Bool × (List T_api_Addr) × Nat × Nat × Nat × Value) => match i with | (F', b_189, l_33, b_186, b_187, b_188, v_33) => fun h => (SliceIs h 17 e_api_Addr vp yp) ∧ (SliceIs h 17 e_api_Addr vo yo) ∧ (SliceIs h 17 e_api_Addr vl x_L) ∧ (SliceIs h 17 e_api_Addr v_33 l_33) ∧ (Blk h b_1 (.cells (c_acequialaw19_One (.bool xp) vp (.bool xo) vo x_G x_A vl).toArray 29 (0, 0)))) (cs1 := fun (i : Fz × Bool × (List T_api_Addr) × Nat × Nat × Nat × Value) => match i with | (F', b_189, l_33, b_186, b_187, b_188, v_33) => [(14, fun h => (Blk h b_188 (.cells #[.bool false, .slice none 0 0] 24 (0, 0)))), (15, fun h => (Blk h b_187 (.cells #[.bool false, .slice none 0 0] 24 (0, 0)))), (17, fun h => (Blk h b_186 (.cells (e_api_Addr (false, (default : Ba 16))).toArray 27 (0, 0))))]) (fuel1 := 6) (listed1 := #[true, true, true, true, true, false, true, true, true, true, true, true, false, true, false, false, false, false]) (fun (i : Fz × Bool × (List T_api_Addr) × Nat × Nat × Nat × Value) f h => match i with | (F', b_189, l_33, b_186, b_187, b_188, v_33) => f 0 = .agg (c_acequialaw19_One (.bool xp) vp (.bool xo) vo x_G x_A vl).toArray ∧ f 1 = .pointer (some ⟨b_1, 0, none⟩) ∧ f 2 = .bool false ∧ f 3 = .pointer (some ⟨b_188, 0, none⟩) ∧ f 4 = .pointer (some ⟨b_187, 0, none⟩) ∧ f 6 = .pointer (some ⟨b_186, 0, none⟩) ∧ f 10 = .pointer (some ⟨b_1, 0, none⟩) ∧ f 11 = .agg #[.bool xp, vp] ∧ f 12 = .agg #[.bool b_189, v_33] ∧ f 13 = .pointer (some ⟨b_1, 2, none⟩) ∧ f 14 = .agg #[.bool xo, vo] ∧ f 16 = .pointer (some ⟨b_1, 4, none⟩) ∧ f 17 = .agg (e_api_Addr x_G).toArray ∧ f 18 = .pointer (some ⟨b_1, 21, none⟩) ∧ f 19 = .agg (e_api_Addr x_A).toArray ∧ Kp F h0 F' h ∧ St F' (Ow.box b_186 27 (e_api_Addr (false, (default : Ba 16))).toArray :: Ow.box b_187 24 #[.bool false, .slice none 0 0] :: Ow.box b_188 24 #[.bool false, .slice none 0 0] :: Ow.box b_1 29 (c_acequialaw19_One (.bool xp) vp (.bool xo) vo x_G x_A vl).toArray :: fr) h ∧ (SliceF F' h 17 e_api_Addr vp yp) ∧ (SliceF F' h 17 e_api_Addr vo yo) ∧ (SliceF F' h 17 e_api_Addr vl x_L) ∧ (SliceF F' h 17 e_api_Addr v_33 l_33) ∧ law19_Few_W xo yo (fun r_0_37 r_1_37 => law19_MergeChanges_j1 x_G x_A Q b_189 l_33 r_0_37 r_1_37)) ?_ (fun N_14 => ?_)
    · rintro ⟨F_79, b_189, l_33, b_186, b_187, b_188, v_33⟩ f_42 h_223 ⟨e0, e1, e2, e3, e4, e6, e10, e11, e12, e13, e14, e16, e17, e18, e19, hK, hS, hp, ho, hl, hL_61, hM⟩
      refine HA.fr [(0, .agg (c_acequialaw19_One (.bool xp) vp (.bool xo) vo x_G x_A vl).toArray), (1, .pointer (some ⟨b_1, 0, none⟩)), (2, .bool false), (3, .pointer (some ⟨b_188, 0, none⟩)), (4, .pointer (some ⟨b_187, 0, none⟩)), (6, .pointer (some ⟨b_186, 0, none⟩)), (10, .pointer (some ⟨b_1, 0, none⟩)), (11, .agg #[.bool xp, vp]), (12, .agg #[.bool b_189, v_33]), (13, .pointer (some ⟨b_1, 2, none⟩)), (14, .agg #[.bool xo, vo]), (16, .pointer (some ⟨b_1, 4, none⟩)), (17, .agg (e_api_Addr x_G).toArray), (18, .pointer (some ⟨b_1, 21, none⟩)), (19, .agg (e_api_Addr x_A).toArray)] ⟨e0, e1, e2, e3, e4, e6, e10, e11, e12, e13, e14, e16, e17, e18, e19, trivial⟩ ?_
      refine HA.two (k := 5) (k' := 12) ⟨⟨hp.is, ho.is, hl.is, hL_61.is, (hS.box 3 rfl)⟩, (at_now (hS.box 2 rfl) (at_now (hS.box 1 rfl) (at_now (hS.box 0 rfl) (Go.Wk.at_nil _ _))))⟩ (by kernel_rfl) ?_ ?_
      · refine HS.call rfl (want_none) rfl (ec en_9 rfl rfl) (law19_Few_walk (fr := (Ow.box b_186 27 (e_api_Addr (false, (default : Ba 16))).toArray :: Ow.box b_187 24 #[.bool false, .slice none 0 0] :: Ow.box b_188 24 #[.bool false, .slice none 0 0] :: Ow.box b_1 29 (c_acequialaw19_One (.bool xp) vp (.bool xo) vo x_G x_A vl).toArray :: fr)) xo yo vo hS ho hM) ?_
        rintro _ h_224 ⟨F_80, r_0_38, r_1_38, vr_1_38, rfl, hk, hS, _, hL_85, hM⟩
        replace hK := hK.trans hk
        replace hp := hp.kp hk
        replace ho := ho.kp hk
        replace hl := hl.kp hk
        replace hL_61 := hL_61.kp hk
        exact Go.Wk.HA.via (N_3 (F_80, b_189, l_33, r_0_38, r_1_38, b_186, b_187, b_188, v_33, vr_1_38) _ _ ⟨rfl, rfl, rfl, rfl, rfl, rfl, rfl, rfl, rfl, rfl, rfl, rfl, rfl, rfl, rfl, rfl, hK, hS, hp, ho, hl, hL_61, hL_85, hM⟩) (fun L_ h_ hL_ ⟨hp, ho, hl, hL_61, hL_85, c201⟩ hs_ => ⟨⟨hp, ho, hl, hL_61, c201⟩, (at_keep 0 rfl hs_ (fun c266 => c266) (at_keep 1 rfl hs_ (fun c272 => c272) (at_keep 2 rfl hs_ (fun c284 => c284) (Go.Wk.at_nil _ _))))⟩)
      · refine HS.eff rfl (want_none) rfl (st_alloc (c := (e_api_Addr (false, (default : Ba 16))).toArray) hS tz_27 rfl) ?_
        rintro _ h_225 ⟨b_275, rfl, hS, hk⟩
        replace hK := hK.trans hk
        replace hp := hp.kp hk
        replace ho := ho.kp hk
        replace hl := hl.kp hk
        replace hL_61 := hL_61.kp hk
        replace hS : St F_79 (Ow.box b_186 27 (e_api_Addr (false, (default : Ba 16))).toArray :: Ow.box b_275 27 (e_api_Addr (false, (default : Ba 16))).toArray :: Ow.box b_187 24 #[.bool false, .slice none 0 0] :: Ow.box b_188 24 #[.bool false, .slice none 0 0] :: Ow.box b_1 29 (c_acequialaw19_One (.bool xp) vp (.bool xo) vo x_G x_A vl).toArray :: fr) h_225 := hS.perm2 [1, 0, 2, 3, 4] 5 rfl rfl
        exact Go.Wk.HA.via (N_6 (F_79, b_189, l_33, b_186, b_275, b_187, b_188, v_33) _ _ ⟨rfl, rfl, rfl, rfl, rfl, rfl, rfl, rfl, rfl, rfl, rfl, rfl, rfl, rfl, rfl, rfl, hK, hS, hp, ho, hl, hL_61, hM⟩) (fun L_ h_ hL_ ⟨hp, ho, hl, hL_61, c201⟩ hs_ => ⟨⟨hp, ho, hl, hL_61, c201⟩, (at_keep 0 rfl hs_ (fun c266 => c266) (at_keep 1 rfl hs_ (fun c272 => c272) (at_keep 3 rfl hs_ (fun c284 => c284) (Go.Wk.at_nil _ _))))⟩)
    refine HA.node (C1 := fun (i : Fz × Bool × (List T_api_Addr) × Nat × Nat × Nat × Value) => match i with | (F', b_194, l_34, b_191, b_192, b_193, v_34) => fun h => (SliceIs h 17 e_api_Addr vp yp) ∧ (SliceIs h 17 e_api_Addr vo yo) ∧ (SliceIs h 17 e_api_Addr vl x_L) ∧ (SliceIs h 17 e_api_Addr v_34 l_34) ∧ (Blk h b_1 (.cells (c_acequialaw19_One (.bool xp) vp (.bool xo) vo x_G x_A vl).toArray 29 (0, 0)))) (cs1 := fun (i : Fz × Bool × (List T_api_Addr) × Nat × Nat × Nat × Value) => match i with | (F', b_194, l_34, b_191, b_192, b_193, v_34) => [(14, fun h => (Blk h b_193 (.cells #[.bool false, .slice none 0 0] 24 (0, 0)))), (16, fun h => (Blk h b_192 (.cells (e_api_Addr (false, (default : Ba 16))).toArray 27 (0, 0)))), (17, fun h => (Blk h b_191 (.cells (e_api_Addr (false, (default : Ba 16))).toArray 27 (0, 0))))]) (fuel1 := 6) (listed1 := #[true, true, true, true, true, false, true, true, true, true, true, false, true, true, false, false, false, false]) (fun (i : Fz × Bool × (List T_api_Addr) × Nat × Nat × Nat × Value) f h => match i with | (F', b_194, l_34, b_191, b_192, b_193, v_34) => f 0 = .agg (c_acequialaw19_One (.bool xp) vp (.bool xo) vo x_G x_A vl).toArray ∧ f 1 = .pointer (some ⟨b_1, 0, none⟩) ∧ f 2 = .bool false ∧ f 3 = .pointer (some ⟨b_193, 0, none⟩) ∧ f 5 = .pointer (some ⟨b_192, 0, none⟩) ∧ f 6 = .pointer (some ⟨b_191, 0, none⟩) ∧ f 10 = .pointer (some ⟨b_1, 0, none⟩) ∧ f 11 = .agg #[.bool xp, vp] ∧ f 12 = .agg #[.bool b_194, v_34] ∧ f 13 = .pointer (some ⟨b_1, 2, none⟩) ∧ f 14 = .agg #[.bool xo, vo] ∧ f 16 = .pointer (some ⟨b_1, 4, none⟩) ∧ f 17 = .agg (e_api_Addr x_G).toArray ∧ f 18 = .pointer (some ⟨b_1, 21, none⟩) ∧ f 19 = .agg (e_api_Addr x_A).toArray ∧ Kp F h0 F' h ∧ St F' (Ow.box b_191 27 (e_api_Addr (false, (default : Ba 16))).toArray :: Ow.box b_192 27 (e_api_Addr (false, (default : Ba 16))).toArray :: Ow.box b_193 24 #[.bool false, .slice none 0 0] :: Ow.box b_1 29 (c_acequialaw19_One (.bool xp) vp (.bool xo) vo x_G x_A vl).toArray :: fr) h ∧ (SliceF F' h 17 e_api_Addr vp yp) ∧ (SliceF F' h 17 e_api_Addr vo yo) ∧ (SliceF F' h 17 e_api_Addr vl x_L) ∧ (SliceF F' h 17 e_api_Addr v_34 l_34) ∧ law19_Few_W xo yo (fun r_0_39 r_1_39 => law19_MergeChanges_j1 x_G x_A Q b_194 l_34 r_0_39 r_1_39)) ?_ (fun N_15 => ?_)
    · rintro ⟨F_84, b_194, l_34, b_191, b_192, b_193, v_34⟩ f_45 h_230 ⟨e0, e1, e2, e3, e5, e6, e10, e11, e12, e13, e14, e16, e17, e18, e19, hK, hS, hp, ho, hl, hL_63, hM⟩
      refine HA.fr [(0, .agg (c_acequialaw19_One (.bool xp) vp (.bool xo) vo x_G x_A vl).toArray), (1, .pointer (some ⟨b_1, 0, none⟩)), (2, .bool false), (3, .pointer (some ⟨b_193, 0, none⟩)), (5, .pointer (some ⟨b_192, 0, none⟩)), (6, .pointer (some ⟨b_191, 0, none⟩)), (10, .pointer (some ⟨b_1, 0, none⟩)), (11, .agg #[.bool xp, vp]), (12, .agg #[.bool b_194, v_34]), (13, .pointer (some ⟨b_1, 2, none⟩)), (14, .agg #[.bool xo, vo]), (16, .pointer (some ⟨b_1, 4, none⟩)), (17, .agg (e_api_Addr x_G).toArray), (18, .pointer (some ⟨b_1, 21, none⟩)), (19, .agg (e_api_Addr x_A).toArray)] ⟨e0, e1, e2, e3, e5, e6, e10, e11, e12, e13, e14, e16, e17, e18, e19, trivial⟩ ?_
      refine HA.two (k := 5) (k' := 11) ⟨⟨hp.is, ho.is, hl.is, hL_63.is, (hS.box 3 rfl)⟩, (at_now (hS.box 2 rfl) (at_now (hS.box 1 rfl) (at_now (hS.box 0 rfl) (Go.Wk.at_nil _ _))))⟩ (by kernel_rfl) ?_ ?_
      · refine HS.call rfl (want_none) rfl (ec en_9 rfl rfl) (law19_Few_walk (fr := (Ow.box b_191 27 (e_api_Addr (false, (default : Ba 16))).toArray :: Ow.box b_192 27 (e_api_Addr (false, (default : Ba 16))).toArray :: Ow.box b_193 24 #[.bool false, .slice none 0 0] :: Ow.box b_1 29 (c_acequialaw19_One (.bool xp) vp (.bool xo) vo x_G x_A vl).toArray :: fr)) xo yo vo hS ho hM) ?_
        rintro _ h_231 ⟨F_85, r_0_40, r_1_40, vr_1_40, rfl, hk, hS, _, hL_87, hM⟩
        replace hK := hK.trans hk
        replace hp := hp.kp hk
        replace ho := ho.kp hk
        replace hl := hl.kp hk
        replace hL_63 := hL_63.kp hk
        exact Go.Wk.HA.via (N_4 (F_85, b_194, l_34, r_0_40, r_1_40, b_191, b_192, b_193, v_34, vr_1_40) _ _ ⟨rfl, rfl, rfl, rfl, rfl, rfl, rfl, rfl, rfl, rfl, rfl, rfl, rfl, rfl, rfl, rfl, hK, hS, hp, ho, hl, hL_63, hL_87, hM⟩) (fun L_ h_ hL_ ⟨hp, ho, hl, hL_63, hL_87, c201⟩ hs_ => ⟨⟨hp, ho, hl, hL_63, c201⟩, (at_keep 0 rfl hs_ (fun c266 => c266) (at_keep 1 rfl hs_ (fun c278 => c278) (at_keep 2 rfl hs_ (fun c284 => c284) (Go.Wk.at_nil _ _))))⟩)
      · refine HS.eff rfl (want_none) rfl (st_alloc (c := #[.bool false, .slice none 0 0]) hS tz_24 rfl) ?_
        rintro _ h_232 ⟨b_277, rfl, hS, hk⟩
        replace hK := hK.trans hk
        replace hp := hp.kp hk
        replace ho := ho.kp hk
        replace hl := hl.kp hk
        replace hL_63 := hL_63.kp hk
        replace hS : St F_84 (Ow.box b_191 27 (e_api_Addr (false, (default : Ba 16))).toArray :: Ow.box b_192 27 (e_api_Addr (false, (default : Ba 16))).toArray :: Ow.box b_277 24 #[.bool false, .slice none 0 0] :: Ow.box b_193 24 #[.bool false, .slice none 0 0] :: Ow.box b_1 29 (c_acequialaw19_One (.bool xp) vp (.bool xo) vo x_G x_A vl).toArray :: fr) h_232 := hS.perm2 [1, 2, 0, 3, 4] 5 rfl rfl
        exact Go.Wk.HA.via (N_6 (F_84, b_194, l_34, b_191, b_192, b_277, b_193, v_34) _ _ ⟨rfl, rfl, rfl, rfl, rfl, rfl, rfl, rfl, rfl, rfl, rfl, rfl, rfl, rfl, rfl, rfl, hK, hS, hp, ho, hl, hL_63, hM⟩) (fun L_ h_ hL_ ⟨hp, ho, hl, hL_63, c201⟩ hs_ => ⟨⟨hp, ho, hl, hL_63, c201⟩, (at_keep 0 rfl hs_ (fun c266 => c266) (at_keep 2 rfl hs_ (fun c278 => c278) (at_keep 3 rfl hs_ (fun c284 => c284) (Go.Wk.at_nil _ _))))⟩)
    refine HA.node (C1 := fun (i : Fz × Bool × (List T_api_Addr) × Nat × Nat × Nat × Value) => match i with | (F', b_199, l_35, b_196, b_197, b_198, v_35) => fun h => (SliceIs h 17 e_api_Addr vp yp) ∧ (SliceIs h 17 e_api_Addr vo yo) ∧ (SliceIs h 17 e_api_Addr vl x_L) ∧ (SliceIs h 17 e_api_Addr v_35 l_35) ∧ (Blk h b_1 (.cells (c_acequialaw19_One (.bool xp) vp (.bool xo) vo x_G x_A vl).toArray 29 (0, 0)))) (cs1 := fun (i : Fz × Bool × (List T_api_Addr) × Nat × Nat × Nat × Value) => match i with | (F', b_199, l_35, b_196, b_197, b_198, v_35) => [(15, fun h => (Blk h b_198 (.cells #[.bool false, .slice none 0 0] 24 (0, 0)))), (16, fun h => (Blk h b_197 (.cells (e_api_Addr (false, (default : Ba 16))).toArray 27 (0, 0)))), (17, fun h => (Blk h b_196 (.cells (e_api_Addr (false, (default : Ba 16))).toArray 27 (0, 0))))]) (fuel1 := 6) (listed1 := #[true, true, true, true, true, false, true, true, true, true, false, true, true, true, false, false, false, false]) (fun (i : Fz × Bool × (List T_api_Addr) × Nat × Nat × Nat × Value) f h => match i with | (F', b_199, l_35, b_196, b_197, b_198, v_35) => f 0 = .agg (c_acequialaw19_One (.bool xp) vp (.bool xo) vo x_G x_A vl).toArray ∧ f 1 = .pointer (some ⟨b_1, 0, none⟩) ∧ f 2 = .bool false ∧ f 4 = .pointer (some ⟨b_198, 0, none⟩) ∧ f 5 = .pointer (some ⟨b_197, 0, none⟩) ∧ f 6 = .pointer (some ⟨b_196, 0, none⟩) ∧ f 10 = .pointer (some ⟨b_1, 0, none⟩) ∧ f 11 = .agg #[.bool xp, vp] ∧ f 12 = .agg #[.bool b_199, v_35] ∧ f 13 = .pointer (some ⟨b_1, 2, none⟩) ∧ f 14 = .agg #[.bool xo, vo] ∧ f 16 = .pointer (some ⟨b_1, 4, none⟩) ∧ f 17 = .agg (e_api_Addr x_G).toArray ∧ f 18 = .pointer (some ⟨b_1, 21, none⟩) ∧ f 19 = .agg (e_api_Addr x_A).toArray ∧ Kp F h0 F' h ∧ St F' (Ow.box b_196 27 (e_api_Addr (false, (default : Ba 16))).toArray :: Ow.box b_197 27 (e_api_Addr (false, (default : Ba 16))).toArray :: Ow.box b_198 24 #[.bool false, .slice none 0 0] :: Ow.box b_1 29 (c_acequialaw19_One (.bool xp) vp (.bool xo) vo x_G x_A vl).toArray :: fr) h ∧ (SliceF F' h 17 e_api_Addr vp yp) ∧ (SliceF F' h 17 e_api_Addr vo yo) ∧ (SliceF F' h 17 e_api_Addr vl x_L) ∧ (SliceF F' h 17 e_api_Addr v_35 l_35) ∧ law19_Few_W xo yo (fun r_0_41 r_1_41 => law19_MergeChanges_j1 x_G x_A Q b_199 l_35 r_0_41 r_1_41)) ?_ (fun N_16 => ?_)
    · rintro ⟨F_89, b_199, l_35, b_196, b_197, b_198, v_35⟩ f_48 h_237 ⟨e0, e1, e2, e4, e5, e6, e10, e11, e12, e13, e14, e16, e17, e18, e19, hK, hS, hp, ho, hl, hL_65, hM⟩
      refine HA.fr [(0, .agg (c_acequialaw19_One (.bool xp) vp (.bool xo) vo x_G x_A vl).toArray), (1, .pointer (some ⟨b_1, 0, none⟩)), (2, .bool false), (4, .pointer (some ⟨b_198, 0, none⟩)), (5, .pointer (some ⟨b_197, 0, none⟩)), (6, .pointer (some ⟨b_196, 0, none⟩)), (10, .pointer (some ⟨b_1, 0, none⟩)), (11, .agg #[.bool xp, vp]), (12, .agg #[.bool b_199, v_35]), (13, .pointer (some ⟨b_1, 2, none⟩)), (14, .agg #[.bool xo, vo]), (16, .pointer (some ⟨b_1, 4, none⟩)), (17, .agg (e_api_Addr x_G).toArray), (18, .pointer (some ⟨b_1, 21, none⟩)), (19, .agg (e_api_Addr x_A).toArray)] ⟨e0, e1, e2, e4, e5, e6, e10, e11, e12, e13, e14, e16, e17, e18, e19, trivial⟩ ?_
      refine HA.two (k := 5) (k' := 10) ⟨⟨hp.is, ho.is, hl.is, hL_65.is, (hS.box 3 rfl)⟩, (at_now (hS.box 2 rfl) (at_now (hS.box 1 rfl) (at_now (hS.box 0 rfl) (Go.Wk.at_nil _ _))))⟩ (by kernel_rfl) ?_ ?_
      · refine HS.call rfl (want_none) rfl (ec en_9 rfl rfl) (law19_Few_walk (fr := (Ow.box b_196 27 (e_api_Addr (false, (default : Ba 16))).toArray :: Ow.box b_197 27 (e_api_Addr (false, (default : Ba 16))).toArray :: Ow.box b_198 24 #[.bool false, .slice none 0 0] :: Ow.box b_1 29 (c_acequialaw19_One (.bool xp) vp (.bool xo) vo x_G x_A vl).toArray :: fr)) xo yo vo hS ho hM) ?_
        rintro _ h_238 ⟨F_90, r_0_42, r_1_42, vr_1_42, rfl, hk, hS, _, hL_89, hM⟩
        replace hK := hK.trans hk
        replace hp := hp.kp hk
        replace ho := ho.kp hk
        replace hl := hl.kp hk
        replace hL_65 := hL_65.kp hk
        exact Go.Wk.HA.via (N_5 (F_90, b_199, l_35, r_0_42, r_1_42, b_196, b_197, b_198, v_35, vr_1_42) _ _ ⟨rfl, rfl, rfl, rfl, rfl, rfl, rfl, rfl, rfl, rfl, rfl, rfl, rfl, rfl, rfl, rfl, hK, hS, hp, ho, hl, hL_65, hL_89, hM⟩) (fun L_ h_ hL_ ⟨hp, ho, hl, hL_65, hL_89, c201⟩ hs_ => ⟨⟨hp, ho, hl, hL_65, c201⟩, (at_keep 0 rfl hs_ (fun c272 => c272) (at_keep 1 rfl hs_ (fun c278 => c278) (at_keep 2 rfl hs_ (fun c284 => c284) (Go.Wk.at_nil _ _))))⟩)
      · refine HS.eff rfl (want_none) rfl (st_alloc (c := #[.bool false, .slice none 0 0]) hS tz_24 rfl) ?_
        rintro _ h_239 ⟨b_279, rfl, hS, hk⟩
        replace hK := hK.trans hk
        replace hp := hp.kp hk
        replace ho := ho.kp hk
        replace hl := hl.kp hk
        replace hL_65 := hL_65.kp hk
        replace hS : St F_89 (Ow.box b_196 27 (e_api_Addr (false, (default : Ba 16))).toArray :: Ow.box b_197 27 (e_api_Addr (false, (default : Ba 16))).toArray :: Ow.box b_198 24 #[.bool false, .slice none 0 0] :: Ow.box b_279 24 #[.bool false, .slice none 0 0] :: Ow.box b_1 29 (c_acequialaw19_One (.bool xp) vp (.bool xo) vo x_G x_A vl).toArray :: fr) h_239 := hS.perm2 [1, 2, 3, 0, 4] 5 rfl rfl
        exact Go.Wk.HA.via (N_6 (F_89, b_199, l_35, b_196, b_197, b_198, b_279, v_35) _ _ ⟨rfl, rfl, rfl, rfl, rfl, rfl, rfl, rfl, rfl, rfl, rfl, rfl, rfl, rfl, rfl, rfl, hK, hS, hp, ho, hl, hL_65, hM⟩) (fun L_ h_ hL_ ⟨hp, ho, hl, hL_65, c201⟩ hs_ => ⟨⟨hp, ho, hl, hL_65, c201⟩, (at_keep 1 rfl hs_ (fun c272 => c272) (at_keep 2 rfl hs_ (fun c278 => c278) (at_keep 3 rfl hs_ (fun c284 => c284) (Go.Wk.at_nil _ _))))⟩)
    refine HA.node (C1 := fun (i : Fz × Nat × Nat × Nat × Nat) => match i with | (F', b_201, b_202, b_203, b_204) => fun h => (SliceIs h 17 e_api_Addr vp yp) ∧ (SliceIs h 17 e_api_Addr vo yo) ∧ (SliceIs h 17 e_api_Addr vl x_L) ∧ (Blk h b_1 (.cells (c_acequialaw19_One (.bool xp) vp (.bool xo) vo x_G x_A vl).toArray 29 (0, 0)))) (cs1 := fun (i : Fz × Nat × Nat × Nat × Nat) => match i with | (F', b_201, b_202, b_203, b_204) => [(14, fun h => (Blk h b_204 (.cells #[.bool false, .slice none 0 0] 24 (0, 0)))), (15, fun h => (Blk h b_203 (.cells #[.bool false, .slice none 0 0] 24 (0, 0)))), (16, fun h => (Blk h b_202 (.cells (e_api_Addr (false, (default : Ba 16))).toArray 27 (0, 0)))), (17, fun h => (Blk h b_201 (.cells (e_api_Addr (false, (default : Ba 16))).toArray 27 (0, 0))))]) (fuel1 := 6) (listed1 := #[true, true, false, true, true, false, true, true, true, true, true, true, true, true, false, false, false, false]) (fun (i : Fz × Nat × Nat × Nat × Nat) f h => match i with | (F', b_201, b_202, b_203, b_204) => f 0 = .agg (c_acequialaw19_One (.bool xp) vp (.bool xo) vo x_G x_A vl).toArray ∧ f 1 = .pointer (some ⟨b_1, 0, none⟩) ∧ f 2 = .bool false ∧ f 3 = .pointer (some ⟨b_204, 0, none⟩) ∧ f 4 = .pointer (some ⟨b_203, 0, none⟩) ∧ f 5 = .pointer (some ⟨b_202, 0, none⟩) ∧ f 6 = .pointer (some ⟨b_201, 0, none⟩) ∧ f 10 = .pointer (some ⟨b_1, 0, none⟩) ∧ f 11 = .agg #[.bool xp, vp] ∧ f 13 = .pointer (some ⟨b_1, 2, none⟩) ∧ f 14 = .agg #[.bool xo, vo] ∧ f 16 = .pointer (some ⟨b_1, 4, none⟩) ∧ f 17 = .agg (e_api_Addr x_G).toArray ∧ f 18 = .pointer (some ⟨b_1, 21, none⟩) ∧ f 19 = .agg (e_api_Addr x_A).toArray ∧ Kp F h0 F' h ∧ St F' (Ow.box b_201 27 (e_api_Addr (false, (default : Ba 16))).toArray :: Ow.box b_202 27 (e_api_Addr (false, (default : Ba 16))).toArray :: Ow.box b_203 24 #[.bool false, .slice none 0 0] :: Ow.box b_204 24 #[.bool false, .slice none 0 0] :: Ow.box b_1 29 (c_acequialaw19_One (.bool xp) vp (.bool xo) vo x_G x_A vl).toArray :: fr) h ∧ (SliceF F' h 17 e_api_Addr vp yp) ∧ (SliceF F' h 17 e_api_Addr vo yo) ∧ (SliceF F' h 17 e_api_Addr vl x_L) ∧ law19_Few_W xp yp (fun r_0_43 r_1_43 => law19_Few_W xo yo (fun r_0_33 r_1_33 => law19_MergeChanges_j1 x_G x_A Q r_0_43 r_1_43 r_0_33 r_1_33))) ?_ (fun N_17 => ?_)
    · rintro ⟨F_94, b_201, b_202, b_203, b_204⟩ f_51 h_243 ⟨e0, e1, e2, e3, e4, e5, e6, e10, e11, e13, e14, e16, e17, e18, e19, hK, hS, hp, ho, hl, hM⟩
      refine HA.fr [(0, .agg (c_acequialaw19_One (.bool xp) vp (.bool xo) vo x_G x_A vl).toArray), (1, .pointer (some ⟨b_1, 0, none⟩)), (2, .bool false), (3, .pointer (some ⟨b_204, 0, none⟩)), (4, .pointer (some ⟨b_203, 0, none⟩)), (5, .pointer (some ⟨b_202, 0, none⟩)), (6, .pointer (some ⟨b_201, 0, none⟩)), (10, .pointer (some ⟨b_1, 0, none⟩)), (11, .agg #[.bool xp, vp]), (13, .pointer (some ⟨b_1, 2, none⟩)), (14, .agg #[.bool xo, vo]), (16, .pointer (some ⟨b_1, 4, none⟩)), (17, .agg (e_api_Addr x_G).toArray), (18, .pointer (some ⟨b_1, 21, none⟩)), (19, .agg (e_api_Addr x_A).toArray)] ⟨e0, e1, e2, e3, e4, e5, e6, e10, e11, e13, e14, e16, e17, e18, e19, trivial⟩ ?_
      refine HA.one (k := 2) ⟨⟨hp.is, ho.is, hl.is, (hS.box 4 rfl)⟩, (at_now (hS.box 3 rfl) (at_now (hS.box 2 rfl) (at_now (hS.box 1 rfl) (at_now (hS.box 0 rfl) (Go.Wk.at_nil _ _)))))⟩ (by kernel_rfl) ?_
      refine HS.call rfl (want_none) rfl (ec en_9 rfl rfl) (law19_Few_walk (fr := (Ow.box b_201 27 (e_api_Addr (false, (default : Ba 16))).toArray :: Ow.box b_202 27 (e_api_Addr (false, (default : Ba 16))).toArray :: Ow.box b_203 24 #[.bool false, .slice none 0 0] :: Ow.box b_204 24 #[.bool false, .slice none 0 0] :: Ow.box b_1 29 (c_acequialaw19_One (.bool xp) vp (.bool xo) vo x_G x_A vl).toArray :: fr)) xp yp vp hS hp hM) ?_
      rintro _ h_244 ⟨F_95, r_0_44, r_1_44, vr_1_44, rfl, hk, hS, _, hL_91, hM⟩
      replace hK := hK.trans hk
      replace hp := hp.kp hk
      replace ho := ho.kp hk
      replace hl := hl.kp hk
      exact Go.Wk.HA.via (N_6 (F_95, r_0_44, r_1_44, b_201, b_202, b_203, b_204, vr_1_44) _ _ ⟨rfl, rfl, rfl, rfl, rfl, rfl, rfl, rfl, rfl, rfl, rfl, rfl, rfl, rfl, rfl, rfl, hK, hS, hp, ho, hl, hL_91, hM⟩) (fun L_ h_ hL_ ⟨hp, ho, hl, hL_91, c201⟩ hs_ => ⟨⟨hp, ho, hl, c201⟩, (at_keep 0 rfl hs_ (fun c266 => c266) (at_keep 1 rfl hs_ (fun c272 => c272) (at_keep 2 rfl hs_ (fun c278 => c278) (at_keep 3 rfl hs_ (fun c284 => c284) (Go.Wk.at_nil _ _)))))⟩)
    refine HA.node (C1 := fun (i : Fz × Bool × (List T_api_Addr) × Bool × (List T_api_Addr) × Nat × Value × Value) => match i with | (F', b_76, l_6, b_77, l_7, b_75, v_6, v_7) => fun h => (SliceIs h 17 e_api_Addr vp yp) ∧ (SliceIs h 17 e_api_Addr vo yo) ∧ (SliceIs h 17 e_api_Addr vl x_L) ∧ (SliceIs h 17 e_api_Addr v_6 l_6) ∧ (SliceIs h 17 e_api_Addr v_7 l_7) ∧ (Blk h b_1 (.cells (c_acequialaw19_One (.bool xp) vp (.bool xo) vo x_G x_A vl).toArray 29 (0, 0)))) (cs1 := fun (i : Fz × Bool × (List T_api_Addr) × Bool × (List T_api_Addr) × Nat × Value × Value) => match i with | (F', b_76, l_6, b_77, l_7, b_75, v_6, v_7) => [(14, fun h => (Blk h b_75 (.cells #[.bool false, .slice none 0 0] 24 (0, 0))))]) (fuel1 := 7) (listed1 := #[true, true, true, true, true, true, true, true, true, true, true, false, false, false, false, false, false, false]) (fun (i : Fz × Bool × (List T_api_Addr) × Bool × (List T_api_Addr) × Nat × Value × Value) f h => match i with | (F', b_76, l_6, b_77, l_7, b_75, v_6, v_7) => f 0 = .agg (c_acequialaw19_One (.bool xp) vp (.bool xo) vo x_G x_A vl).toArray ∧ f 1 = .pointer (some ⟨b_1, 0, none⟩) ∧ f 2 = .bool false ∧ f 3 = .pointer (some ⟨b_75, 0, none⟩) ∧ f 10 = .pointer (some ⟨b_1, 0, none⟩) ∧ f 11 = .agg #[.bool xp, vp] ∧ f 12 = .agg #[.bool b_76, v_6] ∧ f 13 = .pointer (some ⟨b_1, 2, none⟩) ∧ f 14 = .agg #[.bool xo, vo] ∧ f 15 = .agg #[.bool b_77, v_7] ∧ f 16 = .pointer (some ⟨b_1, 4, none⟩) ∧ f 17 = .agg (e_api_Addr x_G).toArray ∧ f 18 = .pointer (some ⟨b_1, 21, none⟩) ∧ f 19 = .agg (e_api_Addr x_A).toArray ∧ Kp F h0 F' h ∧ St F' (Ow.box b_75 24 #[.bool false, .slice none 0 0] :: Ow.box b_1 29 (c_acequialaw19_One (.bool xp) vp (.bool xo) vo x_G x_A vl).toArray :: fr) h ∧ (SliceF F' h 17 e_api_Addr vp yp) ∧ (SliceF F' h 17 e_api_Addr vo yo) ∧ (SliceF F' h 17 e_api_Addr vl x_L) ∧ (SliceF F' h 17 e_api_Addr v_6 l_6) ∧ (SliceF F' h 17 e_api_Addr v_7 l_7) ∧ law19_MergeChanges_j1 x_G x_A Q b_76 l_6 b_77 l_7) ?_ (fun N_18 => ?_)
    · rintro ⟨F_98, b_76, l_6, b_77, l_7, b_75, v_6, v_7⟩ f_54 h_250 ⟨e0, e1, e2, e3, e10, e11, e12, e13, e14, e15, e16, e17, e18, e19, hK, hS, hp, ho, hl, hL_23, hL_24, hM⟩
      refine HA.fr [(0, .agg (c_acequialaw19_One (.bool xp) vp (.bool xo) vo x_G x_A vl).toArray), (1, .pointer (some ⟨b_1, 0, none⟩)), (2, .bool false), (3, .pointer (some ⟨b_75, 0, none⟩)), (10, .pointer (some ⟨b_1, 0, none⟩)), (11, .agg #[.bool xp, vp]), (12, .agg #[.bool b_76, v_6]), (13, .pointer (some ⟨b_1, 2, none⟩)), (14, .agg #[.bool xo, vo]), (15, .agg #[.bool b_77, v_7]), (16, .pointer (some ⟨b_1, 4, none⟩)), (17, .agg (e_api_Addr x_G).toArray), (18, .pointer (some ⟨b_1, 21, none⟩)), (19, .agg (e_api_Addr x_A).toArray)] ⟨e0, e1, e2, e3, e10, e11, e12, e13, e14, e15, e16, e17, e18, e19, trivial⟩ ?_
      refine HA.three (k := 11) (k' := 12) (k'' := 13) ⟨⟨hp.is, ho.is, hl.is, hL_23.is, hL_24.is, (hS.box 1 rfl)⟩, (at_now (hS.box 0 rfl) (Go.Wk.at_nil _ _))⟩ (by kernel_rfl) ?_ ?_ ?_
      · refine HS.eff rfl (want_none) rfl (st_alloc (c := #[.bool false, .slice none 0 0]) hS tz_24 rfl) ?_
        rintro _ h_251 ⟨b_283, rfl, hS, hk⟩
        replace hK := hK.trans hk
        replace hp := hp.kp hk
        replace ho := ho.kp hk
        replace hl := hl.kp hk
        replace hL_23 := hL_23.kp hk
        replace hL_24 := hL_24.kp hk
        exact Go.Wk.HA.via (N_7 (F_98, b_76, l_6, b_77, l_7, b_283, b_75, v_6, v_7) _ _ ⟨rfl, rfl, rfl, rfl, rfl, rfl, rfl, rfl, rfl, rfl, rfl, rfl, rfl, rfl, rfl, hK, hS, hp, ho, hl, hL_23, hL_24, hM⟩) (fun L_ h_ hL_ ⟨hp, ho, hl, hL_23, hL_24, c201⟩ hs_ => ⟨⟨hp, ho, hl, hL_23, hL_24, c201⟩, (at_keep 0 rfl hs_ (fun c266 => c266) (Go.Wk.at_nil _ _))⟩)
      · refine HS.eff rfl (want_none) rfl (st_alloc (c := (e_api_Addr (false, (default : Ba 16))).toArray) hS tz_27 rfl) ?_
        rintro _ h_252 ⟨b_284, rfl, hS, hk⟩
        replace hK := hK.trans hk
        replace hp := hp.kp hk
        replace ho := ho.kp hk
        replace hl := hl.kp hk
        replace hL_23 := hL_23.kp hk
        replace hL_24 := hL_24.kp hk
        exact Go.Wk.HA.via (N_8 (F_98, b_76, l_6, b_77, l_7, b_284, b_75, v_6, v_7) _ _ ⟨rfl, rfl, rfl, rfl, rfl, rfl, rfl, rfl, rfl, rfl, rfl, rfl, rfl, rfl, rfl, hK, hS, hp, ho, hl, hL_23, hL_24, hM⟩) (fun L_ h_ hL_ ⟨hp, ho, hl, hL_23, hL_24, c201⟩ hs_ => ⟨⟨hp, ho, hl, hL_23, hL_24, c201⟩, (at_keep 0 rfl hs_ (fun c266 => c266) (Go.Wk.at_nil _ _))⟩)
      · refine HS.eff rfl (want_none) rfl (st_alloc (c := (e_api_Addr (false, (default : Ba 16))).toArray) hS tz_27 rfl) ?_
        rintro _ h_253 ⟨b_285, rfl, hS, hk⟩
        replace hK := hK.trans hk
        replace hp := hp.kp hk
        replace ho := ho.kp hk
        replace hl := hl.kp hk
        replace hL_23 := hL_23.kp hk
        replace hL_24 := hL_24.kp hk
        exact Go.Wk.HA.via (N_9 (F_98, b_76, l_6, b_77, l_7, b_285, b_75, v_6, v_7) _ _ ⟨rfl, rfl, rfl, rfl, rfl, rfl, rfl, rfl, rfl, rfl, rfl, rfl, rfl, rfl, rfl, hK, hS, hp, ho, hl, hL_23, hL_24, hM⟩) (fun L_ h_ hL_ ⟨hp, ho, hl, hL_23, hL_24, c201⟩ hs_ => ⟨⟨hp, ho, hl, hL_23, hL_24, c201⟩, (at_keep 0 rfl hs_ (fun c266 => c266) (Go.Wk.at_nil _ _))⟩)
    refine HA.node (C1 := fun (i : Fz × Bool × (List T_api_Addr) × Bool × (List T_api_Addr) × Nat × Value × Value) => match i with | (F', b_82, l_8, b_83, l_9, b_81, v_8, v_9) => fun h => (SliceIs h 17 e_api_Addr vp yp) ∧ (SliceIs h 17 e_api_Addr vo yo) ∧ (SliceIs h 17 e_api_Addr vl x_L) ∧ (SliceIs h 17 e_api_Addr v_8 l_8) ∧ (SliceIs h 17 e_api_Addr v_9 l_9) ∧ (Blk h b_1 (.cells (c_acequialaw19_One (.bool xp) vp (.bool xo) vo x_G x_A vl).toArray 29 (0, 0)))) (cs1 := fun (i : Fz × Bool × (List T_api_Addr) × Bool × (List T_api_Addr) × Nat × Value × Value) => match i with | (F', b_82, l_8, b_83, l_9, b_81, v_8, v_9) => [(15, fun h => (Blk h b_81 (.cells #[.bool false, .slice none 0 0] 24 (0, 0))))]) (fuel1 := 7) (listed1 := #[true, true, true, true, true, true, true, true, true, true, false, true, false, false, false, false, false, false]) (fun (i : Fz × Bool × (List T_api_Addr) × Bool × (List T_api_Addr) × Nat × Value × Value) f h => match i with | (F', b_82, l_8, b_83, l_9, b_81, v_8, v_9) => f 0 = .agg (c_acequialaw19_One (.bool xp) vp (.bool xo) vo x_G x_A vl).toArray ∧ f 1 = .pointer (some ⟨b_1, 0, none⟩) ∧ f 2 = .bool false ∧ f 4 = .pointer (some ⟨b_81, 0, none⟩) ∧ f 10 = .pointer (some ⟨b_1, 0, none⟩) ∧ f 11 = .agg #[.bool xp, vp] ∧ f 12 = .agg #[.bool b_82, v_8] ∧ f 13 = .pointer (some ⟨b_1, 2, none⟩) ∧ f 14 = .agg #[.bool xo, vo] ∧ f 15 = .agg #[.bool b_83, v_9] ∧ f 16 = .pointer (some ⟨b_1, 4, none⟩) ∧ f 17 = .agg (e_api_Addr x_G).toArray ∧ f 18 = .pointer (some ⟨b_1, 21, none⟩) ∧ f 19 = .agg (e_api_Addr x_A).toArray ∧ Kp F h0 F' h ∧ St F' (Ow.box b_81 24 #[.bool false, .slice none 0 0] :: Ow.box b_1 29 (c_acequialaw19_One (.bool xp) vp (.bool xo) vo x_G x_A vl).toArray :: fr) h ∧ (SliceF F' h 17 e_api_Addr vp yp) ∧ (SliceF F' h 17 e_api_Addr vo yo) ∧ (SliceF F' h 17 e_api_Addr vl x_L) ∧ (SliceF F' h 17 e_api_Addr v_8 l_8) ∧ (SliceF F' h 17 e_api_Addr v_9 l_9) ∧ law19_MergeChanges_j1 x_G x_A Q b_82 l_8 b_83 l_9) ?_ (fun N_19 => ?_)
    · rintro ⟨F_101, b_82, l_8, b_83, l_9, b_81, v_8, v_9⟩ f_57 h_259 ⟨e0, e1, e2, e4, e10, e11, e12, e13, e14, e15, e16, e17, e18, e19, hK, hS, hp, ho, hl, hL_25, hL_26, hM⟩
      refine HA.fr [(0, .agg (c_acequialaw19_One (.bool xp) vp (.bool xo) vo x_G x_A vl).toArray), (1, .pointer (some ⟨b_1, 0, none⟩)), (2, .bool false), (4, .pointer (some ⟨b_81, 0, none⟩)), (10, .pointer (some ⟨b_1, 0, none⟩)), (11, .agg #[.bool xp, vp]), (12, .agg #[.bool b_82, v_8]), (13, .pointer (some ⟨b_1, 2, none⟩)), (14, .agg #[.bool xo, vo]), (15, .agg #[.bool b_83, v_9]), (16, .pointer (some ⟨b_1, 4, none⟩)), (17, .agg (e_api_Addr x_G).toArray), (18, .pointer (some ⟨b_1, 21, none⟩)), (19, .agg (e_api_Addr x_A).toArray)] ⟨e0, e1, e2, e4, e10, e11, e12, e13, e14, e15, e16, e17, e18, e19, trivial⟩ ?_
      refine HA.three (k := 10) (k' := 12) (k'' := 13) ⟨⟨hp.is, ho.is, hl.is, hL_25.is, hL_26.is, (hS.box 1 rfl)⟩, (at_now (hS.box 0 rfl) (Go.Wk.at_nil _ _))⟩ (by kernel_rfl) ?_ ?_ ?_
      · refine HS.eff rfl (want_none) rfl (st_alloc (c := #[.bool false, .slice none 0 0]) hS tz_24 rfl) ?_
        rintro _ h_260 ⟨b_289, rfl, hS, hk⟩
        replace hK := hK.trans hk
        replace hp := hp.kp hk
        replace ho := ho.kp hk
        replace hl := hl.kp hk
        replace hL_25 := hL_25.kp hk
        replace hL_26 := hL_26.kp hk
        replace hS : St F_101 (Ow.box b_81 24 #[.bool false, .slice none 0 0] :: Ow.box b_289 24 #[.bool false, .slice none 0 0] :: Ow.box b_1 29 (c_acequialaw19_One (.bool xp) vp (.bool xo) vo x_G x_A vl).toArray :: fr) h_260 := hS.perm2 [1, 0, 2] 3 rfl rfl
        exact Go.Wk.HA.via (N_7 (F_101, b_82, l_8, b_83, l_9, b_81, b_289, v_8, v_9) _ _ ⟨rfl, rfl, rfl, rfl, rfl, rfl, rfl, rfl, rfl, rfl, rfl, rfl, rfl, rfl, rfl, hK, hS, hp, ho, hl, hL_25, hL_26, hM⟩) (fun L_ h_ hL_ ⟨hp, ho, hl, hL_25, hL_26, c201⟩ hs_ => ⟨⟨hp, ho, hl, hL_25, hL_26, c201⟩, (at_keep 1 rfl hs_ (fun c272 => c272) (Go.Wk.at_nil _ _))⟩)
      · refine HS.eff rfl (want_none) rfl (st_alloc (c := (e_api_Addr (false, (default : Ba 16))).toArray) hS tz_27 rfl) ?_
        rintro _ h_261 ⟨b_290, rfl, hS, hk⟩
        replace hK := hK.trans hk
        replace hp := hp.kp hk
        replace ho := ho.kp hk
        replace hl := hl.kp hk
        replace hL_25 := hL_25.kp hk
        replace hL_26 := hL_26.kp hk
        exact Go.Wk.HA.via (N_10 (F_101, b_82, l_8, b_83, l_9, b_290, b_81, v_8, v_9) _ _ ⟨rfl, rfl, rfl, rfl, rfl, rfl, rfl, rfl, rfl, rfl, rfl, rfl, rfl, rfl, rfl, hK, hS, hp, ho, hl, hL_25, hL_26, hM⟩) (fun L_ h_ hL_ ⟨hp, ho, hl, hL_25, hL_26, c201⟩ hs_ => ⟨⟨hp, ho, hl, hL_25, hL_26, c201⟩, (at_keep 0 rfl hs_ (fun c272 => c272) (Go.Wk.at_nil _ _))⟩)
      · refine HS.eff rfl (want_none) rfl (st_alloc (c := (e_api_Addr (false, (default : Ba 16))).toArray) hS tz_27 rfl) ?_
        rintro _ h_262 ⟨b_291, rfl, hS, hk⟩
        replace hK := hK.trans hk
        replace hp := hp.kp hk
        replace ho := ho.kp hk
        replace hl := hl.kp hk
        replace hL_25 := hL_25.kp hk
        replace hL_26 := hL_26.kp hk
        exact Go.Wk.HA.via (N_11 (F_101, b_82, l_8, b_83, l_9, b_291, b_81, v_8, v_9) _ _ ⟨rfl, rfl, rfl, rfl, rfl, rfl, rfl, rfl, rfl, rfl, rfl, rfl, rfl, rfl, rfl, hK, hS, hp, ho, hl, hL_25, hL_26, hM⟩) (fun L_ h_ hL_ ⟨hp, ho, hl, hL_25, hL_26, c201⟩ hs_ => ⟨⟨hp, ho, hl, hL_25, hL_26, c201⟩, (at_keep 0 rfl hs_ (fun c272 => c272) (Go.Wk.at_nil _ _))⟩)
    refine HA.node (C1 := fun (i : Fz × Bool × (List T_api_Addr) × Bool × (List T_api_Addr) × Nat × Value × Value) => match i with | (F', b_88, l_10, b_89, l_11, b_87, v_10, v_11) => fun h => (SliceIs h 17 e_api_Addr vp yp) ∧ (SliceIs h 17 e_api_Addr vo yo) ∧ (SliceIs h 17 e_api_Addr vl x_L) ∧ (SliceIs h 17 e_api_Addr v_10 l_10) ∧ (SliceIs h 17 e_api_Addr v_11 l_11) ∧ (Blk h b_1 (.cells (c_acequialaw19_One (.bool xp) vp (.bool xo) vo x_G x_A vl).toArray 29 (0, 0)))) (cs1 := fun (i : Fz × Bool × (List T_api_Addr) × Bool × (List T_api_Addr) × Nat × Value × Value) => match i with | (F', b_88, l_10, b_89, l_11, b_87, v_10, v_11) => [(16, fun h => (Blk h b_87 (.cells (e_api_Addr (false, (default : Ba 16))).toArray 27 (0, 0))))]) (fuel1 := 7) (listed1 := #[true, true, true, true, true, true, true, true, true, true, false, false, true, false, false, false, false, false]) (fun (i : Fz × Bool × (List T_api_Addr) × Bool × (List T_api_Addr) × Nat × Value × Value) f h => match i with | (F', b_88, l_10, b_89, l_11, b_87, v_10, v_11) => f 0 = .agg (c_acequialaw19_One (.bool xp) vp (.bool xo) vo x_G x_A vl).toArray ∧ f 1 = .pointer (some ⟨b_1, 0, none⟩) ∧ f 2 = .bool false ∧ f 5 = .pointer (some ⟨b_87, 0, none⟩) ∧ f 10 = .pointer (some ⟨b_1, 0, none⟩) ∧ f 11 = .agg #[.bool xp, vp] ∧ f 12 = .agg #[.bool b_88, v_10] ∧ f 13 = .pointer (some ⟨b_1, 2, none⟩) ∧ f 14 = .agg #[.bool xo, vo] ∧ f 15 = .agg #[.bool b_89, v_11] ∧ f 16 = .pointer (some ⟨b_1, 4, none⟩) ∧ f 17 = .agg (e_api_Addr x_G).toArray ∧ f 18 = .pointer (some ⟨b_1, 21, none⟩) ∧ f 19 = .agg (e_api_Addr x_A).toArray ∧ Kp F h0 F' h ∧ St F' (Ow.box b_87 27 (e_api_Addr (false, (default : Ba 16))).toArray :: Ow.box b_1 29 (c_acequialaw19_One (.bool xp) vp (.bool xo) vo x_G x_A vl).toArray :: fr) h ∧ (SliceF F' h 17 e_api_Addr vp yp) ∧ (SliceF F' h 17 e_api_Addr vo yo) ∧ (SliceF F' h 17 e_api_Addr vl x_L) ∧ (SliceF F' h 17 e_api_Addr v_10 l_10) ∧ (SliceF F' h 17 e_api_Addr v_11 l_11) ∧ law19_MergeChanges_j1 x_G x_A Q b_88 l_10 b_89 l_11) ?_ (fun N_20 => ?_)
    · rintro ⟨F_104, b_88, l_10, b_89, l_11, b_87, v_10, v_11⟩ f_60 h_268 ⟨e0, e1, e2, e5, e10, e11, e12, e13, e14, e15, e16, e17, e18, e19, hK, hS, hp, ho, hl, hL_27, hL_28, hM⟩
      refine HA.fr [(0, .agg (c_acequialaw19_One (.bool xp) vp (.bool xo) vo x_G x_A vl).toArray), (1, .pointer (some ⟨b_1, 0, none⟩)), (2, .bool false), (5, .pointer (some ⟨b_87, 0, none⟩)), (10, .pointer (some ⟨b_1, 0, none⟩)), (11, .agg #[.bool xp, vp]), (12, .agg #[.bool b_88, v_10]), (13, .pointer (some ⟨b_1, 2, none⟩)), (14, .agg #[.bool xo, vo]), (15, .agg #[.bool b_89, v_11]), (16, .pointer (some ⟨b_1, 4, none⟩)), (17, .agg (e_api_Addr x_G).toArray), (18, .pointer (some ⟨b_1, 21, none⟩)), (19, .agg (e_api_Addr x_A).toArray)] ⟨e0, e1, e2, e5, e10, e11, e12, e13, e14, e15, e16, e17, e18, e19, trivial⟩ ?_
      refine HA.three (k := 10) (k' := 11) (k'' := 13) ⟨⟨hp.is, ho.is, hl.is, hL_27.is, hL_28.is, (hS.box 1 rfl)⟩, (at_now (hS.box 0 rfl) (Go.Wk.at_nil _ _))⟩ (by kernel_rfl) ?_ ?_ ?_
      · refine HS.eff rfl (want_none) rfl (st_alloc (c := #[.bool false, .slice none 0 0]) hS tz_24 rfl) ?_
        rintro _ h_269 ⟨b_295, rfl, hS, hk⟩
        replace hK := hK.trans hk
        replace hp := hp.kp hk
        replace ho := ho.kp hk
        replace hl := hl.kp hk
        replace hL_27 := hL_27.kp hk
        replace hL_28 := hL_28.kp hk
        replace hS : St F_104 (Ow.box b_87 27 (e_api_Addr (false, (default : Ba 16))).toArray :: Ow.box b_295 24 #[.bool false, .slice none 0 0] :: Ow.box b_1 29 (c_acequialaw19_One (.bool xp) vp (.bool xo) vo x_G x_A vl).toArray :: fr) h_269 := hS.perm2 [1, 0, 2] 3 rfl rfl
        exact Go.Wk.HA.via (N_8 (F_104, b_88, l_10, b_89, l_11, b_87, b_295, v_10, v_11) _ _ ⟨rfl, rfl, rfl, rfl, rfl, rfl, rfl, rfl, rfl, rfl, rfl, rfl, rfl, rfl, rfl, hK, hS, hp, ho, hl, hL_27, hL_28, hM⟩) (fun L_ h_ hL_ ⟨hp, ho, hl, hL_27, hL_28, c201⟩ hs_ => ⟨⟨hp, ho, hl, hL_27, hL_28, c201⟩, (at_keep 1 rfl hs_ (fun c278 => c278) (Go.Wk.at_nil _ _))⟩)
      · refine HS.eff rfl (want_none) rfl (st_alloc (c := #[.bool false, .slice none 0 0]) hS tz_24 rfl) ?_
        rintro _ h_270 ⟨b_296, rfl, hS, hk⟩
        replace hK := hK.trans hk
        replace hp := hp.kp hk
        replace ho := ho.kp hk
        replace hl := hl.kp hk
        replace hL_27 := hL_27.kp hk
        replace hL_28 := hL_28.kp hk
        replace hS : St F_104 (Ow.box b_87 27 (e_api_Addr (false, (default : Ba 16))).toArray :: Ow.box b_296 24 #[.bool false, .slice none 0 0] :: Ow.box b_1 29 (c_acequialaw19_One (.bool xp) vp (.bool xo) vo x_G x_A vl).toArray :: fr) h_270 := hS.perm2 [1, 0, 2] 3 rfl rfl
        exact Go.Wk.HA.via (N_10 (F_104, b_88, l_10, b_89, l_11, b_87, b_296, v_10, v_11) _ _ ⟨rfl, rfl, rfl, rfl, rfl, rfl, rfl, rfl, rfl, rfl, rfl, rfl, rfl, rfl, rfl, hK, hS, hp, ho, hl, hL_27, hL_28, hM⟩) (fun L_ h_ hL_ ⟨hp, ho, hl, hL_27, hL_28, c201⟩ hs_ => ⟨⟨hp, ho, hl, hL_27, hL_28, c201⟩, (at_keep 1 rfl hs_ (fun c278 => c278) (Go.Wk.at_nil _ _))⟩)
      · refine HS.eff rfl (want_none) rfl (st_alloc (c := (e_api_Addr (false, (default : Ba 16))).toArray) hS tz_27 rfl) ?_
        rintro _ h_271 ⟨b_297, rfl, hS, hk⟩
        replace hK := hK.trans hk
        replace hp := hp.kp hk
        replace ho := ho.kp hk
        replace hl := hl.kp hk
        replace hL_27 := hL_27.kp hk
        replace hL_28 := hL_28.kp hk
        exact Go.Wk.HA.via (N_12 (F_104, b_88, l_10, b_89, l_11, b_297, b_87, v_10, v_11) _ _ ⟨rfl, rfl, rfl, rfl, rfl, rfl, rfl, rfl, rfl, rfl, rfl, rfl, rfl, rfl, rfl, hK, hS, hp, ho, hl, hL_27, hL_28, hM⟩) (fun L_ h_ hL_ ⟨hp, ho, hl, hL_27, hL_28, c201⟩ hs_ => ⟨⟨hp, ho, hl, hL_27, hL_28, c201⟩, (at_keep 0 rfl hs_ (fun c278 => c278) (Go.Wk.at_nil _ _))⟩)
    refine HA.node (C1 := fun (i : Fz × Bool × (List T_api_Addr) × Bool × (List T_api_Addr) × Nat × Value × Value) => match i with | (F', b_94, l_12, b_95, l_13, b_93, v_12, v_13) => fun h => (SliceIs h 17 e_api_Addr vp yp) ∧ (SliceIs h 17 e_api_Addr vo yo) ∧ (SliceIs h 17 e_api_Addr vl x_L) ∧ (SliceIs h 17 e_api_Addr v_12 l_12) ∧ (SliceIs h 17 e_api_Addr v_13 l_13) ∧ (Blk h b_1 (.cells (c_acequialaw19_One (.bool xp) vp (.bool xo) vo x_G x_A vl).toArray 29 (0, 0)))) (cs1 := fun (i : Fz × Bool × (List T_api_Addr) × Bool × (List T_api_Addr) × Nat × Value × Value) => match i with | (F', b_94, l_12, b_95, l_13, b_93, v_12, v_13) => [(17, fun h => (Blk h b_93 (.cells (e_api_Addr (false, (default : Ba 16))).toArray 27 (0, 0))))]) (fuel1 := 7) (listed1 := #[true, true, true, true, true, true, true, true, true, true, false, false, false, true, false, false, false, false]) (fun (i : Fz × Bool × (List T_api_Addr) × Bool × (List T_api_Addr) × Nat × Value × Value) f h => match i with | (F', b_94, l_12, b_95, l_13, b_93, v_12, v_13) => f 0 = .agg (c_acequialaw19_One (.bool xp) vp (.bool xo) vo x_G x_A vl).toArray ∧ f 1 = .pointer (some ⟨b_1, 0, none⟩) ∧ f 2 = .bool false ∧ f 6 = .pointer (some ⟨b_93, 0, none⟩) ∧ f 10 = .pointer (some ⟨b_1, 0, none⟩) ∧ f 11 = .agg #[.bool xp, vp] ∧ f 12 = .agg #[.bool b_94, v_12] ∧ f 13 = .pointer (some ⟨b_1, 2, none⟩) ∧ f 14 = .agg #[.bool xo, vo] ∧ f 15 = .agg #[.bool b_95, v_13] ∧ f 16 = .pointer (some ⟨b_1, 4, none⟩) ∧ f 17 = .agg (e_api_Addr x_G).toArray ∧ f 18 = .pointer (some ⟨b_1, 21, none⟩) ∧ f 19 = .agg (e_api_Addr x_A).toArray ∧ Kp F h0 F' h ∧ St F' (Ow.box b_93 27 (e_api_Addr (false, (default : Ba 16))).toArray :: Ow.box b_1 29 (c_acequialaw19_One (.bool xp) vp (.bool xo) vo x_G x_A vl).toArray :: fr) h ∧ (SliceF F' h 17 e_api_Addr vp yp) ∧ (SliceF F' h 17 e_api_Addr vo yo) ∧ (SliceF F' h 17 e_api_Addr vl x_L) ∧ (SliceF F' h 17 e_api_Addr v_12 l_12) ∧ (SliceF F' h 17 e_api_Addr v_13 l_13) ∧ law19_MergeChanges_j1 x_G x_A Q b_94 l_12 b_95 l_13) ?_ (fun N_21 => ?_)
    · rintro ⟨F_107, b_94, l_12, b_95, l_13, b_93, v_12, v_13⟩ f_63 h_277 ⟨e0, e1, e2, e6, e10, e11, e12, e13, e14, e15, e16, e17, e18, e19, hK, hS, hp, ho, hl, hL_29, hL_30, hM⟩
      refine HA.fr [(0, .agg (c_acequialaw19_One (.bool xp) vp (.bool xo) vo x_G x_A vl).toArray), (1, .pointer (some ⟨b_1, 0, none⟩)), (2, .bool false), (6, .pointer (some ⟨b_93, 0, none⟩)), (10, .pointer (some ⟨b_1, 0, none⟩)), (11, .agg #[.bool xp, vp]), (12, .agg #[.bool b_94, v_12]), (13, .pointer (some ⟨b_1, 2, none⟩)), (14, .agg #[.bool xo, vo]), (15, .agg #[.bool b_95, v_13]), (16, .pointer (some ⟨b_1, 4, none⟩)), (17, .agg (e_api_Addr x_G).toArray), (18, .pointer (some ⟨b_1, 21, none⟩)), (19, .agg (e_api_Addr x_A).toArray)] ⟨e0, e1, e2, e6, e10, e11, e12, e13, e14, e15, e16, e17, e18, e19, trivial⟩ ?_
      refine HA.three (k := 10) (k' := 11) (k'' := 12) ⟨⟨hp.is, ho.is, hl.is, hL_29.is, hL_30.is, (hS.box 1 rfl)⟩, (at_now (hS.box 0 rfl) (Go.Wk.at_nil _ _))⟩ (by kernel_rfl) ?_ ?_ ?_
      · refine HS.eff rfl (want_none) rfl (st_alloc (c := #[.bool false, .slice none 0 0]) hS tz_24 rfl) ?_
        rintro _ h_278 ⟨b_301, rfl, hS, hk⟩
        replace hK := hK.trans hk
        replace hp := hp.kp hk
        replace ho := ho.kp hk
        replace hl := hl.kp hk
        replace hL_29 := hL_29.kp hk
        replace hL_30 := hL_30.kp hk
        replace hS : St F_107 (Ow.box b_93 27 (e_api_Addr (false, (default : Ba 16))).toArray :: Ow.box b_301 24 #[.bool false, .slice none 0 0] :: Ow.box b_1 29 (c_acequialaw19_One (.bool xp) vp (.bool xo) vo x_G x_A vl).toArray :: fr) h_278 := hS.perm2 [1, 0, 2] 3 rfl rfl
        exact Go.Wk.HA.via (N_9 (F_107, b_94, l_12, b_95, l_13, b_93, b_301, v_12, v_13) _ _ ⟨rfl, rfl, rfl, rfl, rfl, rfl, rfl, rfl, rfl, rfl, rfl, rfl, rfl, rfl, rfl, hK, hS, hp, ho, hl, hL_29, hL_30, hM⟩) (fun L_ h_ hL_ ⟨hp, ho, hl, hL_29, hL_30, c201⟩ hs_ => ⟨⟨hp, ho, hl, hL_29, hL_30, c201⟩, (at_keep 1 rfl hs_ (fun c284 => c284) (Go.Wk.at_nil _ _))⟩)
      · refine HS.eff rfl (want_none) rfl (st_alloc (c := #[.bool false, .slice none 0 0]) hS tz_24 rfl) ?_
        rintro _ h_279 ⟨b_302, rfl, hS, hk⟩
        replace hK := hK.trans hk
        replace hp := hp.kp hk
        replace ho := ho.kp hk
        replace hl := hl.kp hk
        replace hL_29 := hL_29.kp hk
        replace hL_30 := hL_30.kp hk
        replace hS : St F_107 (Ow.box b_93 27 (e_api_Addr (false, (default : Ba 16))).toArray :: Ow.box b_302 24 #[.bool false, .slice none 0 0] :: Ow.box b_1 29 (c_acequialaw19_One (.bool xp) vp (.bool xo) vo x_G x_A vl).toArray :: fr) h_279 := hS.perm2 [1, 0, 2] 3 rfl rfl
        exact Go.Wk.HA.via (N_11 (F_107, b_94, l_12, b_95, l_13, b_93, b_302, v_12, v_13) _ _ ⟨rfl, rfl, rfl, rfl, rfl, rfl, rfl, rfl, rfl, rfl, rfl, rfl, rfl, rfl, rfl, hK, hS, hp, ho, hl, hL_29, hL_30, hM⟩) (fun L_ h_ hL_ ⟨hp, ho, hl, hL_29, hL_30, c201⟩ hs_ => ⟨⟨hp, ho, hl, hL_29, hL_30, c201⟩, (at_keep 1 rfl hs_ (fun c284 => c284) (Go.Wk.at_nil _ _))⟩)
      · refine HS.eff rfl (want_none) rfl (st_alloc (c := (e_api_Addr (false, (default : Ba 16))).toArray) hS tz_27 rfl) ?_
        rintro _ h_280 ⟨b_303, rfl, hS, hk⟩
        replace hK := hK.trans hk
        replace hp := hp.kp hk
        replace ho := ho.kp hk
        replace hl := hl.kp hk
        replace hL_29 := hL_29.kp hk
        replace hL_30 := hL_30.kp hk
        replace hS : St F_107 (Ow.box b_93 27 (e_api_Addr (false, (default : Ba 16))).toArray :: Ow.box b_303 27 (e_api_Addr (false, (default : Ba 16))).toArray :: Ow.box b_1 29 (c_acequialaw19_One (.bool xp) vp (.bool xo) vo x_G x_A vl).toArray :: fr) h_280 := hS.perm2 [1, 0, 2] 3 rfl rfl
        exact Go.Wk.HA.via (N_12 (F_107, b_94, l_12, b_95, l_13, b_93, b_303, v_12, v_13) _ _ ⟨rfl, rfl, rfl, rfl, rfl, rfl, rfl, rfl, rfl, rfl, rfl, rfl, rfl, rfl, rfl, hK, hS, hp, ho, hl, hL_29, hL_30, hM⟩) (fun L_ h_ hL_ ⟨hp, ho, hl, hL_29, hL_30, c201⟩ hs_ => ⟨⟨hp, ho, hl, hL_29, hL_30, c201⟩, (at_keep 1 rfl hs_ (fun c284 => c284) (Go.Wk.at_nil _ _))⟩)
    refine HA.node (C1 := fun (i : Fz × Bool × (List T_api_Addr) × Nat × Nat × Value) => match i with | (F', b_101, l_14, b_99, b_100, v_14) => fun h => (SliceIs h 17 e_api_Addr vp yp) ∧ (SliceIs h 17 e_api_Addr vo yo) ∧ (SliceIs h 17 e_api_Addr vl x_L) ∧ (SliceIs h 17 e_api_Addr v_14 l_14) ∧ (Blk h b_1 (.cells (c_acequialaw19_One (.bool xp) vp (.bool xo) vo x_G x_A vl).toArray 29 (0, 0)))) (cs1 := fun (i : Fz × Bool × (List T_api_Addr) × Nat × Nat × Value) => match i with | (F', b_101, l_14, b_99, b_100, v_14) => [(14, fun h => (Blk h b_100 (.cells #[.bool false, .slice none 0 0] 24 (0, 0)))), (15, fun h => (Blk h b_99 (.cells #[.bool false, .slice none 0 0] 24 (0, 0))))]) (fuel1 := 7) (listed1 := #[true, true, true, true, true, false, true, true, true, true, true, true, false, false, false, false, false, false]) (fun (i : Fz × Bool × (List T_api_Addr) × Nat × Nat × Value) f h => match i with | (F', b_101, l_14, b_99, b_100, v_14) => f 0 = .agg (c_acequialaw19_One (.bool xp) vp (.bool xo) vo x_G x_A vl).toArray ∧ f 1 = .pointer (some ⟨b_1, 0, none⟩) ∧ f 2 = .bool false ∧ f 3 = .pointer (some ⟨b_100, 0, none⟩) ∧ f 4 = .pointer (some ⟨b_99, 0, none⟩) ∧ f 10 = .pointer (some ⟨b_1, 0, none⟩) ∧ f 11 = .agg #[.bool xp, vp] ∧ f 12 = .agg #[.bool b_101, v_14] ∧ f 13 = .pointer (some ⟨b_1, 2, none⟩) ∧ f 14 = .agg #[.bool xo, vo] ∧ f 16 = .pointer (some ⟨b_1, 4, none⟩) ∧ f 17 = .agg (e_api_Addr x_G).toArray ∧ f 18 = .pointer (some ⟨b_1, 21, none⟩) ∧ f 19 = .agg (e_api_Addr x_A).toArray ∧ Kp F h0 F' h ∧ St F' (Ow.box b_99 24 #[.bool false, .slice none 0 0] :: Ow.box b_100 24 #[.bool false, .slice none 0 0] :: Ow.box b_1 29 (c_acequialaw19_One (.bool xp) vp (.bool xo) vo x_G x_A vl).toArray :: fr) h ∧ (SliceF F' h 17 e_api_Addr vp yp) ∧ (SliceF F' h 17 e_api_Addr vo yo) ∧ (SliceF F' h 17 e_api_Addr vl x_L) ∧ (SliceF F' h 17 e_api_Addr v_14 l_14) ∧ law19_Few_W xo yo (fun r_0_45 r_1_45 => law19_MergeChanges_j1 x_G x_A Q b_101 l_14 r_0_45 r_1_45)) ?_ (fun N_22 => ?_)
    · rintro ⟨F_111, b_101, l_14, b_99, b_100, v_14⟩ f_66 h_286 ⟨e0, e1, e2, e3, e4, e10, e11, e12, e13, e14, e16, e17, e18, e19, hK, hS, hp, ho, hl, hL_31, hM⟩
      refine HA.fr [(0, .agg (c_acequialaw19_One (.bool xp) vp (.bool xo) vo x_G x_A vl).toArray), (1, .pointer (some ⟨b_1, 0, none⟩)), (2, .bool false), (3, .pointer (some ⟨b_100, 0, none⟩)), (4, .pointer (some ⟨b_99, 0, none⟩)), (10, .pointer (some ⟨b_1, 0, none⟩)), (11, .agg #[.bool xp, vp]), (12, .agg #[.bool b_101, v_14]), (13, .pointer (some ⟨b_1, 2, none⟩)), (14, .agg #[.bool xo, vo]), (16, .pointer (some ⟨b_1, 4, none⟩)), (17, .agg (e_api_Addr x_G).toArray), (18, .pointer (some ⟨b_1, 21, none⟩)), (19, .agg (e_api_Addr x_A).toArray)] ⟨e0, e1, e2, e3, e4, e10, e11, e12, e13, e14, e16, e17, e18, e19, trivial⟩ ?_
      refine HA.three (k := 5) (k' := 12) (k'' := 13) ⟨⟨hp.is, ho.is, hl.is, hL_31.is, (hS.box 2 rfl)⟩, (at_now (hS.box 1 rfl) (at_now (hS.box 0 rfl) (Go.Wk.at_nil _ _)))⟩ (by kernel_rfl) ?_ ?_ ?_
      · refine HS.call rfl (want_none) rfl (ec en_9 rfl rfl) (law19_Few_walk (fr := (Ow.box b_99 24 #[.bool false, .slice none 0 0] :: Ow.box b_100 24 #[.bool false, .slice none 0 0] :: Ow.box b_1 29 (c_acequialaw19_One (.bool xp) vp (.bool xo) vo x_G x_A vl).toArray :: fr)) xo yo vo hS ho hM) ?_
        rintro _ h_287 ⟨F_112, r_0_46, r_1_46, vr_1_46, rfl, hk, hS, _, hL_93, hM⟩
        replace hK := hK.trans hk
        replace hp := hp.kp hk
        replace ho := ho.kp hk
        replace hl := hl.kp hk
        replace hL_31 := hL_31.kp hk
        exact Go.Wk.HA.via (N_7 (F_112, b_101, l_14, r_0_46, r_1_46, b_99, b_100, v_14, vr_1_46) _ _ ⟨rfl, rfl, rfl, rfl, rfl, rfl, rfl, rfl, rfl, rfl, rfl, rfl, rfl, rfl, rfl, hK, hS, hp, ho, hl, hL_31, hL_93, hM⟩) (fun L_ h_ hL_ ⟨hp, ho, hl, hL_31, hL_93, c201⟩ hs_ => ⟨⟨hp, ho, hl, hL_31, c201⟩, (at_keep 0 rfl hs_ (fun c266 => c266) (at_keep 1 rfl hs_ (fun c272 => c272) (Go.Wk.at_nil _ _)))⟩)
      · refine HS.eff rfl (want_none) rfl (st_alloc (c := (e_api_Addr (false, (default : Ba 16))).toArray) hS tz_27 rfl) ?_
        rintro _ h_288 ⟨b_306, rfl, hS, hk⟩
        replace hK := hK.trans hk
        replace hp := hp.kp hk
        replace ho := ho.kp hk
        replace hl := hl.kp hk
        replace hL_31 := hL_31.kp hk
        exact Go.Wk.HA.via (N_13 (F_111, b_101, l_14, b_306, b_99, b_100, v_14) _ _ ⟨rfl, rfl, rfl, rfl, rfl, rfl, rfl, rfl, rfl, rfl, rfl, rfl, rfl, rfl, rfl, hK, hS, hp, ho, hl, hL_31, hM⟩) (fun L_ h_ hL_ ⟨hp, ho, hl, hL_31, c201⟩ hs_ => ⟨⟨hp, ho, hl, hL_31, c201⟩, (at_keep 0 rfl hs_ (fun c266 => c266) (at_keep 1 rfl hs_ (fun c272 => c272) (Go.Wk.at_nil _ _)))⟩)
      · refine HS.eff rfl (want_none) rfl (st_alloc (c := (e_api_Addr (false, (default : Ba 16))).toArray) hS tz_27 rfl) ?_
        rintro _ h_289 ⟨b_307, rfl, hS, hk⟩
        replace hK := hK.trans hk
        replace hp := hp.kp hk
        replace ho := ho.kp hk
        replace hl := hl.kp hk
        replace hL_31 := hL_31.kp hk
        exact Go.Wk.HA.via (N_14 (F_111, b_101, l_14, b_307, b_99, b_100, v_14) _ _ ⟨rfl, rfl, rfl, rfl, rfl, rfl, rfl, rfl, rfl, rfl, rfl, rfl, rfl, rfl, rfl, hK, hS, hp, ho, hl, hL_31, hM⟩) (fun L_ h_ hL_ ⟨hp, ho, hl, hL_31, c201⟩ hs_ => ⟨⟨hp, ho, hl, hL_31, c201⟩, (at_keep 0 rfl hs_ (fun c266 => c266) (at_keep 1 rfl hs_ (fun c272 => c272) (Go.Wk.at_nil _ _)))⟩)
    refine HA.node (C1 := fun (i : Fz × Bool × (List T_api_Addr) × Nat × Nat × Value) => match i with | (F', b_106, l_15, b_104, b_105, v_15) => fun h => (SliceIs h 17 e_api_Addr vp yp) ∧ (SliceIs h 17 e_api_Addr vo yo) ∧ (SliceIs h 17 e_api_Addr vl x_L) ∧ (SliceIs h 17 e_api_Addr v_15 l_15) ∧ (Blk h b_1 (.cells (c_acequialaw19_One (.bool xp) vp (.bool xo) vo x_G x_A vl).toArray 29 (0, 0)))) (cs1 := fun (i : Fz × Bool × (List T_api_Addr) × Nat × Nat × Value) => match i with | (F', b_106, l_15, b_104, b_105, v_15) => [(14, fun h => (Blk h b_105 (.cells #[.bool false, .slice none 0 0] 24 (0, 0)))), (16, fun h => (Blk h b_104 (.cells (e_api_Addr (false, (default : Ba 16))).toArray 27 (0, 0))))]) (fuel1 := 7) (listed1 := #[true, true, true, true, true, false, true, true, true, true, true, false, true, false, false, false, false, false]) (fun (i : Fz × Bool × (List T_api_Addr) × Nat × Nat × Value) f h => match i with | (F', b_106, l_15, b_104, b_105, v_15) => f 0 = .agg (c_acequialaw19_One (.bool xp) vp (.bool xo) vo x_G x_A vl).toArray ∧ f 1 = .pointer (some ⟨b_1, 0, none⟩) ∧ f 2 = .bool false ∧ f 3 = .pointer (some ⟨b_105, 0, none⟩) ∧ f 5 = .pointer (some ⟨b_104, 0, none⟩) ∧ f 10 = .pointer (some ⟨b_1, 0, none⟩) ∧ f 11 = .agg #[.bool xp, vp] ∧ f 12 = .agg #[.bool b_106, v_15] ∧ f 13 = .pointer (some ⟨b_1, 2, none⟩) ∧ f 14 = .agg #[.bool xo, vo] ∧ f 16 = .pointer (some ⟨b_1, 4, none⟩) ∧ f 17 = .agg (e_api_Addr x_G).toArray ∧ f 18 = .pointer (some ⟨b_1, 21, none⟩) ∧ f 19 = .agg (e_api_Addr x_A).toArray ∧ Kp F h0 F' h ∧ St F' (Ow.box b_104 27 (e_api_Addr (false, (default : Ba 16))).toArray :: Ow.box b_105 24 #[.bool false, .slice none 0 0] :: Ow.box b_1 29 (c_acequialaw19_One (.bool xp) vp (.bool xo) vo x_G x_A vl).toArray :: fr) h ∧ (SliceF F' h 17 e_api_Addr vp yp) ∧ (SliceF F' h 17 e_api_Addr vo yo) ∧ (SliceF F' h 17 e_api_Addr vl x_L) ∧ (SliceF F' h 17 e_api_Addr v_15 l_15) ∧ law19_Few_W xo yo (fun r_0_47 r_1_47 => law19_MergeChanges_j1 x_G x_A Q b_106 l_15 r_0_47 r_1_47)) ?_ (fun N_23 => ?_)
    · rintro ⟨F_116, b_106, l_15, b_104, b_105, v_15⟩ f_69 h_295 ⟨e0, e1, e2, e3, e5, e10, e11, e12, e13, e14, e16, e17, e18, e19, hK, hS, hp, ho, hl, hL_33, hM⟩
      refine HA.fr [(0, .agg (c_acequialaw19_One (.bool xp) vp (.bool xo) vo x_G x_A vl).toArray), (1, .pointer (some ⟨b_1, 0, none⟩)), (2, .bool false), (3, .pointer (some ⟨b_105, 0, none⟩)), (5, .pointer (some ⟨b_104, 0, none⟩)), (10, .pointer (some ⟨b_1, 0, none⟩)), (11, .agg #[.bool xp, vp]), (12, .agg #[.bool b_106, v_15]), (13, .pointer (some ⟨b_1, 2, none⟩)), (14, .agg #[.bool xo, vo]), (16, .pointer (some ⟨b_1, 4, none⟩)), (17, .agg (e_api_Addr x_G).toArray), (18, .pointer (some ⟨b_1, 21, none⟩)), (19, .agg (e_api_Addr x_A).toArray)] ⟨e0, e1, e2, e3, e5, e10, e11, e12, e13, e14, e16, e17, e18, e19, trivial⟩ ?_
      refine HA.three (k := 5) (k' := 11) (k'' := 13) ⟨⟨hp.is, ho.is, hl.is, hL_33.is, (hS.box 2 rfl)⟩, (at_now (hS.box 1 rfl) (at_now (hS.box 0 rfl) (Go.Wk.at_nil _ _)))⟩ (by kernel_rfl) ?_ ?_ ?_
      · refine HS.call rfl (want_none) rfl (ec en_9 rfl rfl) (law19_Few_walk (fr := (Ow.box b_104 27 (e_api_Addr (false, (default : Ba 16))).toArray :: Ow.box b_105 24 #[.bool false, .slice none 0 0] :: Ow.box b_1 29 (c_acequialaw19_One (.bool xp) vp (.bool xo) vo x_G x_A vl).toArray :: fr)) xo yo vo hS ho hM) ?_
        rintro _ h_296 ⟨F_117, r_0_48, r_1_48, vr_1_48, rfl, hk, hS, _, hL_95, hM⟩
        replace hK := hK.trans hk
        replace hp := hp.kp hk
        replace ho := ho.kp hk
        replace hl := hl.kp hk
        replace hL_33 := hL_33.kp hk
        exact Go.Wk.HA.via (N_8 (F_117, b_106, l_15, r_0_48, r_1_48, b_104, b_105, v_15, vr_1_48) _ _ ⟨rfl, rfl, rfl, rfl, rfl, rfl, rfl, rfl, rfl, rfl, rfl, rfl, rfl, rfl, rfl, hK, hS, hp, ho, hl, hL_33, hL_95, hM⟩) (fun L_ h_ hL_ ⟨hp, ho, hl, hL_33, hL_95, c201⟩ hs_ => ⟨⟨hp, ho, hl, hL_33, c201⟩, (at_keep 0 rfl hs_ (fun c266 => c266) (at_keep 1 rfl hs_ (fun c278 => c278) (Go.Wk.at_nil _ _)))⟩)
      · refine HS.eff rfl (want_none) rfl (st_alloc (c := #[.bool false, .slice none 0 0]) hS tz_24 rfl) ?_
        rintro _ h_297 ⟨b_310, rfl, hS, hk⟩
        replace hK := hK.trans hk
        replace hp := hp.kp hk
        replace ho := ho.kp hk
        replace hl := hl.kp hk
        replace hL_33 := hL_33.kp hk
        replace hS : St F_116 (Ow.box b_104 27 (e_api_Addr (false, (default : Ba 16))).toArray :: Ow.box b_310 24 #[.bool false, .slice none 0 0] :: Ow.box b_105 24 #[.bool false, .slice none 0 0] :: Ow.box b_1 29 (c_acequialaw19_One (.bool xp) vp (.bool xo) vo x_G x_A vl).toArray :: fr) h_297 := hS.perm2 [1, 0, 2, 3] 4 rfl rfl
        exact Go.Wk.HA.via (N_13 (F_116, b_106, l_15, b_104, b_310, b_105, v_15) _ _ ⟨rfl, rfl, rfl, rfl, rfl, rfl, rfl, rfl, rfl, rfl, rfl, rfl, rfl, rfl, rfl, hK, hS, hp, ho, hl, hL_33, hM⟩) (fun L_ h_ hL_ ⟨hp, ho, hl, hL_33, c201⟩ hs_ => ⟨⟨hp, ho, hl, hL_33, c201⟩, (at_keep 0 rfl hs_ (fun c266 => c266) (at_keep 2 rfl hs_ (fun c278 => c278) (Go.Wk.at_nil _ _)))⟩)
      · refine HS.eff rfl (want_none) rfl (st_alloc (c := (e_api_Addr (false, (default : Ba 16))).toArray) hS tz_27 rfl) ?_
        rintro _ h_298 ⟨b_311, rfl, hS, hk⟩
        replace hK := hK.trans hk
        replace hp := hp.kp hk
        replace ho := ho.kp hk
        replace hl := hl.kp hk
        replace hL_33 := hL_33.kp hk
        exact Go.Wk.HA.via (N_15 (F_116, b_106, l_15, b_311, b_104, b_105, v_15) _ _ ⟨rfl, rfl, rfl, rfl, rfl, rfl, rfl, rfl, rfl, rfl, rfl, rfl, rfl, rfl, rfl, hK, hS, hp, ho, hl, hL_33, hM⟩) (fun L_ h_ hL_ ⟨hp, ho, hl, hL_33, c201⟩ hs_ => ⟨⟨hp, ho, hl, hL_33, c201⟩, (at_keep 0 rfl hs_ (fun c266 => c266) (at_keep 1 rfl hs_ (fun c278 => c278) (Go.Wk.at_nil _ _)))⟩)
    refine HA.node (C1 := fun (i : Fz × Bool × (List T_api_Addr) × Nat × Nat × Value) => match i with | (F', b_111, l_16, b_109, b_110, v_16) => fun h => (SliceIs h 17 e_api_Addr vp yp) ∧ (SliceIs h 17 e_api_Addr vo yo) ∧ (SliceIs h 17 e_api_Addr vl x_L) ∧ (SliceIs h 17 e_api_Addr v_16 l_16) ∧ (Blk h b_1 (.cells (c_acequialaw19_One (.bool xp) vp (.bool xo) vo x_G x_A vl).toArray 29 (0, 0)))) (cs1 := fun (i : Fz × Bool × (List T_api_Addr) × Nat × Nat × Value) => match i with | (F', b_111, l_16, b_109, b_110, v_16) => [(14, fun h => (Blk h b_110 (.cells #[.bool false, .slice none 0 0] 24 (0, 0)))), (17, fun h => (Blk h b_109 (.cells (e_api_Addr (false, (default : Ba 16))).toArray 27 (0, 0))))]) (fuel1 := 7) (listed1 := #[true, true, true, true, true, false, true, true, true, true, true, false, false, true, false, false, false, false]) (fun (i : Fz × Bool × (List T_api_Addr) × Nat × Nat × Value) f h => match i with | (F', b_111, l_16, b_109, b_110, v_16) => f 0 = .agg (c_acequialaw19_One (.bool xp) vp (.bool xo) vo x_G x_A vl).toArray ∧ f 1 = .pointer (some ⟨b_1, 0, none⟩) ∧ f 2 = .bool false ∧ f 3 = .pointer (some ⟨b_110, 0, none⟩) ∧ f 6 = .pointer (some ⟨b_109, 0, none⟩) ∧ f 10 = .pointer (some ⟨b_1, 0, none⟩) ∧ f 11 = .agg #[.bool xp, vp] ∧ f 12 = .agg #[.bool b_111, v_16] ∧ f 13 = .pointer (some ⟨b_1, 2, none⟩) ∧ f 14 = .agg #[.bool xo, vo] ∧ f 16 = .pointer (some ⟨b_1, 4, none⟩) ∧ f 17 = .agg (e_api_Addr x_G).toArray ∧ f 18 = .pointer (some ⟨b_1, 21, none⟩) ∧ f 19 = .agg (e_api_Addr x_A).toArray ∧ Kp F h0 F' h ∧ St F' (Ow.box b_109 27 (e_api_Addr (false, (default : Ba 16))).toArray :: Ow.box b_110 24 #[.bool false, .slice none 0 0] :: Ow.box b_1 29 (c_acequialaw19_One (.bool xp) vp (.bool xo) vo x_G x_A vl).toArray :: fr) h ∧ (SliceF F' h 17 e_api_Addr vp yp) ∧ (SliceF F' h 17 e_api_Addr vo yo) ∧ (SliceF F' h 17 e_api_Addr vl x_L) ∧ (SliceF F' h 17 e_api_Addr v_16 l_16) ∧ law19_Few_W xo yo (fun r_0_49 r_1_49 => law19_MergeChanges_j1 x_G x_A Q b_111 l_16 r_0_49 r_1_49)) ?_ (fun N_24 => ?_)
    · rintro ⟨F_121, b_111, l_16, b_109, b_110, v_16⟩ f_72 h_304 ⟨e0, e1, e2, e3, e6, e10, e11, e12, e13, e14, e16, e17, e18, e19, hK, hS, hp, ho, hl, hL_35, hM⟩
      refine HA.fr [(0, .agg (c_acequialaw19_One (.bool xp) vp (.bool xo) vo x_G x_A vl).toArray), (1, .pointer (some ⟨b_1, 0, none⟩)), (2, .bool false), (3, .pointer (some ⟨b_110, 0, none⟩)), (6, .pointer (some ⟨b_109, 0, none⟩)), (10, .pointer (some ⟨b_1, 0, none⟩)), (11, .agg #[.bool xp, vp]), (12, .agg #[.bool b_111, v_16]), (13, .pointer (some ⟨b_1, 2, none⟩)), (14, .agg #[.bool xo, vo]), (16, .pointer (some ⟨b_1, 4, none⟩)), (17, .agg (e_api_Addr x_G).toArray), (18, .pointer (some ⟨b_1, 21, none⟩)), (19, .agg (e_api_Addr x_A).toArray)] ⟨e0, e1, e2, e3, e6, e10, e11, e12, e13, e14, e16, e17, e18, e19, trivial⟩ ?_
      refine HA.three (k := 5) (k' := 11) (k'' := 12) ⟨⟨hp.is, ho.is, hl.is, hL_35.is, (hS.box 2 rfl)⟩, (at_now (hS.box 1 rfl) (at_now (hS.box 0 rfl) (Go.Wk.at_nil _ _)))⟩ (by kernel_rfl) ?_ ?_ ?_
      · refine HS.call rfl (want_none) rfl (ec en_9 rfl rfl) (law19_Few_walk (fr := (Ow.box b_109 27 (e_api_Addr (false, (default : Ba 16))).toArray :: Ow.box b_110 24 #[.bool false, .slice none 0 0] :: Ow.box b_1 29 (c_acequialaw19_One (.bool xp) vp (.bool xo) vo x_G x_A vl).toArray :: fr)) xo yo vo hS ho hM) ?_
        rintro _ h_305 ⟨F_122, r_0_50, r_1_50, vr_1_50, rfl, hk, hS, _, hL_97, hM⟩
        replace hK := hK.trans hk
        replace hp := hp.kp hk
        replace ho := ho.kp hk
        replace hl := hl.kp hk
        replace hL_35 := hL_35.kp hk
        exact Go.Wk.HA.via (N_9 (F_122, b_111, l_16, r_0_50, r_1_50, b_109, b_110, v_16, vr_1_50) _ _ ⟨rfl, rfl, rfl, rfl, rfl, rfl, rfl, rfl, rfl, rfl, rfl, rfl, rfl, rfl, rfl, hK, hS, hp, ho, hl, hL_35, hL_97, hM⟩) (fun L_ h_ hL_ ⟨hp, ho, hl, hL_35, hL_97, c201⟩ hs_ => ⟨⟨hp, ho, hl, hL_35, c201⟩, (at_keep 0 rfl hs_ (fun c266 => c266) (at_keep 1 rfl hs_ (fun c284 => c284) (Go.Wk.at_nil _ _)))⟩)
      · refine HS.eff rfl (want_none) rfl (st_alloc (c := #[.bool false, .slice none 0 0]) hS tz_24 rfl) ?_
        rintro _ h_306 ⟨b_314, rfl, hS, hk⟩
        replace hK := hK.trans hk
        replace hp := hp.kp hk
        replace ho := ho.kp hk
        replace hl := hl.kp hk
        replace hL_35 := hL_35.kp hk
        replace hS : St F_121 (Ow.box b_109 27 (e_api_Addr (false, (default : Ba 16))).toArray :: Ow.box b_314 24 #[.bool false, .slice none 0 0] :: Ow.box b_110 24 #[.bool false, .slice none 0 0] :: Ow.box b_1 29 (c_acequialaw19_One (.bool xp) vp (.bool xo) vo x_G x_A vl).toArray :: fr) h_306 := hS.perm2 [1, 0, 2, 3] 4 rfl rfl
        exact Go.Wk.HA.via (N_14 (F_121, b_111, l_16, b_109, b_314, b_110, v_16) _ _ ⟨rfl, rfl, rfl, rfl, rfl, rfl, rfl, rfl, rfl, rfl, rfl, rfl, rfl, rfl, rfl, hK, hS, hp, ho, hl, hL_35, hM⟩) (fun L_ h_ hL_ ⟨hp, ho, hl, hL_35, c201⟩ hs_ => ⟨⟨hp, ho, hl, hL_35, c201⟩, (at_keep 0 rfl hs_ (fun c266 => c266) (at_keep 2 rfl hs_ (fun c284 => c284) (Go.Wk.at_nil _ _)))⟩)
      · refine HS.eff rfl (want_none) rfl (st_alloc (c := (e_api_Addr (false, (default : Ba 16))).toArray) hS tz_27 rfl) ?_
        rintro _ h_307 ⟨b_315, rfl, hS, hk⟩
        replace hK := hK.trans hk
        replace hp := hp.kp hk
        replace ho := ho.kp hk
        replace hl := hl.kp hk
        replace hL_35 := hL_35.kp hk
        replace hS : St F_121 (Ow.box b_109 27 (e_api_Addr (false, (default : Ba 16))).toArray :: Ow.box b_315 27 (e_api_Addr (false, (default : Ba 16))).toArray :: Ow.box b_110 24 #[.bool false, .slice none 0 0] :: Ow.box b_1 29 (c_acequialaw19_One (.bool xp) vp (.bool xo) vo x_G x_A vl).toArray :: fr) h_307 := hS.perm2 [1, 0, 2, 3] 4 rfl rfl
        exact Go.Wk.HA.via (N_15 (F_121, b_111, l_16, b_109, b_315, b_110, v_16) _ _ ⟨rfl, rfl, rfl, rfl, rfl, rfl, rfl, rfl, rfl, rfl, rfl, rfl, rfl, rfl, rfl, hK, hS, hp, ho, hl, hL_35, hM⟩) (fun L_ h_ hL_ ⟨hp, ho, hl, hL_35, c201⟩ hs_ => ⟨⟨hp, ho, hl, hL_35, c201⟩, (at_keep 0 rfl hs_ (fun c266 => c266) (at_keep 2 rfl hs_ (fun c284 => c284) (Go.Wk.at_nil _ _)))⟩)
    refine HA.node (C1 := fun (i : Fz × Bool × (List T_api_Addr) × Nat × Nat × Value) => match i with | (F', b_116, l_17, b_114, b_115, v_17) => fun h => (SliceIs h 17 e_api_Addr vp yp) ∧ (SliceIs h 17 e_api_Addr vo yo) ∧ (SliceIs h 17 e_api_Addr vl x_L) ∧ (SliceIs h 17 e_api_Addr v_17 l_17) ∧ (Blk h b_1 (.cells (c_acequialaw19_One (.bool xp) vp (.bool xo) vo x_G x_A vl).toArray 29 (0, 0)))) (cs1 := fun (i : Fz × Bool × (List T_api_Addr) × Nat × Nat × Value) => match i with | (F', b_116, l_17, b_114, b_115, v_17) => [(15, fun h => (Blk h b_115 (.cells #[.bool false, .slice none 0 0] 24 (0, 0)))), (16, fun h => (Blk h b_114 (.cells (e_api_Addr (false, (default : Ba 16))).toArray 27 (0, 0))))]) (fuel1 := 7) (listed1 := #[true, true, true, true, true, false, true, true, true, true, false, true, true, false, false, false, false, false]) (fun (i : Fz × Bool × (List T_api_Addr) × Nat × Nat × Value) f h => match i with | (F', b_116, l_17, b_114, b_115, v_17) => f 0 = .agg (c_acequialaw19_One (.bool xp) vp (.bool xo) vo x_G x_A vl).toArray ∧ f 1 = .pointer (some ⟨b_1, 0, none⟩) ∧ f 2 = .bool false ∧ f 4 = .pointer (some ⟨b_115, 0, none⟩) ∧ f 5 = .pointer (some ⟨b_114, 0, none⟩) ∧ f 10 = .pointer (some ⟨b_1, 0, none⟩) ∧ f 11 = .agg #[.bool xp, vp] ∧ f 12 = .agg #[.bool b_116, v_17] ∧ f 13 = .pointer (some ⟨b_1, 2, none⟩) ∧ f 14 = .agg #[.bool xo, vo] ∧ f 16 = .pointer (some ⟨b_1, 4, none⟩) ∧ f 17 = .agg (e_api_Addr x_G).toArray ∧ f 18 = .pointer (some ⟨b_1, 21, none⟩) ∧ f 19 = .agg (e_api_Addr x_A).toArray ∧ Kp F h0 F' h ∧ St F' (Ow.box b_114 27 (e_api_Addr (false, (default : Ba 16))).toArray :: Ow.box b_115 24 #[.bool false, .slice none 0 0] :: Ow.box b_1 29 (c_acequialaw19_One (.bool xp) vp (.bool xo) vo x_G x_A vl).toArray :: fr) h ∧ (SliceF F' h 17 e_api_Addr vp yp) ∧ (SliceF F' h 17 e_api_Addr vo yo) ∧ (SliceF F' h 17 e_api_Addr vl x_L) ∧ (SliceF F' h 17 e_api_Addr v_17 l_17) ∧ law19_Few_W xo yo (fun r_0_51 r_1_51 => law19_MergeChanges_j1 x_G x_A Q b_116 l_17 r_0_51 r_1_51)) ?_ (fun N_25 => ?_)
    · rintro ⟨F_126, b_116, l_17, b_114, b_115, v_17⟩ f_75 h_313 ⟨e0, e1, e2, e4, e5, e10, e11, e12, e13, e14, e16, e17, e18, e19, hK, hS, hp, ho, hl, hL_37, hM⟩
      refine HA.fr [(0, .agg (c_acequialaw19_One (.bool xp) vp (.bool xo) vo x_G x_A vl).toArray), (1, .pointer (some ⟨b_1, 0, none⟩)), (2, .bool false), (4, .pointer (some ⟨b_115, 0, none⟩)), (5, .pointer (some ⟨b_114, 0, none⟩)), (10, .pointer (some ⟨b_1, 0, none⟩)), (11, .agg #[.bool xp, vp]), (12, .agg #[.bool b_116, v_17]), (13, .pointer (some ⟨b_1, 2, none⟩)), (14, .agg #[.bool xo, vo]), (16, .pointer (some ⟨b_1, 4, none⟩)), (17, .agg (e_api_Addr x_G).toArray), (18, .pointer (some ⟨b_1, 21, none⟩)), (19, .agg (e_api_Addr x_A).toArray)] ⟨e0, e1, e2, e4, e5, e10, e11, e12, e13, e14, e16, e17, e18, e19, trivial⟩ ?_
      refine HA.three (k := 5) (k' := 10) (k'' := 13) ⟨⟨hp.is, ho.is, hl.is, hL_37.is, (hS.box 2 rfl)⟩, (at_now (hS.box 1 rfl) (at_now (hS.box 0 rfl) (Go.Wk.at_nil _ _)))⟩ (by kernel_rfl) ?_ ?_ ?_
      · refine HS.call rfl (want_none) rfl (ec en_9 rfl rfl) (law19_Few_walk (fr := (Ow.box b_114 27 (e_api_Addr (false, (default : Ba 16))).toArray :: Ow.box b_115 24 #[.bool false, .slice none 0 0] :: Ow.box b_1 29 (c_acequialaw19_One (.bool xp) vp (.bool xo) vo x_G x_A vl).toArray :: fr)) xo yo vo hS ho hM) ?_
        rintro _ h_314 ⟨F_127, r_0_52, r_1_52, vr_1_52, rfl, hk, hS, _, hL_99, hM⟩
        replace hK := hK.trans hk
        replace hp := hp.kp hk
        replace ho := ho.kp hk
        replace hl := hl.kp hk
        replace hL_37 := hL_37.kp hk
        exact Go.Wk.HA.via (N_10 (F_127, b_116, l_17, r_0_52, r_1_52, b_114, b_115, v_17, vr_1_52) _ _ ⟨rfl, rfl, rfl, rfl, rfl, rfl, rfl, rfl, rfl, rfl, rfl, rfl, rfl, rfl, rfl, hK, hS, hp, ho, hl, hL_37, hL_99, hM⟩) (fun L_ h_ hL_ ⟨hp, ho, hl, hL_37, hL_99, c201⟩ hs_ => ⟨⟨hp, ho, hl, hL_37, c201⟩, (at_keep 0 rfl hs_ (fun c272 => c272) (at_keep 1 rfl hs_ (fun c278 => c278) (Go.Wk.at_nil _ _)))⟩)
      · refine HS.eff rfl (want_none) rfl (st_alloc (c := #[.bool false, .slice none 0 0]) hS tz_24 rfl) ?_
        rintro _ h_315 ⟨b_318, rfl, hS, hk⟩
        replace hK := hK.trans hk
        replace hp := hp.kp hk
        replace ho := ho.kp hk
        replace hl := hl.kp hk
        replace hL_37 := hL_37.kp hk
        replace hS : St F_126 (Ow.box b_114 27 (e_api_Addr (false, (default : Ba 16))).toArray :: Ow.box b_115 24 #[.bool false, .slice none 0 0] :: Ow.box b_318 24 #[.bool false, .slice none 0 0] :: Ow.box b_1 29 (c_acequialaw19_One (.bool xp) vp (.bool xo) vo x_G x_A vl).toArray :: fr) h_315 := hS.perm2 [1, 2, 0, 3] 4 rfl rfl
        exact Go.Wk.HA.via (N_13 (F_126, b_116, l_17, b_114, b_115, b_318, v_17) _ _ ⟨rfl, rfl, rfl, rfl, rfl, rfl, rfl, rfl, rfl, rfl, rfl, rfl, rfl, rfl, rfl, hK, hS, hp, ho, hl, hL_37, hM⟩) (fun L_ h_ hL_ ⟨hp, ho, hl, hL_37, c201⟩ hs_ => ⟨⟨hp, ho, hl, hL_37, c201⟩, (at_keep 1 rfl hs_ (fun c272 => c272) (at_keep 2 rfl hs_ (fun c278 => c278) (Go.Wk.at_nil _ _)))⟩)
      · refine HS.eff rfl (want_none) rfl (st_alloc (c := (e_api_Addr (false, (default : Ba 16))).toArray) hS tz_27 rfl) ?_
        rintro _ h_316 ⟨b_319, rfl, hS, hk⟩
        replace hK := hK.trans hk
        replace hp := hp.kp hk
        replace ho := ho.kp hk
        replace hl := hl.kp hk
        replace hL_37 := hL_37.kp hk
        exact Go.Wk.HA.via (N_16 (F_126, b_116, l_17, b_319, b_114, b_115, v_17) _ _ ⟨rfl, rfl, rfl, rfl, rfl, rfl, rfl, rfl, rfl, rfl, rfl, rfl, rfl, rfl, rfl, hK, hS, hp, ho, hl, hL_37, hM⟩) (fun L_ h_ hL_ ⟨hp, ho, hl, hL_37, c201⟩ hs_ => ⟨⟨hp, ho, hl, hL_37, c201⟩, (at_keep 0 rfl hs_ (fun c272 => c272) (at_keep 1 rfl hs_ (fun c278 => c278) (Go.Wk.at_nil _ _)))⟩)
    refine HA.node (C1 := fun (i : Fz × Bool × (List T_api_Addr) × Nat × Nat × Value) => match i with | (F', b_121, l_18, b_119, b_120, v_18) => fun h => (SliceIs h 17 e_api_Addr vp yp) ∧ (SliceIs h 17 e_api_Addr vo yo) ∧ (SliceIs h 17 e_api_Addr vl x_L) ∧ (SliceIs h 17 e_api_Addr v_18 l_18) ∧ (Blk h b_1 (.cells (c_acequialaw19_One (.bool xp) vp (.bool xo) vo x_G x_A vl).toArray 29 (0, 0)))) (cs1 := fun (i : Fz × Bool × (List T_api_Addr) × Nat × Nat × Value) => match i with | (F', b_121, l_18, b_119, b_120, v_18) => [(15, fun h => (Blk h b_120 (.cells #[.bool false, .slice none 0 0] 24 (0, 0)))), (17, fun h => (Blk h b_119 (.cells (e_api_Addr (false, (default : Ba 16))).toArray 27 (0, 0))))]) (fuel1 := 7) (listed1 := #[true, true, true, true, true, false, true, true, true, true, false, true, false, true, false, false, false, false]) (fun (i : Fz × Bool × (List T_api_Addr) × Nat × Nat × Value) f h => match i with | (F', b_121, l_18, b_119, b_120, v_18) => f 0 = .agg (c_acequialaw19_One (.bool xp) vp (.bool xo) vo x_G x_A vl).toArray ∧ f 1 = .pointer (some ⟨b_1, 0, none⟩) ∧ f 2 = .bool false ∧ f 4 = .pointer (some ⟨b_120, 0, none⟩) ∧ f 6 = .pointer (some ⟨b_119, 0, none⟩) ∧ f 10 = .pointer (some ⟨b_1, 0, none⟩) ∧ f 11 = .agg #[.bool xp, vp] ∧ f 12 = .agg #[.bool b_121, v_18] ∧ f 13 = .pointer (some ⟨b_1, 2, none⟩) ∧ f 14 = .agg #[.bool xo, vo] ∧ f 16 = .pointer (some ⟨b_1, 4, none⟩) ∧ f 17 = .agg (e_api_Addr x_G).toArray ∧ f 18 = .pointer (some ⟨b_1, 21, none⟩) ∧ f 19 = .agg (e_api_Addr x_A).toArray ∧ Kp F h0 F' h ∧ St F' (Ow.box b_119 27 (e_api_Addr (false, (default : Ba 16))).toArray :: Ow.box b_120 24 #[.bool false, .slice none 0 0] :: Ow.box b_1 29 (c_acequialaw19_One (.bool xp) vp (.bool xo) vo x_G x_A vl).toArray :: fr) h ∧ (SliceF F' h 17 e_api_Addr vp yp) ∧ (SliceF F' h 17 e_api_Addr vo yo) ∧ (SliceF F' h 17 e_api_Addr vl x_L) ∧ (SliceF F' h 17 e_api_Addr v_18 l_18) ∧ law19_Few_W xo yo (fun r_0_53 r_1_53 => law19_MergeChanges_j1 x_G x_A Q b_121 l_18 r_0_53 r_1_53)) ?_ (fun N_26 => ?_)
    · rintro ⟨F_131, b_121, l_18, b_119, b_120, v_18⟩ f_78 h_322 ⟨e0, e1, e2, e4, e6, e10, e11, e12, e13, e14, e16, e17, e18, e19, hK, hS, hp, ho, hl, hL_39, hM⟩
      refine HA.fr [(0, .agg (c_acequialaw19_One (.bool xp) vp (.bool xo) vo x_G x_A vl).toArray), (1, .pointer (some ⟨b_1, 0, none⟩)), (2, .bool false), (4, .pointer (some ⟨b_120, 0, none⟩)), (6, .pointer (some ⟨b_119, 0, none⟩)), (10, .pointer (some ⟨b_1, 0, none⟩)), (11, .agg #[.bool xp, vp]), (12, .agg #[.bool b_121, v_18]), (13, .pointer (some ⟨b_1, 2, none⟩)), (14, .agg #[.bool xo, vo]), (16, .pointer (some ⟨b_1, 4, none⟩)), (17, .agg (e_api_Addr x_G).toArray), (18, .pointer (some ⟨b_1, 21, none⟩)), (19, .agg (e_api_Addr x_A).toArray)] ⟨e0, e1, e2, e4, e6, e10, e11, e12, e13, e14, e16, e17, e18, e19, trivial⟩ ?_
      refine HA.three (k := 5) (k' := 10) (k'' := 12) ⟨⟨hp.is, ho.is, hl.is, hL_39.is, (hS.box 2 rfl)⟩, (at_now (hS.box 1 rfl) (at_now (hS.box 0 rfl) (Go.Wk.at_nil _ _)))⟩ (by kernel_rfl) ?_ ?_ ?_
      · refine HS.call rfl (want_none) rfl (ec en_9 rfl rfl) (law19_Few_walk (fr := (Ow.box b_119 27 (e_api_Addr (false, (default : Ba 16))).toArray :: Ow.box b_120 24 #[.bool false, .slice none 0 0] :: Ow.box b_1 29 (c_acequialaw19_One (.bool xp) vp (.bool xo) vo x_G x_A vl).toArray :: fr)) xo yo vo hS ho hM) ?_
        rintro _ h_323 ⟨F_132, r_0_54, r_1_54, vr_1_54, rfl, hk, hS, _, hL_101, hM⟩
        replace hK := hK.trans hk
        replace hp := hp.kp hk
        replace ho := ho.kp hk
        replace hl := hl.kp hk
        replace hL_39 := hL_39.kp hk
        exact Go.Wk.HA.via (N_11 (F_132, b_121, l_18, r_0_54, r_1_54, b_119, b_120, v_18, vr_1_54) _ _ ⟨rfl, rfl, rfl, rfl, rfl, rfl, rfl, rfl, rfl, rfl, rfl, rfl, rfl, rfl, rfl, hK, hS, hp, ho, hl, hL_39, hL_101, hM⟩) (fun L_ h_ hL_ ⟨hp, ho, hl, hL_39, hL_101, c201⟩ hs_ => ⟨⟨hp, ho, hl, hL_39, c201⟩, (at_keep 0 rfl hs_ (fun c272 => c272) (at_keep 1 rfl hs_ (fun c284 => c284) (Go.Wk.at_nil _ _)))⟩)
      · refine HS.eff rfl (want_none) rfl (st_alloc (c := #[.bool false, .slice none 0 0]) hS tz_24 rfl) ?_
        rintro _ h_324 ⟨b_322, rfl, hS, hk⟩
        replace hK := hK.trans hk
        replace hp := hp.kp hk
        replace ho := ho.kp hk
        replace hl := hl.kp hk
        replace hL_39 := hL_39.kp hk
        replace hS : St F_131 (Ow.box b_119 27 (e_api_Addr (false, (default : Ba 16))).toArray :: Ow.box b_120 24 #[.bool false, .slice none 0 0] :: Ow.box b_322 24 #[.bool false, .slice none 0 0] :: Ow.box b_1 29 (c_acequialaw19_One (.bool xp) vp (.bool xo) vo x_G x_A vl).toArray :: fr) h_324 := hS.perm2 [1, 2, 0, 3] 4 rfl rfl
        exact Go.Wk.HA.via (N_14 (F_131, b_121, l_18, b_119, b_120, b_322, v_18) _ _ ⟨rfl, rfl, rfl, rfl, rfl, rfl, rfl, rfl, rfl, rfl, rfl, rfl, rfl, rfl, rfl, hK, hS, hp, ho, hl, hL_39, hM⟩) (fun L_ h_ hL_ ⟨hp, ho, hl, hL_39, c201⟩ hs_ => ⟨⟨hp, ho, hl, hL_39, c201⟩, (at_keep 1 rfl hs_ (fun c272 => c272) (at_keep 2 rfl hs_ (fun c284 => c284) (Go.Wk.at_nil _ _)))⟩)
      · refine HS.eff rfl (want_none) rfl (st_alloc (c := (e_api_Addr (false, (default : Ba 16))).toArray) hS tz_27 rfl) ?_
        rintro _ h_325 ⟨b_323, rfl, hS, hk⟩
        replace hK := hK.trans hk
        replace hp := hp.kp hk
        replace ho := ho.kp hk
        replace hl := hl.kp hk
        replace hL_39 := hL_39.kp hk
        replace hS : St F_131 (Ow.box b_119 27 (e_api_Addr (false, (default : Ba 16))).toArray :: Ow.box b_323 27 (e_api_Addr (false, (default : Ba 16))).toArray :: Ow.box b_120 24 #[.bool false, .slice none 0 0] :: Ow.box b_1 29 (c_acequialaw19_One (.bool xp) vp (.bool xo) vo x_G x_A vl).toArray :: fr) h_325 := hS.perm2 [1, 0, 2, 3] 4 rfl rfl
        exact Go.Wk.HA.via (N_16 (F_131, b_121, l_18, b_119, b_323, b_120, v_18) _ _ ⟨rfl, rfl, rfl, rfl, rfl, rfl, rfl, rfl, rfl, rfl, rfl, rfl, rfl, rfl, rfl, hK, hS, hp, ho, hl, hL_39, hM⟩) (fun L_ h_ hL_ ⟨hp, ho, hl, hL_39, c201⟩ hs_ => ⟨⟨hp, ho, hl, hL_39, c201⟩, (at_keep 0 rfl hs_ (fun c272 => c272) (at_keep 2 rfl hs_ (fun c284 => c284) (Go.Wk.at_nil _ _)))⟩)
    refine HA.node (C1 := fun (i : Fz × Bool × (List T_api_Addr) × Nat × Nat × Value) => match i with | (F', b_126, l_19, b_124, b_125, v_19) => fun h => (SliceIs h 17 e_api_Addr vp yp) ∧ (SliceIs h 17 e_api_Addr vo yo) ∧ (SliceIs h 17 e_api_Addr vl x_L) ∧ (SliceIs h 17 e_api_Addr v_19 l_19) ∧ (Blk h b_1 (.cells (c_acequialaw19_One (.bool xp) vp (.bool xo) vo x_G x_A vl).toArray 29 (0, 0)))) (cs1 := fun (i : Fz × Bool × (List T_api_Addr) × Nat × Nat × Value) => match i with | (F', b_126, l_19, b_124, b_125, v_19) => [(16, fun h => (Blk h b_125 (.cells (e_api_Addr (false, (default : Ba 16))).toArray 27 (0, 0)))), (17, fun h => (Blk h b_124 (.cells (e_api_Addr (false, (default : Ba 16))).toArray 27 (0, 0))))]) (fuel1 := 7) (listed1 := #[true, true, true, true, true, false, true, true, true, true, false, false, true, true, false, false, false, false]) (fun (i : Fz × Bool × (List T_api_Addr) × Nat × Nat × Value) f h => match i with | (F', b_126, l_19, b_124, b_125, v_19) => f 0 = .agg (c_acequialaw19_One (.bool xp) vp (.bool xo) vo x_G x_A vl).toArray ∧ f 1 = .pointer (some ⟨b_1, 0, none⟩) ∧ f 2 = .bool false ∧ f 5 = .pointer (some ⟨b_125, 0, none⟩) ∧ f 6 = .pointer (some ⟨b_124, 0, none⟩) ∧ f 10 = .pointer (some ⟨b_1, 0, none⟩) ∧ f 11 = .agg #[.bool xp, vp] ∧ f 12 = .agg #[.bool b_126, v_19] ∧ f 13 = .pointer (some ⟨b_1, 2, none⟩) ∧ f 14 = .agg #[.bool xo, vo] ∧ f 16 = .pointer (some ⟨b_1, 4, none⟩) ∧ f 17 = .agg (e_api_Addr x_G).toArray ∧ f 18 = .pointer (some ⟨b_1, 21, none⟩) ∧ f 19 = .agg (e_api_Addr x_A).toArray ∧ Kp F h0 F' h ∧ St F' (Ow.box b_124 27 (e_api_Addr (false, (default : Ba 16))).toArray :: Ow.box b_125 27 (e_api_Addr (false, (default : Ba 16))).toArray :: Ow.box b_1 29 (c_acequialaw19_One (.bool xp) vp (.bool xo) vo x_G x_A vl).toArray :: fr) h ∧ (SliceF F' h 17 e_api_Addr vp yp) ∧ (SliceF F' h 17 e_api_Addr vo yo) ∧ (SliceF F' h 17 e_api_Addr vl x_L) ∧ (SliceF F' h 17 e_api_Addr v_19 l_19) ∧ law19_Few_W xo yo (fun r_0_55 r_1_55 => law19_MergeChanges_j1 x_G x_A Q b_126 l_19 r_0_55 r_1_55)) ?_ (fun N_27 => ?_)
    · rintro ⟨F_136, b_126, l_19, b_124, b_125, v_19⟩ f_81 h_331 ⟨e0, e1, e2, e5, e6, e10, e11, e12, e13, e14, e16, e17, e18, e19, hK, hS, hp, ho, hl, hL_41, hM⟩
      refine HA.fr [(0, .agg (c_acequialaw19_One (.bool xp) vp (.bool xo) vo x_G x_A vl).toArray), (1, .pointer (some ⟨b_1, 0, none⟩)), (2, .bool false), (5, .pointer (some ⟨b_125, 0, none⟩)), (6, .pointer (some ⟨b_124, 0, none⟩)), (10, .pointer (some ⟨b_1, 0, none⟩)), (11, .agg #[.bool xp, vp]), (12, .agg #[.bool b_126, v_19]), (13, .pointer (some ⟨b_1, 2, none⟩)), (14, .agg #[.bool xo, vo]), (16, .pointer (some ⟨b_1, 4, none⟩)), (17, .agg (e_api_Addr x_G).toArray), (18, .pointer (some ⟨b_1, 21, none⟩)), (19, .agg (e_api_Addr x_A).toArray)] ⟨e0, e1, e2, e5, e6, e10, e11, e12, e13, e14, e16, e17, e18, e19, trivial⟩ ?_
      refine HA.three (k := 5) (k' := 10) (k'' := 11) ⟨⟨hp.is, ho.is, hl.is, hL_41.is, (hS.box 2 rfl)⟩, (at_now (hS.box 1 rfl) (at_now (hS.box 0 rfl) (Go.Wk.at_nil _ _)))⟩ (by kernel_rfl) ?_ ?_ ?_
      · refine HS.call rfl (want_none) rfl (ec en_9 rfl rfl) (law19_Few_walk (fr := (Ow.box b_124 27 (e_api_Addr (false, (default : Ba 16))).toArray :: Ow.box b_125 27 (e_api_Addr (false, (default : Ba 16))).toArray :: Ow.box b_1 29 (c_acequialaw19_One (.bool xp) vp (.bool xo) vo x_G x_A vl).toArray :: fr)) xo yo vo hS ho hM) ?_
        rintro _ h_332 ⟨F_137, r_0_56, r_1_56, vr_1_56, rfl, hk, hS, _, hL_103, hM⟩
        replace hK := hK.trans hk
        replace hp := hp.kp hk
        replace ho := ho.kp hk
        replace hl := hl.kp hk
        replace hL_41 := hL_41.kp hk
        exact Go.Wk.HA.via (N_12 (F_137, b_126, l_19, r_0_56, r_1_56, b_124, b_125, v_19, vr_1_56) _ _ ⟨rfl, rfl, rfl, rfl, rfl, rfl, rfl, rfl, rfl, rfl, rfl, rfl, rfl, rfl, rfl, hK, hS, hp, ho, hl, hL_41, hL_103, hM⟩) (fun L_ h_ hL_ ⟨hp, ho, hl, hL_41, hL_103, c201⟩ hs_ => ⟨⟨hp, ho, hl, hL_41, c201⟩, (at_keep 0 rfl hs_ (fun c278 => c278) (at_keep 1 rfl hs_ (fun c284 => c284) (Go.Wk.at_nil _ _)))⟩)
      · refine HS.eff rfl (want_none) rfl (st_alloc (c := #[.bool false, .slice none 0 0]) hS tz_24 rfl) ?_
        rintro _ h_333 ⟨b_326, rfl, hS, hk⟩
        replace hK := hK.trans hk
        replace hp := hp.kp hk
        replace ho := ho.kp hk
        replace hl := hl.kp hk
        replace hL_41 := hL_41.kp hk
        replace hS : St F_136 (Ow.box b_124 27 (e_api_Addr (false, (default : Ba 16))).toArray :: Ow.box b_125 27 (e_api_Addr (false, (default : Ba 16))).toArray :: Ow.box b_326 24 #[.bool false, .slice none 0 0] :: Ow.box b_1 29 (c_acequialaw19_One (.bool xp) vp (.bool xo) vo x_G x_A vl).toArray :: fr) h_333 := hS.perm2 [1, 2, 0, 3] 4 rfl rfl
        exact Go.Wk.HA.via (N_15 (F_136, b_126, l_19, b_124, b_125, b_326, v_19) _ _ ⟨rfl, rfl, rfl, rfl, rfl, rfl, rfl, rfl, rfl, rfl, rfl, rfl, rfl, rfl, rfl, hK, hS, hp, ho, hl, hL_41, hM⟩) (fun L_ h_ hL_ ⟨hp, ho, hl, hL_41, c201⟩ hs_ => ⟨⟨hp, ho, hl, hL_41, c201⟩, (at_keep 1 rfl hs_ (fun c278 => c278) (at_keep 2 rfl hs_ (fun c284 => c284) (Go.Wk.at_nil _ _)))⟩)
      · refine HS.eff rfl (want_none) rfl (st_alloc (c := #[.bool false, .slice none 0 0]) hS tz_24 rfl) ?_
        rintro _ h_334 ⟨b_327, rfl, hS, hk⟩
        replace hK := hK.trans hk
        replace hp := hp.kp hk
        replace ho := ho.kp hk
        replace hl := hl.kp hk
        replace hL_41 := hL_41.kp hk
        replace hS : St F_136 (Ow.box b_124 27 (e_api_Addr (false, (default : Ba 16))).toArray :: Ow.box b_125 27 (e_api_Addr (false, (default : Ba 16))).toArray :: Ow.box b_327 24 #[.bool false, .slice none 0 0] :: Ow.box b_1 29 (c_acequialaw19_One (.bool xp) vp (.bool xo) vo x_G x_A vl).toArray :: fr) h_334 := hS.perm2 [1, 2, 0, 3] 4 rfl rfl
        exact Go.Wk.HA.via (N_16 (F_136, b_126, l_19, b_124, b_125, b_327, v_19) _ _ ⟨rfl, rfl, rfl, rfl, rfl, rfl, rfl, rfl, rfl, rfl, rfl, rfl, rfl, rfl, rfl, hK, hS, hp, ho, hl, hL_41, hM⟩) (fun L_ h_ hL_ ⟨hp, ho, hl, hL_41, c201⟩ hs_ => ⟨⟨hp, ho, hl, hL_41, c201⟩, (at_keep 1 rfl hs_ (fun c278 => c278) (at_keep 2 rfl hs_ (fun c284 => c284) (Go.Wk.at_nil _ _)))⟩)
    refine HA.node (C1 := fun (i : Fz × Nat × Nat × Nat) => match i with | (F', b_129, b_130, b_131) => fun h => (SliceIs h 17 e_api_Addr vp yp) ∧ (SliceIs h 17 e_api_Addr vo yo) ∧ (SliceIs h 17 e_api_Addr vl x_L) ∧ (Blk h b_1 (.cells (c_acequialaw19_One (.bool xp) vp (.bool xo) vo x_G x_A vl).toArray 29 (0, 0)))) (cs1 := fun (i : Fz × Nat × Nat × Nat) => match i with | (F', b_129, b_130, b_131) => [(14, fun h => (Blk h b_131 (.cells #[.bool false, .slice none 0 0] 24 (0, 0)))), (15, fun h => (Blk h b_130 (.cells #[.bool false, .slice none 0 0] 24 (0, 0)))), (16, fun h => (Blk h b_129 (.cells (e_api_Addr (false, (default : Ba 16))).toArray 27 (0, 0))))]) (fuel1 := 7) (listed1 := #[true, true, false, true, true, false, true, true, true, true, true, true, true, false, false, false, false, false]) (fun (i : Fz × Nat × Nat × Nat) f h => match i with | (F', b_129, b_130, b_131) => f 0 = .agg (c_acequialaw19_One (.bool xp) vp (.bool xo) vo x_G x_A vl).toArray ∧ f 1 = .pointer (some ⟨b_1, 0, none⟩) ∧ f 2 = .bool false ∧ f 3 = .pointer (some ⟨b_131, 0, none⟩) ∧ f 4 = .pointer (some ⟨b_130, 0, none⟩) ∧ f 5 = .pointer (some ⟨b_129, 0, none⟩) ∧ f 10 = .pointer (some ⟨b_1, 0, none⟩) ∧ f 11 = .agg #[.bool xp, vp] ∧ f 13 = .pointer (some ⟨b_1, 2, none⟩) ∧ f 14 = .agg #[.bool xo, vo] ∧ f 16 = .pointer (some ⟨b_1, 4, none⟩) ∧ f 17 = .agg (e_api_Addr x_G).toArray ∧ f 18 = .pointer (some ⟨b_1, 21, none⟩) ∧ f 19 = .agg (e_api_Addr x_A).toArray ∧ Kp F h0 F' h ∧ St F' (Ow.box b_129 27 (e_api_Addr (false, (default : Ba 16))).toArray :: Ow.box b_130 24 #[.bool false, .slice none 0 0] :: Ow.box b_131 24 #[.bool false, .slice none 0 0] :: Ow.box b_1 29 (c_acequialaw19_One (.bool xp) vp (.bool xo) vo x_G x_A vl).toArray :: fr) h ∧ (SliceF F' h 17 e_api_Addr vp yp) ∧ (SliceF F' h 17 e_api_Addr vo yo) ∧ (SliceF F' h 17 e_api_Addr vl x_L) ∧ law19_Few_W xp yp (fun r_0_57 r_1_57 => law19_Few_W xo yo (fun r_0_35 r_1_35 => law19_MergeChanges_j1 x_G x_A Q r_0_57 r_1_57 r_0_35 r_1_35))) ?_ (fun N_28 => ?_)
    · rintro ⟨F_141, b_129, b_130, b_131⟩ f_84 h_339 ⟨e0, e1, e2, e3, e4, e5, e10, e11, e13, e14, e16, e17, e18, e19, hK, hS, hp, ho, hl, hM⟩
      refine HA.fr [(0, .agg (c_acequialaw19_One (.bool xp) vp (.bool xo) vo x_G x_A vl).toArray), (1, .pointer (some ⟨b_1, 0, none⟩)), (2, .bool false), (3, .pointer (some ⟨b_131, 0, none⟩)), (4, .pointer (some ⟨b_130, 0, none⟩)), (5, .pointer (some ⟨b_129, 0, none⟩)), (10, .pointer (some ⟨b_1, 0, none⟩)), (11, .agg #[.bool xp, vp]), (13, .pointer (some ⟨b_1, 2, none⟩)), (14, .agg #[.bool xo, vo]), (16, .pointer (some ⟨b_1, 4, none⟩)), (17, .agg (e_api_Addr x_G).toArray), (18, .pointer (some ⟨b_1, 21, none⟩)), (19, .agg (e_api_Addr x_A).toArray)] ⟨e0, e1, e2, e3, e4, e5, e10, e11, e13, e14, e16, e17, e18, e19, trivial⟩ ?_
      refine HA.two (k := 2) (k' := 13) ⟨⟨hp.is, ho.is, hl.is, (hS.box 3 rfl)⟩, (at_now (hS.box 2 rfl) (at_now (hS.box 1 rfl) (at_now (hS.box 0 rfl) (Go.Wk.at_nil _ _))))⟩ (by kernel_rfl) ?_ ?_
      · refine HS.call rfl (want_none) rfl (ec en_9 rfl rfl) (law19_Few_walk (fr := (Ow.box b_129 27 (e_api_Addr (false, (default : Ba 16))).toArray :: Ow.box b_130 24 #[.bool false, .slice none 0 0] :: Ow.box b_131 24 #[.bool false, .slice none 0 0] :: Ow.box b_1 29 (c_acequialaw19_One (.bool xp) vp (.bool xo) vo x_G x_A vl).toArray :: fr)) xp yp vp hS hp hM) ?_
        rintro _ h_340 ⟨F_142, r_0_58, r_1_58, vr_1_58, rfl, hk, hS, _, hL_105, hM⟩
        replace hK := hK.trans hk
        replace hp := hp.kp hk
        replace ho := ho.kp hk
        replace hl := hl.kp hk
        exact Go.Wk.HA.via (N_13 (F_142, r_0_58, r_1_58, b_129, b_130, b_131, vr_1_58) _ _ ⟨rfl, rfl, rfl, rfl, rfl, rfl, rfl, rfl, rfl, rfl, rfl, rfl, rfl, rfl, rfl, hK, hS, hp, ho, hl, hL_105, hM⟩) (fun L_ h_ hL_ ⟨hp, ho, hl, hL_105, c201⟩ hs_ => ⟨⟨hp, ho, hl, c201⟩, (at_keep 0 rfl hs_ (fun c266 => c266) (at_keep 1 rfl hs_ (fun c272 => c272) (at_keep 2 rfl hs_ (fun c278 => c278) (Go.Wk.at_nil _ _))))⟩)
      · refine HS.eff rfl (want_none) rfl (st_alloc (c := (e_api_Addr (false, (default : Ba 16))).toArray) hS tz_27 rfl) ?_
        rintro _ h_341 ⟨b_329, rfl, hS, hk⟩
        replace hK := hK.trans hk
        replace hp := hp.kp hk
        replace ho := ho.kp hk
        replace hl := hl.kp hk
        exact Go.Wk.HA.via (N_17 (F_141, b_329, b_129, b_130, b_131) _ _ ⟨rfl, rfl, rfl, rfl, rfl, rfl, rfl, rfl, rfl, rfl, rfl, rfl, rfl, rfl, rfl, hK, hS, hp, ho, hl, hM⟩) (fun L_ h_ hL_ ⟨hp, ho, hl, c201⟩ hs_ => ⟨⟨hp, ho, hl, c201⟩, (at_keep 0 rfl hs_ (fun c266 => c266) (at_keep 1 rfl hs_ (fun c272 => c272) (at_keep 2 rfl hs_ (fun c278 => c278) (Go.Wk.at_nil _ _))))⟩)
    refine HA.node (C1 := fun (i : Fz × Nat × Nat × Nat) => match i with | (F', b_133, b_134, b_135) => fun h => (SliceIs h 17 e_api_Addr vp yp) ∧ (SliceIs h 17 e_api_Addr vo yo) ∧ (SliceIs h 17 e_api_Addr vl x_L) ∧ (Blk h b_1 (.cells (c_acequialaw19_One (.bool xp) vp (.bool xo) vo x_G x_A vl).toArray 29 (0, 0)))) (cs1 := fun (i : Fz × Nat × Nat × Nat) => match i with | (F', b_133, b_134, b_135) => [(14, fun h => (Blk h b_135 (.cells #[.bool false, .slice none 0 0] 24 (0, 0)))), (15, fun h => (Blk h b_134 (.cells #[.bool false, .slice none 0 0] 24 (0, 0)))), (17, fun h => (Blk h b_133 (.cells (e_api_Addr (false, (default : Ba 16))).toArray 27 (0, 0))))]) (fuel1 := 7) (listed1 := #[true, true, false, true, true, false, true, true, true, true, true, true, false, true, false, false, false, false]) (fun (i : Fz × Nat × Nat × Nat) f h => match i with | (F', b_133, b_134, b_135) => f 0 = .agg (c_acequialaw19_One (.bool xp) vp (.bool xo) vo x_G x_A vl).toArray ∧ f 1 = .pointer (some ⟨b_1, 0, none⟩) ∧ f 2 = .bool false ∧ f 3 = .pointer (some ⟨b_135, 0, none⟩) ∧ f 4 = .pointer (some ⟨b_134, 0, none⟩) ∧ f 6 = .pointer (some ⟨b_133, 0, none⟩) ∧ f 10 = .pointer (some ⟨b_1, 0, none⟩) ∧ f 11 = .agg #[.bool xp, vp] ∧ f 13 = .pointer (some ⟨b_1, 2, none⟩) ∧ f 14 = .agg #[.bool xo, vo] ∧ f 16 = .pointer (some ⟨b_1, 4, none⟩) ∧ f 17 = .agg (e_api_Addr x_G).toArray ∧ f 18 = .pointer (some ⟨b_1, 21, none⟩) ∧ f 19 = .agg (e_api_Addr x_A).toArray ∧ Kp F h0 F' h ∧ St F' (Ow.box b_133 27 (e_api_Addr (false, (default : Ba 16))).toArray :: Ow.box b_134 24 #[.bool false, .slice none 0 0] :: Ow.box b_135 24 #[.bool false, .slice none 0 0] :: Ow.box b_1 29 (c_acequialaw19_One (.bool xp) vp (.bool xo) vo x_G x_A vl).toArray :: fr) h ∧ (SliceF F' h 17 e_api_Addr vp yp) ∧ (SliceF F' h 17 e_api_Addr vo yo) ∧ (SliceF F' h 17 e_api_Addr vl x_L) ∧ law19_Few_W xp yp (fun r_0_59 r_1_59 => law19_Few_W xo yo (fun r_0_37 r_1_37 => law19_MergeChanges_j1 x_G x_A Q r_0_59 r_1_59 r_0_37 r_1_37))) ?_ (fun N_29 => ?_)
    · rintro ⟨F_146, b_133, b_134, b_135⟩ f_87 h_346 ⟨e0, e1, e2, e3, e4, e6, e10, e11, e13, e14, e16, e17, e18, e19, hK, hS, hp, ho, hl, hM⟩
      refine HA.fr [(0, .agg (c_acequialaw19_One (.bool xp) vp (.bool xo) vo x_G x_A vl).toArray), (1, .pointer (some ⟨b_1, 0, none⟩)), (2, .bool false), (3, .pointer (some ⟨b_135, 0, none⟩)), (4, .pointer (some ⟨b_134, 0, none⟩)), (6, .pointer (some ⟨b_133, 0, none⟩)), (10, .pointer (some ⟨b_1, 0, none⟩)), (11, .agg #[.bool xp, vp]), (13, .pointer (some ⟨b_1, 2, none⟩)), (14, .agg #[.bool xo, vo]), (16, .pointer (some ⟨b_1, 4, none⟩)), (17, .agg (e_api_Addr x_G).toArray), (18, .pointer (some ⟨b_1, 21, none⟩)), (19, .agg (e_api_Addr x_A).toArray)] ⟨e0, e1, e2, e3, e4, e6, e10, e11, e13, e14, e16, e17, e18, e19, trivial⟩ ?_
      refine HA.two (k := 2) (k' := 12) ⟨⟨hp.is, ho.is, hl.is, (hS.box 3 rfl)⟩, (at_now (hS.box 2 rfl) (at_now (hS.box 1 rfl) (at_now (hS.box 0 rfl) (Go.Wk.at_nil _ _))))⟩ (by kernel_rfl) ?_ ?_
      · refine HS.call rfl (want_none) rfl (ec en_9 rfl rfl) (law19_Few_walk (fr := (Ow.box b_133 27 (e_api_Addr (false, (default : Ba 16))).toArray :: Ow.box b_134 24 #[.bool false, .slice none 0 0] :: Ow.box b_135 24 #[.bool false, .slice none 0 0] :: Ow.box b_1 29 (c_acequialaw19_One (.bool xp) vp (.bool xo) vo x_G x_A vl).toArray :: fr)) xp yp vp hS hp hM) ?_
        rintro _ h_347 ⟨F_147, r_0_60, r_1_60, vr_1_60, rfl, hk, hS, _, hL_107, hM⟩
        replace hK := hK.trans hk
        replace hp := hp.kp hk
        replace ho := ho.kp hk
        replace hl := hl.kp hk
        exact Go.Wk.HA.via (N_14 (F_147, r_0_60, r_1_60, b_133, b_134, b_135, vr_1_60) _ _ ⟨rfl, rfl, rfl, rfl, rfl, rfl, rfl, rfl, rfl, rfl, rfl, rfl, rfl, rfl, rfl, hK, hS, hp, ho, hl, hL_107, hM⟩) (fun L_ h_ hL_ ⟨hp, ho, hl, hL_107, c201⟩ hs_ => ⟨⟨hp, ho, hl, c201⟩, (at_keep 0 rfl hs_ (fun c266 => c266) (at_keep 1 rfl hs_ (fun c272 => c272) (at_keep 2 rfl hs_ (fun c284 => c284) (Go.Wk.at_nil _ _))))⟩)
      · refine HS.eff rfl (want_none) rfl (st_alloc (c := (e_api_Addr (false, (default : Ba 16))).toArray) hS tz_27 rfl) ?_
        rintro _ h_348 ⟨b_331, rfl, hS, hk⟩
        replace hK := hK.trans hk
        replace hp := hp.kp hk
        replace ho := ho.kp hk
        replace hl := hl.kp hk
        replace hS : St F_146 (Ow.box b_133 27 (e_api_Addr (false, (default : Ba 16))).toArray :: Ow.box b_331 27 (e_api_Addr (false, (default : Ba 16))).toArray :: Ow.box b_134 24 #[.bool false, .slice none 0 0] :: Ow.box b_135 24 #[.bool false, .slice none 0 0] :: Ow.box b_1 29 (c_acequialaw19_One (.bool xp) vp (.bool xo) vo x_G x_A vl).toArray :: fr) h_348 := hS.perm2 [1, 0, 2, 3, 4] 5 rfl rfl
        exact Go.Wk.HA.via (N_17 (F_146, b_133, b_331, b_134, b_135) _ _ ⟨rfl, rfl, rfl, rfl, rfl, rfl, rfl, rfl, rfl, rfl, rfl, rfl, rfl, rfl, rfl, hK, hS, hp, ho, hl, hM⟩) (fun L_ h_ hL_ ⟨hp, ho, hl, c201⟩ hs_ => ⟨⟨hp, ho, hl, c201⟩, (at_keep 0 rfl hs_ (fun c266 => c266) (at_keep 1 rfl hs_ (fun c272 => c272) (at_keep 3 rfl hs_ (fun c284 => c284) (Go.Wk.at_nil _ _))))⟩)
    refine HA.node (C1 := fun (i : Fz × Nat × Nat × Nat) => match i with | (F', b_137, b_138, b_139) => fun h => (SliceIs h 17 e_api_Addr vp yp) ∧ (SliceIs h 17 e_api_Addr vo yo) ∧ (SliceIs h 17 e_api_Addr vl x_L) ∧ (Blk h b_1 (.cells (c_acequialaw19_One (.bool xp) vp (.bool xo) vo x_G x_A vl).toArray 29 (0, 0)))) (cs1 := fun (i : Fz × Nat × Nat × Nat) => match i with | (F', b_137, b_138, b_139) => [(14, fun h => (Blk h b_139 (.cells #[.bool false, .slice none 0 0] 24 (0, 0)))), (16, fun h => (Blk h b_138 (.cells (e_api_Addr (false, (default : Ba 16))).toArray 27 (0, 0)))), (17, fun h => (Blk h b_137 (.cells (e_api_Addr (false, (default : Ba 16))).toArray 27 (0, 0))))]) (fuel1 := 7) (listed1 := #[true, true, false, true, true, false, true, true, true, true, true, false, true, true, false, false, false, false]) (fun (i : Fz × Nat × Nat × Nat) f h => match i with | (F', b_137, b_138, b_139) => f 0 = .agg (c_acequialaw19_One (.bool xp) vp (.bool xo) vo x_G x_A vl).toArray ∧ f 1 = .pointer (some ⟨b_1, 0, none⟩) ∧ f 2 = .bool false ∧ f 3 = .pointer (some ⟨b_139, 0, none⟩) ∧ f 5 = .pointer (some ⟨b_138, 0, none⟩) ∧ f 6 = .pointer (some ⟨b_137, 0, none⟩) ∧ f 10 = .pointer (some ⟨b_1, 0, none⟩) ∧ f 11 = .agg #[.bool xp, vp] ∧ f 13 = .pointer (some ⟨b_1, 2, none⟩) ∧ f 14 = .agg #[.bool xo, vo] ∧ f 16 = .pointer (some ⟨b_1, 4, none⟩) ∧ f 17 = .agg (e_api_Addr x_G).toArray ∧ f 18 = .pointer (some ⟨b_1, 21, none⟩) ∧ f 19 = .agg (e_api_Addr x_A).toArray ∧ Kp F h0 F' h ∧ St F' (Ow.box b_137 27 (e_api_Addr (false, (default : Ba 16))).toArray :: Ow.box b_138 27 (e_api_Addr (false, (default : Ba 16))).toArray :: Ow.box b_139 24 #[.bool false, .slice none 0 0] :: Ow.box b_1 29 (c_acequialaw19_One (.bool xp) vp (.bool xo) vo x_G x_A vl).toArray :: fr) h ∧ (SliceF F' h 17 e_api_Addr vp yp) ∧ (SliceF F' h 17 e_api_Addr vo yo) ∧ (SliceF F' h 17 e_api_Addr vl x_L) ∧ law19_Few_W xp yp (fun r_0_61 r_1_61 => law19_Few_W xo yo (fun r_0_39 r_1_39 => law19_MergeChanges_j1 x_G x_A Q r_0_61 r_1_61 r_0_39 r_1_39))) ?_ (fun N_30 => ?_)
    · rintro ⟨F_151, b_137, b_138, b_139⟩ f_90 h_353 ⟨e0, e1, e2, e3, e5, e6, e10, e11, e13, e14, e16, e17, e18, e19, hK, hS, hp, ho, hl, hM⟩
      refine HA.fr [(0, .agg (c_acequialaw19_One (.bool xp) vp (.bool xo) vo x_G x_A vl).toArray), (1, .pointer (some ⟨b_1, 0, none⟩)), (2, .bool false), (3, .pointer (some ⟨b_139, 0, none⟩)), (5, .pointer (some ⟨b_138, 0, none⟩)), (6, .pointer (some ⟨b_137, 0, none⟩)), (10, .pointer (some ⟨b_1, 0, none⟩)), (11, .agg #[.bool xp, vp]), (13, .pointer (some ⟨b_1, 2, none⟩)), (14, .agg #[.bool xo, vo]), (16, .pointer (some ⟨b_1, 4, none⟩)), (17, .agg (e_api_Addr x_G).toArray), (18, .pointer (some ⟨b_1, 21, none⟩)), (19, .agg (e_api_Addr x_A).toArray)] ⟨e0, e1, e2, e3, e5, e6, e10, e11, e13, e14, e16, e17, e18, e19, trivial⟩ ?_
      refine HA.two (k := 2) (k' := 11) ⟨⟨hp.is, ho.is, hl.is, (hS.box 3 rfl)⟩, (at_now (hS.box 2 rfl) (at_now (hS.box 1 rfl) (at_now (hS.box 0 rfl) (Go.Wk.at_nil _ _))))⟩ (by kernel_rfl) ?_ ?_
      · refine HS.call rfl (want_none) rfl (ec en_9 rfl rfl) (law19_Few_walk (fr := (Ow.box b_137 27 (e_api_Addr (false, (default : Ba 16))).toArray :: Ow.box b_138 27 (e_api_Addr (false, (default : Ba 16))).toArray :: Ow.box b_139 24 #[.bool false, .slice none 0 0] :: Ow.box b_1 29 (c_acequialaw19_One (.bool xp) vp (.bool xo) vo x_G x_A vl).toArray :: fr)) xp yp vp hS hp hM) ?_
        rintro _ h_354 ⟨F_152, r_0_62, r_1_62, vr_1_62, rfl, hk, hS, _, hL_109, hM⟩
        replace hK := hK.trans hk
        replace hp := hp.kp hk
        replace ho := ho.kp hk
        replace hl := hl.kp hk
        exact Go.Wk.HA.via (N_15 (F_152, r_0_62, r_1_62, b_137, b_138, b_139, vr_1_62) _ _ ⟨rfl, rfl, rfl, rfl, rfl, rfl, rfl, rfl, rfl, rfl, rfl, rfl, rfl, rfl, rfl, hK, hS, hp, ho, hl, hL_109, hM⟩) (fun L_ h_ hL_ ⟨hp, ho, hl, hL_109, c201⟩ hs_ => ⟨⟨hp, ho, hl, c201⟩, (at_keep 0 rfl hs_ (fun c266 => c266) (at_keep 1 rfl hs_ (fun c278 => c278) (at_keep 2 rfl hs_ (fun c284 => c284) (Go.Wk.at_nil _ _))))⟩)
      · refine HS.eff rfl (want_none) rfl (st_alloc (c := #[.bool false, .slice none 0 0]) hS tz_24 rfl) ?_
        rintro _ h_355 ⟨b_333, rfl, hS, hk⟩
        replace hK := hK.trans hk
        replace hp := hp.kp hk
        replace ho := ho.kp hk
        replace hl := hl.kp hk
        replace hS : St F_151 (Ow.box b_137 27 (e_api_Addr (false, (default : Ba 16))).toArray :: Ow.box b_138 27 (e_api_Addr (false, (default : Ba 16))).toArray :: Ow.box b_333 24 #[.bool false, .slice none 0 0] :: Ow.box b_139 24 #[.bool false, .slice none 0 0] :: Ow.box b_1 29 (c_acequialaw19_One (.bool xp) vp (.bool xo) vo x_G x_A vl).toArray :: fr) h_355 := hS.perm2 [1, 2, 0, 3, 4] 5 rfl rfl
        exact Go.Wk.HA.via (N_17 (F_151, b_137, b_138, b_333, b_139) _ _ ⟨rfl, rfl, rfl, rfl, rfl, rfl, rfl, rfl, rfl, rfl, rfl, rfl, rfl, rfl, rfl, hK, hS, hp, ho, hl, hM⟩) (fun L_ h_ hL_ ⟨hp, ho, hl, c201⟩ hs_ => ⟨⟨hp, ho, hl, c201⟩, (at_keep 0 rfl hs_ (fun c266 => c266) (at_keep 2 rfl hs_ (fun c278 => c278) (at_keep 3 rfl hs_ (fun c284 => c284) (Go.Wk.at_nil _ _))))⟩)
    refine HA.node (C1 := fun (i : Fz × Nat × Nat × Nat) => match i with | (F', b_141, b_142, b_143) => fun h => (SliceIs h 17 e_api_Addr vp yp) ∧ (SliceIs h 17 e_api_Addr vo yo) ∧ (SliceIs h 17 e_api_Addr vl x_L) ∧ (Blk h b_1 (.cells (c_acequialaw19_One (.bool xp) vp (.bool xo) vo x_G x_A vl).toArray 29 (0, 0)))) (cs1 := fun (i : Fz × Nat × Nat × Nat) => match i with | (F', b_141, b_142, b_143) => [(15, fun h => (Blk h b_143 (.cells #[.bool false, .slice none 0 0] 24 (0, 0)))), (16, fun h => (Blk h b_142 (.cells (e_api_Addr (false, (default : Ba 16))).toArray 27 (0, 0)))), (17, fun h => (Blk h b_141 (.cells (e_api_Addr (false, (default : Ba 16))).toArray 27 (0, 0))))]) (fuel1 := 7) (listed1 := #[true, true, false, true, true, false, true, true, true, true, false, true, true, true, false, false, false, false]) (fun (i : Fz × Nat × Nat × Nat) f h => match i with | (F', b_141, b_142, b_143) => f 0 = .agg (c_acequialaw19_One (.bool xp) vp (.bool xo) vo x_G x_A vl).toArray ∧ f 1 = .pointer (some ⟨b_1, 0, none⟩) ∧ f 2 = .bool false ∧ f 4 = .pointer (some ⟨b_143, 0, none⟩) ∧ f 5 = .pointer (some ⟨b_142, 0, none⟩) ∧ f 6 = .pointer (some ⟨b_141, 0, none⟩) ∧ f 10 = .pointer (some ⟨b_1, 0, none⟩) ∧ f 11 = .agg #[.bool xp, vp] ∧ f 13 = .pointer (some ⟨b_1, 2, none⟩) ∧ f 14 = .agg #[.bool xo, vo] ∧ f 16 = .pointer (some ⟨b_1, 4, none⟩) ∧ f 17 = .agg (e_api_Addr x_G).toArray ∧ f 18 = .pointer (some ⟨b_1, 21, none⟩) ∧ f 19 = .agg (e_api_Addr x_A).toArray ∧ Kp F h0 F' h ∧ St F' (Ow.box b_141 27 (e_api_Addr (false, (default : Ba 16))).toArray :: Ow.box b_142 27 (e_api_Addr (false, (default : Ba 16))).toArray :: Ow.box b_143 24 #[.bool false, .slice none 0 0] :: Ow.box b_1 29 (c_acequialaw19_One (.bool xp) vp (.bool xo) vo x_G x_A vl).toArray :: fr) h ∧ (SliceF F' h 17 e_api_Addr vp yp) ∧ (SliceF F' h 17 e_api_Addr vo yo) ∧ (SliceF F' h 17 e_api_Addr vl x_L) ∧ law19_Few_W xp yp (fun r_0_63 r_1_63 => law19_Few_W xo yo (fun r_0_41 r_1_41 => law19_MergeChanges_j1 x_G x_A Q r_0_63 r_1_63 r_0_41 r_1_41))) ?_ (fun N_31 => ?_)
    · rintro ⟨F_156, b_141, b_142, b_143⟩ f_93 h_360 ⟨e0, e1, e2, e4, e5, e6, e10, e11, e13, e14, e16, e17, e18, e19, hK, hS, hp, ho, hl, hM⟩
      refine HA.fr [(0, .agg (c_acequialaw19_One (.bool xp) vp (.bool xo) vo x_G x_A vl).toArray), (1, .pointer (some ⟨b_1, 0, none⟩)), (2, .bool false), (4, .pointer (some ⟨b_143, 0, none⟩)), (5, .pointer (some ⟨b_142, 0, none⟩)), (6, .pointer (some ⟨b_141, 0, none⟩)), (10, .pointer (some ⟨b_1, 0, none⟩)), (11, .agg #[.bool xp, vp]), (13, .pointer (some ⟨b_1, 2, none⟩)), (14, .agg #[.bool xo, vo]), (16, .pointer (some ⟨b_1, 4, none⟩)), (17, .agg (e_api_Addr x_G).toArray), (18, .pointer (some ⟨b_1, 21, none⟩)), (19, .agg (e_api_Addr x_A).toArray)] ⟨e0, e1, e2, e4, e5, e6, e10, e11, e13, e14, e16, e17, e18, e19, trivial⟩ ?_
      refine HA.two (k := 2) (k' := 10) ⟨⟨hp.is, ho.is, hl.is, (hS.box 3 rfl)⟩, (at_now (hS.box 2 rfl) (at_now (hS.box 1 rfl) (at_now (hS.box 0 rfl) (Go.Wk.at_nil _ _))))⟩ (by kernel_rfl) ?_ ?_
      · refine HS.call rfl (want_none) rfl (ec en_9 rfl rfl) (law19_Few_walk (fr := (Ow.box b_141 27 (e_api_Addr (false, (default : Ba 16))).toArray :: Ow.box b_142 27 (e_api_Addr (false, (default : Ba 16))).toArray :: Ow.box b_143 24 #[.bool false, .slice none 0 0] :: Ow.box b_1 29 (c_acequialaw19_One (.bool xp) vp (.bool xo) vo x_G x_A vl).toArray :: fr)) xp yp vp hS hp hM) ?_
        rintro _ h_361 ⟨F_157, r_0_64, r_1_64, vr_1_64, rfl, hk, hS, _, hL_111, hM⟩
        replace hK := hK.trans hk
        replace hp := hp.kp hk
        replace ho := ho.kp hk
        replace hl := hl.kp hk
        exact Go.Wk.HA.via (N_16 (F_157, r_0_64, r_1_64, b_141, b_142, b_143, vr_1_64) _ _ ⟨rfl, rfl, rfl, rfl, rfl, rfl, rfl, rfl, rfl, rfl, rfl, rfl, rfl, rfl, rfl, hK, hS, hp, ho, hl, hL_111, hM⟩) (fun L_ h_ hL_ ⟨hp, ho, hl, hL_111, c201⟩ hs_ => ⟨⟨hp, ho, hl, c201⟩, (at_keep 0 rfl hs_ (fun c272 => c272) (at_keep 1 rfl hs_ (fun c278 => c278) (at_keep 2 rfl hs_ (fun c284 => c284) (Go.Wk.at_nil _ _))))⟩)
      · refine HS.eff rfl (want_none) rfl (st_alloc (c := #[.bool false, .slice none 0 0]) hS tz_24 rfl) ?_
        rintro _ h_362 ⟨b_335, rfl, hS, hk⟩
        replace hK := hK.trans hk
        replace hp := hp.kp hk
        replace ho := ho.kp hk
        replace hl := hl.kp hk
        replace hS : St F_156 (Ow.box b_141 27 (e_api_Addr (false, (default : Ba 16))).toArray :: Ow.box b_142 27 (e_api_Addr (false, (default : Ba 16))).toArray :: Ow.box b_143 24 #[.bool false, .slice none 0 0] :: Ow.box b_335 24 #[.bool false, .slice none 0 0] :: Ow.box b_1 29 (c_acequialaw19_One (.bool xp) vp (.bool xo) vo x_G x_A vl).toArray :: fr) h_362 := hS.perm2 [1, 2, 3, 0, 4] 5 rfl rfl
        exact Go.Wk.HA.via (N_17 (F_156, b_141, b_142, b_143, b_335) _ _ ⟨rfl, rfl, rfl, rfl, rfl, rfl, rfl, rfl, rfl, rfl, rfl, rfl, rfl, rfl, rfl, hK, hS, hp, ho, hl, hM⟩) (fun L_ h_ hL_ ⟨hp, ho, hl, c201⟩ hs_ => ⟨⟨hp, ho, hl, c201⟩, (at_keep 1 rfl hs_ (fun c272 => c272) (at_keep 2 rfl hs_ (fun c278 => c278) (at_keep 3 rfl hs_ (fun c284 => c284) (Go.Wk.at_nil _ _))))⟩)
    refine HA.node (C1 := fun (i : Fz × Bool × (List T_api_Addr) × Nat × Value) => match i with | (F', b_32, l_2, b_31, v_2) => fun h => (SliceIs h 17 e_api_Addr vp yp) ∧ (SliceIs h 17 e_api_Addr vo yo) ∧ (SliceIs h 17 e_api_Addr vl x_L) ∧ (SliceIs h 17 e_api_Addr v_2 l_2) ∧ (Blk h b_1 (.cells (c_acequialaw19_One (.bool xp) vp (.bool xo) vo x_G x_A vl).toArray 29 (0, 0)))) (cs1 := fun (i : Fz × Bool × (List T_api_Addr) × Nat × Value) => match i with | (F', b_32, l_2, b_31, v_2) => [(14, fun h => (Blk h b_31 (.cells #[.bool false, .slice none 0 0] 24 (0, 0))))]) (fuel1 := 8) (listed1 := #[true, true, true, true, true, false, true, true, true, true, true, false, false, false, false, false, false, false]) (fun (i : Fz × Bool × (List T_api_Addr) × Nat × Value) f h => match i with | (F', b_32, l_2, b_31, v_2) => f 0 = .agg (c_acequialaw19_One (.bool xp) vp (.bool xo) vo x_G x_A vl).toArray ∧ f 1 = .pointer (some ⟨b_1, 0, none⟩) ∧ f 2 = .bool false ∧ f 3 = .pointer (some ⟨b_31, 0, none⟩) ∧ f 10 = .pointer (some ⟨b_1, 0, none⟩) ∧ f 11 = .agg #[.bool xp, vp] ∧ f 12 = .agg #[.bool b_32, v_2] ∧ f 13 = .pointer (some ⟨b_1, 2, none⟩) ∧ f 14 = .agg #[.bool xo, vo] ∧ f 16 = .pointer (some ⟨b_1, 4, none⟩) ∧ f 17 = .agg (e_api_Addr x_G).toArray ∧ f 18 = .pointer (some ⟨b_1, 21, none⟩) ∧ f 19 = .agg (e_api_Addr x_A).toArray ∧ Kp F h0 F' h ∧ St F' (Ow.box b_31 24 #[.bool false, .slice none 0 0] :: Ow.box b_1 29 (c_acequialaw19_One (.bool xp) vp (.bool xo) vo x_G x_A vl).toArray :: fr) h ∧ (SliceF F' h 17 e_api_Addr vp yp) ∧ (SliceF F' h 17 e_api_Addr vo yo) ∧ (SliceF F' h 17 e_api_Addr vl x_L) ∧ (SliceF F' h 17 e_api_Addr v_2 l_2) ∧ law19_Few_W xo yo (fun r_0_65 r_1_65 => law19_MergeChanges_j1 x_G x_A Q b_32 l_2 r_0_65 r_1_65)) ?_ (fun N_32 => ?_)
    · rintro ⟨F_161, b_32, l_2, b_31, v_2⟩ f_96 h_369 ⟨e0, e1, e2, e3, e10, e11, e12, e13, e14, e16, e17, e18, e19, hK, hS, hp, ho, hl, hL_9, hM⟩
      refine HA.fr [(0, .agg (c_acequialaw19_One (.bool xp) vp (.bool xo) vo x_G x_A vl).toArray), (1, .pointer (some ⟨b_1, 0, none⟩)), (2, .bool false), (3, .pointer (some ⟨b_31, 0, none⟩)), (10, .pointer (some ⟨b_1, 0, none⟩)), (11, .agg #[.bool xp, vp]), (12, .agg #[.bool b_32, v_2]), (13, .pointer (some ⟨b_1, 2, none⟩)), (14, .agg #[.bool xo, vo]), (16, .pointer (some ⟨b_1, 4, none⟩)), (17, .agg (e_api_Addr x_G).toArray), (18, .pointer (some ⟨b_1, 21, none⟩)), (19, .agg (e_api_Addr x_A).toArray)] ⟨e0, e1, e2, e3, e10, e11, e12, e13, e14, e16, e17, e18, e19, trivial⟩ ?_
      refine HA.four (k := 5) (k' := 11) (k'' := 12) (k''' := 13) ⟨⟨hp.is, ho.is, hl.is, hL_9.is, (hS.box 1 rfl)⟩, (at_now (hS.box 0 rfl) (Go.Wk.at_nil _ _))⟩ (by kernel_rfl) ?_ ?_ ?_ ?_
      · refine HS.call rfl (want_none) rfl (ec en_9 rfl rfl) (law19_Few_walk (fr := (Ow.box b_31 24 #[.bool false, .slice none 0 0] :: Ow.box b_1 29 (c_acequialaw19_One (.bool xp) vp (.bool xo) vo x_G x_A vl).toArray :: fr)) xo yo vo hS ho hM) ?_
        rintro _ h_370 ⟨F_162, r_0_66, r_1_66, vr_1_66, rfl, hk, hS, _, hL_113, hM⟩
        replace hK := hK.trans hk
        replace hp := hp.kp hk
        replace ho := ho.kp hk
        replace hl := hl.kp hk
        replace hL_9 := hL_9.kp hk
        exact Go.Wk.HA.via (N_18 (F_162, b_32, l_2, r_0_66, r_1_66, b_31, v_2, vr_1_66) _ _ ⟨rfl, rfl, rfl, rfl, rfl, rfl, rfl, rfl, rfl, rfl, rfl, rfl, rfl, rfl, hK, hS, hp, ho, hl, hL_9, hL_113, hM⟩) (fun L_ h_ hL_ ⟨hp, ho, hl, hL_9, hL_113, c201⟩ hs_ => ⟨⟨hp, ho, hl, hL_9, c201⟩, (at_keep 0 rfl hs_ (fun c266 => c266) (Go.Wk.at_nil _ _))⟩)
      · refine HS.eff rfl (want_none) rfl (st_alloc (c := #[.bool false, .slice none 0 0]) hS tz_24 rfl) ?_
        rintro _ h_371 ⟨b_339, rfl, hS, hk⟩
        replace hK := hK.trans hk
        replace hp := hp.kp hk
        replace ho := ho.kp hk
        replace hl := hl.kp hk
        replace hL_9 := hL_9.kp hk
        exact Go.Wk.HA.via (N_22 (F_161, b_32, l_2, b_339, b_31, v_2) _ _ ⟨rfl, rfl, rfl, rfl, rfl, rfl, rfl, rfl, rfl, rfl, rfl, rfl, rfl, rfl, hK, hS, hp, ho, hl, hL_9, hM⟩) (fun L_ h_ hL_ ⟨hp, ho, hl, hL_9, c201⟩ hs_ => ⟨⟨hp, ho, hl, hL_9, c201⟩, (at_keep 0 rfl hs_ (fun c266 => c266) (Go.Wk.at_nil _ _))⟩)
      · refine HS.eff rfl (want_none) rfl (st_alloc (c := (e_api_Addr (false, (default : Ba 16))).toArray) hS tz_27 rfl) ?_
        rintro _ h_372 ⟨b_340, rfl, hS, hk⟩
        replace hK := hK.trans hk
        replace hp := hp.kp hk
        replace ho := ho.kp hk
        replace hl := hl.kp hk
        replace hL_9 := hL_9.kp hk
        exact Go.Wk.HA.via (N_23 (F_161, b_32, l_2, b_340, b_31, v_2) _ _ ⟨rfl, rfl, rfl, rfl, rfl, rfl, rfl, rfl, rfl, rfl, rfl, rfl, rfl, rfl, hK, hS, hp, ho, hl, hL_9, hM⟩) (fun L_ h_ hL_ ⟨hp, ho, hl, hL_9, c201⟩ hs_ => ⟨⟨hp, ho, hl, hL_9, c201⟩, (at_keep 0 rfl hs_ (fun c266 => c266) (Go.Wk.at_nil _ _))⟩)
      · refine HS.eff rfl (want_none) rfl (st_alloc (c := (e_api_Addr (false, (default : Ba 16))).toArray) hS tz_27 rfl) ?_
        rintro _ h_373 ⟨b_341, rfl, hS, hk⟩
        replace hK := hK.trans hk
        replace hp := hp.kp hk
        replace ho := ho.kp hk
        replace hl := hl.kp hk
        replace hL_9 := hL_9.kp hk
        exact Go.Wk.HA.via (N_24 (F_161, b_32, l_2, b_341, b_31, v_2) _ _ ⟨rfl, rfl, rfl, rfl, rfl, rfl, rfl, rfl, rfl, rfl, rfl, rfl, rfl, rfl, hK, hS, hp, ho, hl, hL_9, hM⟩) (fun L_ h_ hL_ ⟨hp, ho, hl, hL_9, c201⟩ hs_ => ⟨⟨hp, ho, hl, hL_9, c201⟩, (at_keep 0 rfl hs_ (fun c266 => c266) (Go.Wk.at_nil _ _))⟩)
    refine HA.node (C1 := fun (i : Fz × Bool × (List T_api_Addr) × Nat × Value) => match i with | (F', b_37, l_3, b_36, v_3) => fun h => (SliceIs h 17 e_api_Addr vp yp) ∧ (SliceIs h 17 e_api_Addr vo yo) ∧ (SliceIs h 17 e_api_Addr vl x_L) ∧ (SliceIs h 17 e_api_Addr v_3 l_3) ∧ (Blk h b_1 (.cells (c_acequialaw19_One (.bool xp) vp (.bool xo) vo x_G x_A vl).toArray 29 (0, 0)))) (cs1 := fun (i : Fz × Bool × (List T_api_Addr) × Nat × Value) => match i with | (F', b_37, l_3, b_36, v_3) => [(15, fun h => (Blk h b_36 (.cells #[.bool false, .slice none 0 0] 24 (0, 0))))]) (fuel1 := 8) (listed1 := #[true, true, true, true, true, false, true, true, true, true, false, true, false, false, false, false, false, false]) (fun (i : Fz × Bool × (List T_api_Addr) × Nat × Value) f h => match i with | (F', b_37, l_3, b_36, v_3) => f 0 = .agg (c_acequialaw19_One (.bool xp) vp (.bool xo) vo x_G x_A vl).toArray ∧ f 1 = .pointer (some ⟨b_1, 0, none⟩) ∧ f 2 = .bool false ∧ f 4 = .pointer (some ⟨b_36, 0, none⟩) ∧ f 10 = .pointer (some ⟨b_1, 0, none⟩) ∧ f 11 = .agg #[.bool xp, vp] ∧ f 12 = .agg #[.bool b_37, v_3] ∧ f 13 = .pointer (some ⟨b_1, 2, none⟩) ∧ f 14 = .agg #[.bool xo, vo] ∧ f 16 = .pointer (some ⟨b_1, 4, none⟩) ∧ f 17 = .agg (e_api_Addr x_G).toArray ∧ f 18 = .pointer (some ⟨b_1, 21, none⟩) ∧ f 19 = .agg (e_api_Addr x_A).toArray ∧ Kp F h0 F' h ∧ St F' (Ow.box b_36 24 #[.bool false, .slice none 0 0] :: Ow.box b_1 29 (c_acequialaw19_One (.bool xp) vp (.bool xo) vo x_G x_A vl).toArray :: fr) h ∧ (SliceF F' h 17 e_api_Addr vp yp) ∧ (SliceF F' h 17 e_api_Addr vo yo) ∧ (SliceF F' h 17 e_api_Addr vl x_L) ∧ (SliceF F' h 17 e_api_Addr v_3 l_3) ∧ law19_Few_W xo yo (fun r_0_67 r_1_67 => law19_MergeChanges_j1 x_G x_A Q b_37 l_3 r_0_67 r_1_67)) ?_ (fun N_33 => ?_)
    · rintro ⟨F_166, b_37, l_3, b_36, v_3⟩ f_99 h_380 ⟨e0, e1, e2, e4, e10, e11, e12, e13, e14, e16, e17, e18, e19, hK, hS, hp, ho, hl, hL_11, hM⟩
      refine HA.fr [(0, .agg (c_acequialaw19_One (.bool xp) vp (.bool xo) vo x_G x_A vl).toArray), (1, .pointer (some ⟨b_1, 0, none⟩)), (2, .bool false), (4, .pointer (some ⟨b_36, 0, none⟩)), (10, .pointer (some ⟨b_1, 0, none⟩)), (11, .agg #[.bool xp, vp]), (12, .agg #[.bool b_37, v_3]), (13, .pointer (some ⟨b_1, 2, none⟩)), (14, .agg #[.bool xo, vo]), (16, .pointer (some ⟨b_1, 4, none⟩)), (17, .agg (e_api_Addr x_G).toArray), (18, .pointer (some ⟨b_1, 21, none⟩)), (19, .agg (e_api_Addr x_A).toArray)] ⟨e0, e1, e2, e4, e10, e11, e12, e13, e14, e16, e17, e18, e19, trivial⟩ ?_
      refine HA.four (k := 5) (k' := 10) (k'' := 12) (k''' := 13) ⟨⟨hp.is, ho.is, hl.is, hL_11.is, (hS.box 1 rfl)⟩, (at_now (hS.box 0 rfl) (Go.Wk.at_nil _ _))⟩ (by kernel_rfl) ?_ ?_ ?_ ?_
      · refine HS.call rfl (want_none) rfl (ec en_9 rfl rfl) (law19_Few_walk (fr := (Ow.box b_36 24 #[.bool false, .slice none 0 0] :: Ow.box b_1 29 (c_acequialaw19_One (.bool xp) vp (.bool xo) vo x_G x_A vl).toArray :: fr)) xo yo vo hS ho hM) ?_
        rintro _ h_381 ⟨F_167, r_0_68, r_1_68, vr_1_68, rfl, hk, hS, _, hL_115, hM⟩
        replace hK := hK.trans hk
        replace hp := hp.kp hk
        replace ho := ho.kp hk
        replace hl := hl.kp hk
        replace hL_11 := hL_11.kp hk
        exact Go.Wk.HA.via (N_19 (F_167, b_37, l_3, r_0_68, r_1_68, b_36, v_3, vr_1_68) _ _ ⟨rfl, rfl, rfl, rfl, rfl, rfl, rfl, rfl, rfl, rfl, rfl, rfl, rfl, rfl, hK, hS, hp, ho, hl, hL_11, hL_115, hM⟩) (fun L_ h_ hL_ ⟨hp, ho, hl, hL_11, hL_115, c201⟩ hs_ => ⟨⟨hp, ho, hl, hL_11, c201⟩, (at_keep 0 rfl hs_ (fun c272 => c272) (Go.Wk.at_nil _ _))⟩)
      · refine HS.eff rfl (want_none) rfl (st_alloc (c := #[.bool false, .slice none 0 0]) hS tz_24 rfl) ?_
        rintro _ h_382 ⟨b_345, rfl, hS, hk⟩
        replace hK := hK.trans hk
        replace hp := hp.kp hk
        replace ho := ho.kp hk
        replace hl := hl.kp hk
        replace hL_11 := hL_11.kp hk
        replace hS : St F_166 (Ow.box b_36 24 #[.bool false, .slice none 0 0] :: Ow.box b_345 24 #[.bool false, .slice none 0 0] :: Ow.box b_1 29 (c_acequialaw19_One (.bool xp) vp (.bool xo) vo x_G x_A vl).toArray :: fr) h_382 := hS.perm2 [1, 0, 2] 3 rfl rfl
        exact Go.Wk.HA.via (N_22 (F_166, b_37, l_3, b_36, b_345, v_3) _ _ ⟨rfl, rfl, rfl, rfl, rfl, rfl, rfl, rfl, rfl, rfl, rfl, rfl, rfl, rfl, hK, hS, hp, ho, hl, hL_11, hM⟩) (fun L_ h_ hL_ ⟨hp, ho, hl, hL_11, c201⟩ hs_ => ⟨⟨hp, ho, hl, hL_11, c201⟩, (at_keep 1 rfl hs_ (fun c272 => c272) (Go.Wk.at_nil _ _))⟩)
      · refine HS.eff rfl (want_none) rfl (st_alloc (c := (e_api_Addr (false, (default : Ba 16))).toArray) hS tz_27 rfl) ?_
        rintro _ h_383 ⟨b_346, rfl, hS, hk⟩
        replace hK := hK.trans hk
        replace hp := hp.kp hk
        replace ho := ho.kp hk
        replace hl := hl.kp hk
        replace hL_11 := hL_11.kp hk
        exact Go.Wk.HA.via (N_25 (F_166, b_37, l_3, b_346, b_36, v_3) _ _ ⟨rfl, rfl, rfl, rfl, rfl, rfl, rfl, rfl, rfl, rfl, rfl, rfl, rfl, rfl, hK, hS, hp, ho, hl, hL_11, hM⟩) (fun L_ h_ hL_ ⟨hp, ho, hl, hL_11, c201⟩ hs_ => ⟨⟨hp, ho, hl, hL_11, c201⟩, (at_keep 0 rfl hs_ (fun c272 => c272) (Go.Wk.at_nil _ _))⟩)
      · refine HS.eff rfl (want_none) rfl (st_alloc (c := (e_api_Addr (false, (default : Ba 16))).toArray) hS tz_27 rfl) ?_
        rintro _ h_384 ⟨b_347, rfl, hS, hk⟩
        replace hK := hK.trans hk
        replace hp := hp.kp hk
        replace ho := ho.kp hk
        replace hl := hl.kp hk
        replace hL_11 := hL_11.kp hk
        exact Go.Wk.HA.via (N_26 (F_166, b_37, l_3, b_347, b_36, v_3) _ _ ⟨rfl, rfl, rfl, rfl, rfl, rfl, rfl, rfl, rfl, rfl, rfl, rfl, rfl, rfl, hK, hS, hp, ho, hl, hL_11, hM⟩) (fun L_ h_ hL_ ⟨hp, ho, hl, hL_11, c201⟩ hs_ => ⟨⟨hp, ho, hl, hL_11, c201⟩, (at_keep 0 rfl hs_ (fun c272 => c272) (Go.Wk.at_nil _ _))⟩)
    refine HA.node (C1 := fun (i : Fz × Bool × (List T_api_Addr) × Nat × Value) => match i with | (F', b_42, l_4, b_41, v_4) => fun h => (SliceIs h 17 e_api_Addr vp yp) ∧ (SliceIs h 17 e_api_Addr vo yo) ∧ (SliceIs h 17 e_api_Addr vl x_L) ∧ (SliceIs h 17 e_api_Addr v_4 l_4) ∧ (Blk h b_1 (.cells (c_acequialaw19_One (.bool xp) vp (.bool xo) vo x_G x_A vl).toArray 29 (0, 0)))) (cs1 := fun (i : Fz × Bool × (List T_api_Addr) × Nat × Value) => match i with | (F', b_42, l_4, b_41, v_4) => [(16, fun h => (Blk h b_41 (.cells (e_api_Addr (false, (default : Ba 16))).toArray 27 (0, 0))))]) (fuel1 := 8) (listed1 := #[true, true, true, true, true, false, true, true, true, true, false, false, true, false, false, false, false, false]) (fun (i : Fz × Bool × (List T_api_Addr) × Nat × Value) f h => match i with | (F', b_42, l_4, b_41, v_4) => f 0 = .agg (c_acequialaw19_One (.bool xp) vp (.bool xo) vo x_G x_A vl).toArray ∧ f 1 = .pointer (some ⟨b_1, 0, none⟩) ∧ f 2 = .bool false ∧ f 5 = .pointer (some ⟨b_41, 0, none⟩) ∧ f 10 = .pointer (some ⟨b_1, 0, none⟩) ∧ f 11 = .agg #[.bool xp, vp] ∧ f 12 = .agg #[.bool b_42, v_4] ∧ f 13 = .pointer (some ⟨b_1, 2, none⟩) ∧ f 14 = .agg #[.bool xo, vo] ∧ f 16 = .pointer (some ⟨b_1, 4, none⟩) ∧ f 17 = .agg (e_api_Addr x_G).toArray ∧ f 18 = .pointer (some ⟨b_1, 21, none⟩) ∧ f 19 = .agg (e_api_Addr x_A).toArray ∧ Kp F h0 F' h ∧ St F' (Ow.box b_41 27 (e_api_Addr (false, (default : Ba 16))).toArray :: Ow.box b_1 29 (c_acequialaw19_One (.bool xp) vp (.bool xo) vo x_G x_A vl).toArray :: fr) h ∧ (SliceF F' h 17 e_api_Addr vp yp) ∧ (SliceF F' h 17 e_api_Addr vo yo) ∧ (SliceF F' h 17 e_api_Addr vl x_L) ∧ (SliceF F' h 17 e_api_Addr v_4 l_4) ∧ law19_Few_W xo yo (fun r_0_69 r_1_69 => law19_MergeChanges_j1 x_G x_A Q b_42 l_4 r_0_69 r_1_69)) ?_ (fun N_34 => ?_)
    · rintro ⟨F_171, b_42, l_4, b_41, v_4⟩ f_102 h_391 ⟨e0, e1, e2, e5, e10, e11, e12, e13, e14, e16, e17, e18, e19, hK, hS, hp, ho, hl, hL_13, hM⟩
      refine HA.fr [(0, .agg (c_acequialaw19_One (.bool xp) vp (.bool xo) vo x_G x_A vl).toArray), (1, .pointer (some ⟨b_1, 0, none⟩)), (2, .bool false), (5, .pointer (some ⟨b_41, 0, none⟩)), (10, .pointer (some ⟨b_1, 0, none⟩)), (11, .agg #[.bool xp, vp]), (12, .agg #[.bool b_42, v_4]), (13, .pointer (some ⟨b_1, 2, none⟩)), (14, .agg #[.bool xo, vo]), (16, .pointer (some ⟨b_1, 4, none⟩)), (17, .agg (e_api_Addr x_G).toArray), (18, .pointer (some ⟨b_1, 21, none⟩)), (19, .agg (e_api_Addr x_A).toArray)] ⟨e0, e1, e2, e5, e10, e11, e12, e13, e14, e16, e17, e18, e19, trivial⟩ ?_
      refine HA.four (k := 5) (k' := 10) (k'' := 11) (k''' := 13) ⟨⟨hp.is, ho.is, hl.is, hL_13.is, (hS.box 1 rfl)⟩, (at_now (hS.box 0 rfl) (Go.Wk.at_nil _ _))⟩ (by kernel_rfl) ?_ ?_ ?_ ?_
      · refine HS.call rfl (want_none) rfl (ec en_9 rfl rfl) (law19_Few_walk (fr := (Ow.box b_41 27 (e_api_Addr (false, (default : Ba 16))).toArray :: Ow.box b_1 29 (c_acequialaw19_One (.bool xp) vp (.bool xo) vo x_G x_A vl).toArray :: fr)) xo yo vo hS ho hM) ?_
        rintro _ h_392 ⟨F_172, r_0_70, r_1_70, vr_1_70, rfl, hk, hS, _, hL_117, hM⟩
        replace hK := hK.trans hk
        replace hp := hp.kp hk
        replace ho := ho.kp hk
        replace hl := hl.kp hk
        replace hL_13 := hL_13.kp hk
        exact Go.Wk.HA.via (N_20 (F_172, b_42, l_4, r_0_70, r_1_70, b_41, v_4, vr_1_70) _ _ ⟨rfl, rfl, rfl, rfl, rfl, rfl, rfl, rfl, rfl, rfl, rfl, rfl, rfl, rfl, hK, hS, hp, ho, hl, hL_13, hL_117, hM⟩) (fun L_ h_ hL_ ⟨hp, ho, hl, hL_13, hL_117, c201⟩ hs_ => ⟨⟨hp, ho, hl, hL_13, c201⟩, (at_keep 0 rfl hs_ (fun c278 => c278) (Go.Wk.at_nil _ _))⟩)
      · refine HS.eff rfl (want_none) rfl (st_alloc (c := #[.bool false, .slice none 0 0]) hS tz_24 rfl) ?_
        rintro _ h_393 ⟨b_351, rfl, hS, hk⟩
        replace hK := hK.trans hk
        replace hp := hp.kp hk
        replace ho := ho.kp hk
        replace hl := hl.kp hk
        replace hL_13 := hL_13.kp hk
        replace hS : St F_171 (Ow.box b_41 27 (e_api_Addr (false, (default : Ba 16))).toArray :: Ow.box b_351 24 #[.bool false, .slice none 0 0] :: Ow.box b_1 29 (c_acequialaw19_One (.bool xp) vp (.bool xo) vo x_G x_A vl).toArray :: fr) h_393 := hS.perm2 [1, 0, 2] 3 rfl rfl
        exact Go.Wk.HA.via (N_23 (F_171, b_42, l_4, b_41, b_351, v_4) _ _ ⟨rfl, rfl, rfl, rfl, rfl, rfl, rfl, rfl, rfl, rfl, rfl, rfl, rfl, rfl, hK, hS, hp, ho, hl, hL_13, hM⟩) (fun L_ h_ hL_ ⟨hp, ho, hl, hL_13, c201⟩ hs_ => ⟨⟨hp, ho, hl, hL_13, c201⟩, (at_keep 1 rfl hs_ (fun c278 => c278) (Go.Wk.at_nil _ _))⟩)
      · refine HS.eff rfl (want_none) rfl (st_alloc (c := #[.bool false, .slice none 0 0]) hS tz_24 rfl) ?_
        rintro _ h_394 ⟨b_352, rfl, hS, hk⟩
        replace hK := hK.trans hk
        replace hp := hp.kp hk
        replace ho := ho.kp hk
        replace hl := hl.kp hk
        replace hL_13 := hL_13.kp hk
        replace hS : St F_171 (Ow.box b_41 27 (e_api_Addr (false, (default : Ba 16))).toArray :: Ow.box b_352 24 #[.bool false, .slice none 0 0] :: Ow.box b_1 29 (c_acequialaw19_One (.bool xp) vp (.bool xo) vo x_G x_A vl).toArray :: fr) h_394 := hS.perm2 [1, 0, 2] 3 rfl rfl
        exact Go.Wk.HA.via (N_25 (F_171, b_42, l_4, b_41, b_352, v_4) _ _ ⟨rfl, rfl, rfl, rfl, rfl, rfl, rfl, rfl, rfl, rfl, rfl, rfl, rfl, rfl, hK, hS, hp, ho, hl, hL_13, hM⟩) (fun L_ h_ hL_ ⟨hp, ho, hl, hL_13, c201⟩ hs_ => ⟨⟨hp, ho, hl, hL_13, c201⟩, (at_keep 1 rfl hs_ (fun c278 => c278) (Go.Wk.at_nil _ _))⟩)
      · refine HS.eff rfl (want_none) rfl (st_alloc (c := (e_api_Addr (false, (default : Ba 16))).toArray) hS tz_27 rfl) ?_
        rintro _ h_395 ⟨b_353, rfl, hS, hk⟩
        replace hK := hK.trans hk
        replace hp := hp.kp hk
        replace ho := ho.kp hk
        replace hl := hl.kp hk
        replace hL_13 := hL_13.kp hk
        exact Go.Wk.HA.via (N_27 (F_171, b_42, l_4, b_353, b_41, v_4) _ _ ⟨rfl, rfl, rfl, rfl, rfl, rfl, rfl, rfl, rfl, rfl, rfl, rfl, rfl, rfl, hK, hS, hp, ho, hl, hL_13, hM⟩) (fun L_ h_ hL_ ⟨hp, ho, hl, hL_13, c201⟩ hs_ => ⟨⟨hp, ho, hl, hL_13, c201⟩, (at_keep 0 rfl hs_ (fun c278 => c278) (Go.Wk.at_nil _ _))⟩)
    refine HA.node (C1 := fun (i : Fz × Bool × (List T_api_Addr) × Nat × Value) => match i with | (F', b_47, l_5, b_46, v_5) => fun h => (SliceIs h 17 e_api_Addr vp yp) ∧ (SliceIs h 17 e_api_Addr vo yo) ∧ (SliceIs h 17 e_api_Addr vl x_L) ∧ (SliceIs h 17 e_api_Addr v_5 l_5) ∧ (Blk h b_1 (.cells (c_acequialaw19_One (.bool xp) vp (.bool xo) vo x_G x_A vl).toArray 29 (0, 0)))) (cs1 := fun (i : Fz × Bool × (List T_api_Addr) × Nat × Value) => match i with | (F', b_47, l_5, b_46, v_5) => [(17, fun h => (Blk h b_46 (.cells (e_api_Addr (false, (default : Ba 16))).toArray 27 (0, 0))))]) (fuel1 := 8) (listed1 := #[true, true, true, true, true, false, true, true, true, true, false, false, false, true, false, false, false, false]) (fun (i : Fz × Bool × (List T_api_Addr) × Nat × Value) f h => match i with | (F', b_47, l_5, b_46, v_5) => f 0 = .agg (c_acequialaw19_One (.bool xp) vp (.bool xo) vo x_G x_A vl).toArray ∧ f 1 = .pointer (some ⟨b_1, 0, none⟩) ∧ f 2 = .bool false ∧ f 6 = .pointer (some ⟨b_46, 0, none⟩) ∧ f 10 = .pointer (some ⟨b_1, 0, none⟩) ∧ f 11 = .agg #[.bool xp, vp] ∧ f 12 = .agg #[.bool b_47, v_5] ∧ f 13 = .pointer (some ⟨b_1, 2, none⟩) ∧ f 14 = .agg #[.bool xo, vo] ∧ f 16 = .pointer (some ⟨b_1, 4, none⟩) ∧ f 17 = .agg (e_api_Addr x_G).toArray ∧ f 18 = .pointer (some ⟨b_1, 21, none⟩) ∧ f 19 = .agg (e_api_Addr x_A).toArray ∧ Kp F h0 F' h ∧ St F' (Ow.box b_46 27 (e_api_Addr (false, (default : Ba 16))).toArray :: Ow.box b_1 29 (c_acequialaw19_One (.bool xp) vp (.bool xo) vo x_G x_A vl).toArray :: fr) h ∧ (SliceF F' h 17 e_api_Addr vp yp) ∧ (SliceF F' h 17 e_api_Addr vo yo) ∧ (SliceF F' h 17 e_api_Addr vl x_L) ∧ (SliceF F' h 17 e_api_Addr v_5 l_5) ∧ law19_Few_W xo yo (fun r_0_71 r_1_71 => law19_MergeChanges_j1 x_G x_A Q b_47 l_5 r_0_71 r_1_71)) ?_ (fun N_35 => ?_)
    · rintro ⟨F_176, b_47, l_5, b_46, v_5⟩ f_105 h_402 ⟨e0, e1, e2, e6, e10, e11, e12, e13, e14, e16, e17, e18, e19, hK, hS, hp, ho, hl, hL_15, hM⟩
      refine HA.fr [(0, .agg (c_acequialaw19_One (.bool xp) vp (.bool xo) vo x_G x_A vl).toArray), (1, .pointer (some ⟨b_1, 0, none⟩)), (2, .bool false), (6, .pointer (some ⟨b_46, 0, none⟩)), (10, .pointer (some ⟨b_1, 0, none⟩)), (11, .agg #[.bool xp, vp]), (12, .agg #[.bool b_47, v_5]), (13, .pointer (some ⟨b_1, 2, none⟩)), (14, .agg #[.bool xo, vo]), (16, .pointer (some ⟨b_1, 4, none⟩)), (17, .agg (e_api_Addr x_G).toArray), (18, .pointer (some ⟨b_1, 21, none⟩)), (19, .agg (e_api_Addr x_A).toArray)] ⟨e0, e1, e2, e6, e10, e11, e12, e13, e14, e16, e17, e18, e19, trivial⟩ ?_
      refine HA.four (k := 5) (k' := 10) (k'' := 11) (k''' := 12) ⟨⟨hp.is, ho.is, hl.is, hL_15.is, (hS.box 1 rfl)⟩, (at_now (hS.box 0 rfl) (Go.Wk.at_nil _ _))⟩ (by kernel_rfl) ?_ ?_ ?_ ?_
      · refine HS.call rfl (want_none) rfl (ec en_9 rfl rfl) (law19_Few_walk (fr := (Ow.box b_46 27 (e_api_Addr (false, (default : Ba 16))).toArray :: Ow.box b_1 29 (c_acequialaw19_One (.bool xp) vp (.bool xo) vo x_G x_A vl).toArray :: fr)) xo yo vo hS ho hM) ?_
        rintro _ h_403 ⟨F_177, r_0_72, r_1_72, vr_1_72, rfl, hk, hS, _, hL_119, hM⟩
        replace hK := hK.trans hk
        replace hp := hp.kp hk
        replace ho := ho.kp hk
        replace hl := hl.kp hk
        replace hL_15 := hL_15.kp hk
        exact Go.Wk.HA.via (N_21 (F_177, b_47, l_5, r_0_72, r_1_72, b_46, v_5, vr_1_72) _ _ ⟨rfl, rfl, rfl, rfl, rfl, rfl, rfl, rfl, rfl, rfl, rfl, rfl, rfl, rfl, hK, hS, hp, ho, hl, hL_15, hL_119, hM⟩) (fun L_ h_ hL_ ⟨hp, ho, hl, hL_15, hL_119, c201⟩ hs_ => ⟨⟨hp, ho, hl, hL_15, c201⟩, (at_keep 0 rfl hs_ (fun c284 => c284) (Go.Wk.at_nil _ _))⟩)
      · refine HS.eff rfl (want_none) rfl (st_alloc (c := #[.bool false, .slice none 0 0]) hS tz_24 rfl) ?_
        rintro _ h_404 ⟨b_357, rfl, hS, hk⟩
        replace hK := hK.trans hk
        replace hp := hp.kp hk
        replace ho := ho.kp hk
        replace hl := hl.kp hk
        replace hL_15 := hL_15.kp hk
        replace hS : St F_176 (Ow.box b_46 27 (e_api_Addr (false, (default : Ba 16))).toArray :: Ow.box b_357 24 #[.bool false, .slice none 0 0] :: Ow.box b_1 29 (c_acequialaw19_One (.bool xp) vp (.bool xo) vo x_G x_A vl).toArray :: fr) h_404 := hS.perm2 [1, 0, 2] 3 rfl rfl
        exact Go.Wk.HA.via (N_24 (F_176, b_47, l_5, b_46, b_357, v_5) _ _ ⟨rfl, rfl, rfl, rfl, rfl, rfl, rfl, rfl, rfl, rfl, rfl, rfl, rfl, rfl, hK, hS, hp, ho, hl, hL_15, hM⟩) (fun L_ h_ hL_ ⟨hp, ho, hl, hL_15, c201⟩ hs_ => ⟨⟨hp, ho, hl, hL_15, c201⟩, (at_keep 1 rfl hs_ (fun c284 => c284) (Go.Wk.at_nil _ _))⟩)
      · refine HS.eff rfl (want_none) rfl (st_alloc (c := #[.bool false, .slice none 0 0]) hS tz_24 rfl) ?_
        rintro _ h_405 ⟨b_358, rfl, hS, hk⟩
        replace hK := hK.trans hk
        replace hp := hp.kp hk
        replace ho := ho.kp hk
        replace hl := hl.kp hk
        replace hL_15 := hL_15.kp hk
        replace hS : St F_176 (Ow.box b_46 27 (e_api_Addr (false, (default : Ba 16))).toArray :: Ow.box b_358 24 #[.bool false, .slice none 0 0] :: Ow.box b_1 29 (c_acequialaw19_One (.bool xp) vp (.bool xo) vo x_G x_A vl).toArray :: fr) h_405 := hS.perm2 [1, 0, 2] 3 rfl rfl
        exact Go.Wk.HA.via (N_26 (F_176, b_47, l_5, b_46, b_358, v_5) _ _ ⟨rfl, rfl, rfl, rfl, rfl, rfl, rfl, rfl, rfl, rfl, rfl, rfl, rfl, rfl, hK, hS, hp, ho, hl, hL_15, hM⟩) (fun L_ h_ hL_ ⟨hp, ho, hl, hL_15, c201⟩ hs_ => ⟨⟨hp, ho, hl, hL_15, c201⟩, (at_keep 1 rfl hs_ (fun c284 => c284) (Go.Wk.at_nil _ _))⟩)
      · refine HS.eff rfl (want_none) rfl (st_alloc (c := (e_api_Addr (false, (default : Ba 16))).toArray) hS tz_27 rfl) ?_
        rintro _ h_406 ⟨b_359, rfl, hS, hk⟩
        replace hK := hK.trans hk
        replace hp := hp.kp hk
        replace ho := ho.kp hk
        replace hl := hl.kp hk
        replace hL_15 := hL_15.kp hk
        replace hS : St F_176 (Ow.box b_46 27 (e_api_Addr (false, (default : Ba 16))).toArray :: Ow.box b_359 27 (e_api_Addr (false, (default : Ba 16))).toArray :: Ow.box b_1 29 (c_acequialaw19_One (.bool xp) vp (.bool xo) vo x_G x_A vl).toArray :: fr) h_406 := hS.perm2 [1, 0, 2] 3 rfl rfl
        exact Go.Wk.HA.via (N_27 (F_176, b_47, l_5, b_46, b_359, v_5) _ _ ⟨rfl, rfl, rfl, rfl, rfl, rfl, rfl, rfl, rfl, rfl, rfl, rfl, rfl, rfl, hK, hS, hp, ho, hl, hL_15, hM⟩) (fun L_ h_ hL_ ⟨hp, ho, hl, hL_15, c201⟩ hs_ => ⟨⟨hp, ho, hl, hL_15, c201⟩, (at_keep 1 rfl hs_ (fun c284 => c284) (Go.Wk.at_nil _ _))⟩)
    refine HA.node (C1 := fun (i : Fz × Nat × Nat) => match i with | (F', b_51, b_52) => fun h => (SliceIs h 17 e_api_Addr vp yp) ∧ (SliceIs h 17 e_api_Addr vo yo) ∧ (SliceIs h 17 e_api_Addr vl x_L) ∧ (Blk h b_1 (.cells (c_acequialaw19_One (.bool xp) vp (.bool xo) vo x_G x_A vl).toArray 29 (0, 0)))) (cs1 := fun (i : Fz × Nat × Nat) => match i with | (F', b_51, b_52) => [(14, fun h => (Blk h b_52 (.cells #[.bool false, .slice none 0 0] 24 (0, 0)))), (15, fun h => (Blk h b_51 (.cells #[.bool false, .slice none 0 0] 24 (0, 0))))]) (fuel1 := 8) (listed1 := #[true, true, false, true, true, false, true, true, true, true, true, true, false, false, false, false, false, false]) (fun (i : Fz × Nat × Nat) f h => match i with | (F', b_51, b_52) => f 0 = .agg (c_acequialaw19_One (.bool xp) vp (.bool xo) vo x_G x_A vl).toArray ∧ f 1 = .pointer (some ⟨b_1, 0, none⟩) ∧ f 2 = .bool false ∧ f 3 = .pointer (some ⟨b_52, 0, none⟩) ∧ f 4 = .pointer (some ⟨b_51, 0, none⟩) ∧ f 10 = .pointer (some ⟨b_1, 0, none⟩) ∧ f 11 = .agg #[.bool xp, vp] ∧ f 13 = .pointer (some ⟨b_1, 2, none⟩) ∧ f 14 = .agg #[.bool xo, vo] ∧ f 16 = .pointer (some ⟨b_1, 4, none⟩) ∧ f 17 = .agg (e_api_Addr x_G).toArray ∧ f 18 = .pointer (some ⟨b_1, 21, none⟩) ∧ f 19 = .agg (e_api_Addr x_A).toArray ∧ Kp F h0 F' h ∧ St F' (Ow.box b_51 24 #[.bool false, .slice none 0 0] :: Ow.box b_52 24 #[.bool false, .slice none 0 0] :: Ow.box b_1 29 (c_acequialaw19_One (.bool xp) vp (.bool xo) vo x_G x_A vl).toArray :: fr) h ∧ (SliceF F' h 17 e_api_Addr vp yp) ∧ (SliceF F' h 17 e_api_Addr vo yo) ∧ (SliceF F' h 17 e_api_Addr vl x_L) ∧ law19_Few_W xp yp (fun r_0_73 r_1_73 => law19_Few_W xo yo (fun r_0_45 r_1_45 => law19_MergeChanges_j1 x_G x_A Q r_0_73 r_1_73 r_0_45 r_1_45))) ?_ (fun N_36 => ?_)
    · rintro ⟨F_181, b_51, b_52⟩ f_108 h_412 ⟨e0, e1, e2, e3, e4, e10, e11, e13, e14, e16, e17, e18, e19, hK, hS, hp, ho, hl, hM⟩
      refine HA.fr [(0, .agg (c_acequialaw19_One (.bool xp) vp (.bool xo) vo x_G x_A vl).toArray), (1, .pointer (some ⟨b_1, 0, none⟩)), (2, .bool false), (3, .pointer (some ⟨b_52, 0, none⟩)), (4, .pointer (some ⟨b_51, 0, none⟩)), (10, .pointer (some ⟨b_1, 0, none⟩)), (11, .agg #[.bool xp, vp]), (13, .pointer (some ⟨b_1, 2, none⟩)), (14, .agg #[.bool xo, vo]), (16, .pointer (some ⟨b_1, 4, none⟩)), (17, .agg (e_api_Addr x_G).toArray), (18, .pointer (some ⟨b_1, 21, none⟩)), (19, .agg (e_api_Addr x_A).toArray)] ⟨e0, e1, e2, e3, e4, e10, e11, e13, e14, e16, e17, e18, e19, trivial⟩ ?_
      refine HA.three (k := 2) (k' := 12) (k'' := 13) ⟨⟨hp.is, ho.is, hl.is, (hS.box 2 rfl)⟩, (at_now (hS.box 1 rfl) (at_now (hS.box 0 rfl) (Go.Wk.at_nil _ _)))⟩ (by kernel_rfl) ?_ ?_ ?_
      · refine HS.call rfl (want_none) rfl (ec en_9 rfl rfl) (law19_Few_walk (fr := (Ow.box b_51 24 #[.bool false, .slice none 0 0] :: Ow.box b_52 24 #[.bool false, .slice none 0 0] :: Ow.box b_1 29 (c_acequialaw19_One (.bool xp) vp (.bool xo) vo x_G x_A vl).toArray :: fr)) xp yp vp hS hp hM) ?_
        rintro _ h_413 ⟨F_182, r_0_74, r_1_74, vr_1_74, rfl, hk, hS, _, hL_121, hM⟩
        replace hK := hK.trans hk
        replace hp := hp.kp hk
        replace ho := ho.kp hk
        replace hl := hl.kp hk
        exact Go.Wk.HA.via (N_22 (F_182, r_0_74, r_1_74, b_51, b_52, vr_1_74) _ _ ⟨rfl, rfl, rfl, rfl, rfl, rfl, rfl, rfl, rfl, rfl, rfl, rfl, rfl, rfl, hK, hS, hp, ho, hl, hL_121, hM⟩) (fun L_ h_ hL_ ⟨hp, ho, hl, hL_121, c201⟩ hs_ => ⟨⟨hp, ho, hl, c201⟩, (at_keep 0 rfl hs_ (fun c266 => c266) (at_keep 1 rfl hs_ (fun c272 => c272) (Go.Wk.at_nil _ _)))⟩)
      · refine HS.eff rfl (want_none) rfl (st_alloc (c := (e_api_Addr (false, (default : Ba 16))).toArray) hS tz_27 rfl) ?_
        rintro _ h_414 ⟨b_362, rfl, hS, hk⟩
        replace hK := hK.trans hk
        replace hp := hp.kp hk
        replace ho := ho.kp hk
        replace hl := hl.kp hk
        exact Go.Wk.HA.via (N_28 (F_181, b_362, b_51, b_52) _ _ ⟨rfl, rfl, rfl, rfl, rfl, rfl, rfl, rfl, rfl, rfl, rfl, rfl, rfl, rfl, hK, hS, hp, ho, hl, hM⟩) (fun L_ h_ hL_ ⟨hp, ho, hl, c201⟩ hs_ => ⟨⟨hp, ho, hl, c201⟩, (at_keep 0 rfl hs_ (fun c266 => c266) (at_keep 1 rfl hs_ (fun c272 => c272) (Go.Wk.at_nil _ _)))⟩)
      · refine HS.eff rfl (want_none) rfl (st_alloc (c := (e_api_Addr (false, (default : Ba 16))).toArray) hS tz_27 rfl) ?_
        rintro _ h_415 ⟨b_363, rfl, hS, hk⟩
        replace hK := hK.trans hk
        replace hp := hp.kp hk
        replace ho := ho.kp hk
        replace hl := hl.kp hk
        exact Go.Wk.HA.via (N_29 (F_181, b_363, b_51, b_52) _ _ ⟨rfl, rfl, rfl, rfl, rfl, rfl, rfl, rfl, rfl, rfl, rfl, rfl, rfl, rfl, hK, hS, hp, ho, hl, hM⟩) (fun L_ h_ hL_ ⟨hp, ho, hl, c201⟩ hs_ => ⟨⟨hp, ho, hl, c201⟩, (at_keep 0 rfl hs_ (fun c266 => c266) (at_keep 1 rfl hs_ (fun c272 => c272) (Go.Wk.at_nil _ _)))⟩)
    refine HA.node (C1 := fun (i : Fz × Nat × Nat) => match i with | (F', b_55, b_56) => fun h => (SliceIs h 17 e_api_Addr vp yp) ∧ (SliceIs h 17 e_api_Addr vo yo) ∧ (SliceIs h 17 e_api_Addr vl x_L) ∧ (Blk h b_1 (.cells (c_acequialaw19_One (.bool xp) vp (.bool xo) vo x_G x_A vl).toArray 29 (0, 0)))) (cs1 := fun (i : Fz × Nat × Nat) => match i with | (F', b_55, b_56) => [(14, fun h => (Blk h b_56 (.cells #[.bool false, .slice none 0 0] 24 (0, 0)))), (16, fun h => (Blk h b_55 (.cells (e_api_Addr (false, (default : Ba 16))).toArray 27 (0, 0))))]) (fuel1 := 8) (listed1 := #[true, true, false, true, true, false, true, true, true, true, true, false, true, false, false, false, false, false]) (fun (i : Fz × Nat × Nat) f h => match i with | (F', b_55, b_56) => f 0 = .agg (c_acequialaw19_One (.bool xp) vp (.bool xo) vo x_G x_A vl).toArray ∧ f 1 = .pointer (some ⟨b_1, 0, none⟩) ∧ f 2 = .bool false ∧ f 3 = .pointer (some ⟨b_56, 0, none⟩) ∧ f 5 = .pointer (some ⟨b_55, 0, none⟩) ∧ f 10 = .pointer (some ⟨b_1, 0, none⟩) ∧ f 11 = .agg #[.bool xp, vp] ∧ f 13 = .pointer (some ⟨b_1, 2, none⟩) ∧ f 14 = .agg #[.bool xo, vo] ∧ f 16 = .pointer (some ⟨b_1, 4, none⟩) ∧ f 17 = .agg (e_api_Addr x_G).toArray ∧ f 18 = .pointer (some ⟨b_1, 21, none⟩) ∧ f 19 = .agg (e_api_Addr x_A).toArray ∧ Kp F h0 F' h ∧ St F' (Ow.box b_55 27 (e_api_Addr (false, (default : Ba 16))).toArray :: Ow.box b_56 24 #[.bool false, .slice none 0 0] :: Ow.box b_1 29 (c_acequialaw19_One (.bool xp) vp (.bool xo) vo x_G x_A vl).toArray :: fr) h ∧ (SliceF F' h 17 e_api_Addr vp yp) ∧ (SliceF F' h 17 e_api_Addr vo yo) ∧ (SliceF F' h 17 e_api_Addr vl x_L) ∧ law19_Few_W xp yp (fun r_0_75 r_1_75 => law19_Few_W xo yo (fun r_0_47 r_1_47 => law19_MergeChanges_j1 x_G x_A Q r_0_75 r_1_75 r_0_47 r_1_47))) ?_ (fun N_37 => ?_)
    · rintro ⟨F_186, b_55, b_56⟩ f_111 h_421 ⟨e0, e1, e2, e3, e5, e10, e11, e13, e14, e16, e17, e18, e19, hK, hS, hp, ho, hl, hM⟩
      refine HA.fr [(0, .agg (c_acequialaw19_One (.bool xp) vp (.bool xo) vo x_G x_A vl).toArray), (1, .pointer (some ⟨b_1, 0, none⟩)), (2, .bool false), (3, .pointer (some ⟨b_56, 0, none⟩)), (5, .pointer (some ⟨b_55, 0, none⟩)), (10, .pointer (some ⟨b_1, 0, none⟩)), (11, .agg #[.bool xp, vp]), (13, .pointer (some ⟨b_1, 2, none⟩)), (14, .agg #[.bool xo, vo]), (16, .pointer (some ⟨b_1, 4, none⟩)), (17, .agg (e_api_Addr x_G).toArray), (18, .pointer (some ⟨b_1, 21, none⟩)), (19, .agg (e_api_Addr x_A).toArray)] ⟨e0, e1, e2, e3, e5, e10, e11, e13, e14, e16, e17, e18, e19, trivial⟩ ?_
      refine HA.three (k := 2) (k' := 11) (k'' := 13) ⟨⟨hp.is, ho.is, hl.is, (hS.box 2 rfl)⟩, (at_now (hS.box 1 rfl) (at_now (hS.box 0 rfl) (Go.Wk.at_nil _ _)))⟩ (by kernel_rfl) ?_ ?_ ?_
      · refine HS.call rfl (want_none) rfl (ec en_9 rfl rfl) (law19_Few_walk (fr := (Ow.box b_55 27 (e_api_Addr (false, (default : Ba 16))).toArray :: Ow.box b_56 24 #[.bool false, .slice none 0 0] :: Ow.box b_1 29 (c_acequialaw19_One (.bool xp) vp (.bool xo) vo x_G x_A vl).toArray :: fr)) xp yp vp hS hp hM) ?_
        rintro _ h_422 ⟨F_187, r_0_76, r_1_76, vr_1_76, rfl, hk, hS, _, hL_123, hM⟩
        replace hK := hK.trans hk
        replace hp := hp.kp hk
        replace ho := ho.kp hk
        replace hl := hl.kp hk
        exact Go.Wk.HA.via (N_23 (F_187, r_0_76, r_1_76, b_55, b_56, vr_1_76) _ _ ⟨rfl, rfl, rfl, rfl, rfl, rfl, rfl, rfl, rfl, rfl, rfl, rfl, rfl, rfl, hK, hS, hp, ho, hl, hL_123, hM⟩) (fun L_ h_ hL_ ⟨hp, ho, hl, hL_123, c201⟩ hs_ => ⟨⟨hp, ho, hl, c201⟩, (at_keep 0 rfl hs_ (fun c266 => c266) (at_keep 1 rfl hs_ (fun c278 => c278) (Go.Wk.at_nil _ _)))⟩)
      · refine HS.eff rfl (want_none) rfl (st_alloc (c := #[.bool false, .slice none 0 0]) hS tz_24 rfl) ?_
        rintro _ h_423 ⟨b_366, rfl, hS, hk⟩
        replace hK := hK.trans hk
        replace hp := hp.kp hk
        replace ho := ho.kp hk
        replace hl := hl.kp hk
        replace hS : St F_186 (Ow.box b_55 27 (e_api_Addr (false, (default : Ba 16))).toArray :: Ow.box b_366 24 #[.bool false, .slice none 0 0] :: Ow.box b_56 24 #[.bool false, .slice none 0 0] :: Ow.box b_1 29 (c_acequialaw19_One (.bool xp) vp (.bool xo) vo x_G x_A vl).toArray :: fr) h_423 := hS.perm2 [1, 0, 2, 3] 4 rfl rfl
        exact Go.Wk.HA.via (N_28 (F_186, b_55, b_366, b_56) _ _ ⟨rfl, rfl, rfl, rfl, rfl, rfl, rfl, rfl, rfl, rfl, rfl, rfl, rfl, rfl, hK, hS, hp, ho, hl, hM⟩) (fun L_ h_ hL_ ⟨hp, ho, hl, c201⟩ hs_ => ⟨⟨hp, ho, hl, c201⟩, (at_keep 0 rfl hs_ (fun c266 => c266) (at_keep 2 rfl hs_ (fun c278 => c278) (Go.Wk.at_nil _ _)))⟩)
      · refine HS.eff rfl (want_none) rfl (st_alloc (c := (e_api_Addr (false, (default : Ba 16))).toArray) hS tz_27 rfl) ?_
        rintro _ h_424 ⟨b_367, rfl, hS, hk⟩
        replace hK := hK.trans hk
        replace hp := hp.kp hk
        replace ho := ho.kp hk
        replace hl := hl.kp hk
        exact Go.Wk.HA.via (N_30 (F_186, b_367, b_55, b_56) _ _ ⟨rfl, rfl, rfl, rfl, rfl, rfl, rfl, rfl, rfl, rfl, rfl, rfl, rfl, rfl, hK, hS, hp, ho, hl, hM⟩) (fun L_ h_ hL_ ⟨hp, ho, hl, c201⟩ hs_ => ⟨⟨hp, ho, hl, c201⟩, (at_keep 0 rfl hs_ (fun c266 => c266) (at_keep 1 rfl hs_ (fun c278 => c278) (Go.Wk.at_nil _ _)))⟩)
    refine HA.node (C1 := fun (i : Fz × Nat × Nat) => match i with | (F', b_59, b_60) => fun h => (SliceIs h 17 e_api_Addr vp yp) ∧ (SliceIs h 17 e_api_Addr vo yo) ∧ (SliceIs h 17 e_api_Addr vl x_L) ∧ (Blk h b_1 (.cells (c_acequialaw19_One (.bool xp) vp (.bool xo) vo x_G x_A vl).toArray 29 (0, 0)))) (cs1 := fun (i : Fz × Nat × Nat) => match i with | (F', b_59, b_60) => [(14, fun h => (Blk h b_60 (.cells #[.bool false, .slice none 0 0] 24 (0, 0)))), (17, fun h => (Blk h b_59 (.cells (e_api_Addr (false, (default : Ba 16))).toArray 27 (0, 0))))]) (fuel1 := 8) (listed1 := #[true, true, false, true, true, false, true, true, true, true, true, false, false, true, false, false, false, false]) (fun (i : Fz × Nat × Nat) f h => match i with | (F', b_59, b_60) => f 0 = .agg (c_acequialaw19_One (.bool xp) vp (.bool xo) vo x_G x_A vl).toArray ∧ f 1 = .pointer (some ⟨b_1, 0, none⟩) ∧ f 2 = .bool false ∧ f 3 = .pointer (some ⟨b_60, 0, none⟩) ∧ f 6 = .pointer (some ⟨b_59, 0, none⟩) ∧ f 10 = .pointer (some ⟨b_1, 0, none⟩) ∧ f 11 = .agg #[.bool xp, vp] ∧ f 13 = .pointer (some ⟨b_1, 2, none⟩) ∧ f 14 = .agg #[.bool xo, vo] ∧ f 16 = .pointer (some ⟨b_1, 4, none⟩) ∧ f 17 = .agg (e_api_Addr x_G).toArray ∧ f 18 = .pointer (some ⟨b_1, 21, none⟩) ∧ f 19 = .agg (e_api_Addr x_A).toArray ∧ Kp F h0 F' h ∧ St F' (Ow.box b_59 27 (e_api_Addr (false, (default : Ba 16))).toArray :: Ow.box b_60 24 #[.bool false, .slice none 0 0] :: Ow.box b_1 29 (c_acequialaw19_One (.bool xp) vp (.bool xo) vo x_G x_A vl).toArray :: fr) h ∧ (SliceF F' h 17 e_api_Addr vp yp) ∧ (SliceF F' h 17 e_api_Addr vo yo) ∧ (SliceF F' h 17 e_api_Addr vl x_L) ∧ law19_Few_W xp yp (fun r_0_77 r_1_77 => law19_Few_W xo yo (fun r_0_49 r_1_49 => law19_MergeChanges_j1 x_G x_A Q r_0_77 r_1_77 r_0_49 r_1_49))) ?_ (fun N_38 => ?_)
    · rintro ⟨F_191, b_59, b_60⟩ f_114 h_430 ⟨e0, e1, e2, e3, e6, e10, e11, e13, e14, e16, e17, e18, e19, hK, hS, hp, ho, hl, hM⟩
      refine HA.fr [(0, .agg (c_acequialaw19_One (.bool xp) vp (.bool xo) vo x_G x_A vl).toArray), (1, .pointer (some ⟨b_1, 0, none⟩)), (2, .bool false), (3, .pointer (some ⟨b_60, 0, none⟩)), (6, .pointer (some ⟨b_59, 0, none⟩)), (10, .pointer (some ⟨b_1, 0, none⟩)), (11, .agg #[.bool xp, vp]), (13, .pointer (some ⟨b_1, 2, none⟩)), (14, .agg #[.bool xo, vo]), (16, .pointer (some ⟨b_1, 4, none⟩)), (17, .agg (e_api_Addr x_G).toArray), (18, .pointer (some ⟨b_1, 21, none⟩)), (19, .agg (e_api_Addr x_A).toArray)] ⟨e0, e1, e2, e3, e6, e10, e11, e13, e14, e16, e17, e18, e19, trivial⟩ ?_
      refine HA.three (k := 2) (k' := 11) (k'' := 12) ⟨⟨hp.is, ho.is, hl.is, (hS.box 2 rfl)⟩, (at_now (hS.box 1 rfl) (at_now (hS.box 0 rfl) (Go.Wk.at_nil _ _)))⟩ (by kernel_rfl) ?_ ?_ ?_
      · refine HS.call rfl (want_none) rfl (ec en_9 rfl rfl) (law19_Few_walk (fr := (Ow.box b_59 27 (e_api_Addr (false, (default : Ba 16))).toArray :: Ow.box b_60 24 #[.bool false, .slice none 0 0] :: Ow.box b_1 29 (c_acequialaw19_One (.bool xp) vp (.bool xo) vo x_G x_A vl).toArray :: fr)) xp yp vp hS hp hM) ?_
        rintro _ h_431 ⟨F_192, r_0_78, r_1_78, vr_1_78, rfl, hk, hS, _, hL_125, hM⟩
        replace hK := hK.trans hk
        replace hp := hp.kp hk
        replace ho := ho.kp hk
        replace hl := hl.kp hk
        exact Go.Wk.HA.via (N_24 (F_192, r_0_78, r_1_78, b_59, b_60, vr_1_78) _ _ ⟨rfl, rfl, rfl, rfl, rfl, rfl, rfl, rfl, rfl, rfl, rfl, rfl, rfl, rfl, hK, hS, hp, ho, hl, hL_125, hM⟩) (fun L_ h_ hL_ ⟨hp, ho, hl, hL_125, c201⟩ hs_ => ⟨⟨hp, ho, hl, c201⟩, (at_keep 0 rfl hs_ (fun c266 => c266) (at_keep 1 rfl hs_ (fun c284 => c284) (Go.Wk.at_nil _ _)))⟩)
      · refine HS.eff rfl (want_none) rfl (st_alloc (c := #[.bool false, .slice none 0 0]) hS tz_24 rfl) ?_
        rintro _ h_432 ⟨b_370, rfl, hS, hk⟩
        replace hK := hK.trans hk
        replace hp := hp.kp hk
        replace ho := ho.kp hk
        replace hl := hl.kp hk
        replace hS : St F_191 (Ow.box b_59 27 (e_api_Addr (false, (default : Ba 16))).toArray :: Ow.box b_370 24 #[.bool false, .slice none 0 0] :: Ow.box b_60 24 #[.bool false, .slice none 0 0] :: Ow.box b_1 29 (c_acequialaw19_One (.bool xp) vp (.bool xo) vo x_G x_A vl).toArray :: fr) h_432 := hS.perm2 [1, 0, 2, 3] 4 rfl rfl
        exact Go.Wk.HA.via (N_29 (F_191, b_59, b_370, b_60) _ _ ⟨rfl, rfl, rfl, rfl, rfl, rfl, rfl, rfl, rfl, rfl, rfl, rfl, rfl, rfl, hK, hS, hp, ho, hl, hM⟩) (fun L_ h_ hL_ ⟨hp, ho, hl, c201⟩ hs_ => ⟨⟨hp, ho, hl, c201⟩, (at_keep 0 rfl hs_ (fun c266 => c266) (at_keep 2 rfl hs_ (fun c284 => c284) (Go.Wk.at_nil _ _)))⟩)
      · refine HS.eff rfl (want_none) rfl (st_alloc (c := (e_api_Addr (false, (default : Ba 16))).toArray) hS tz_27 rfl) ?_
        rintro _ h_433 ⟨b_371, rfl, hS, hk⟩
        replace hK := hK.trans hk
        replace hp := hp.kp hk
        replace ho := ho.kp hk
        replace hl := hl.kp hk
        replace hS : St F_191 (Ow.box b_59 27 (e_api_Addr (false, (default : Ba 16))).toArray :: Ow.box b_371 27 (e_api_Addr (false, (default : Ba 16))).toArray :: Ow.box b_60 24 #[.bool false, .slice none 0 0] :: Ow.box b_1 29 (c_acequialaw19_One (.bool xp) vp (.bool xo) vo x_G x_A vl).toArray :: fr) h_433 := hS.perm2 [1, 0, 2, 3] 4 rfl rfl
        exact Go.Wk.HA.via (N_30 (F_191, b_59, b_371, b_60) _ _ ⟨rfl, rfl, rfl, rfl, rfl, rfl, rfl, rfl, rfl, rfl, rfl, rfl, rfl, rfl, hK, hS, hp, ho, hl, hM⟩) (fun L_ h_ hL_ ⟨hp, ho, hl, c201⟩ hs_ => ⟨⟨hp, ho, hl, c201⟩, (at_keep 0 rfl hs_ (fun c266 => c266) (at_keep 2 rfl hs_ (fun c284 => c284) (Go.Wk.at_nil _ _)))⟩)
    refine HA.node (C1 := fun (i : Fz × Nat × Nat) => match i with | (F', b_63, b_64) => fun h => (SliceIs h 17 e_api_Addr vp yp) ∧ (SliceIs h 17 e_api_Addr vo yo) ∧ (SliceIs h 17 e_api_Addr vl x_L) ∧ (Blk h b_1 (.cells (c_acequialaw19_One (.bool xp) vp (.bool xo) vo x_G x_A vl).toArray 29 (0, 0)))) (cs1 := fun (i : Fz × Nat × Nat) => match i with | (F', b_63, b_64) => [(15, fun h => (Blk h b_64 (.cells #[.bool false, .slice none 0 0] 24 (0, 0)))), (16, fun h => (Blk h b_63 (.cells (e_api_Addr (false, (default : Ba 16))).toArray 27 (0, 0))))]) (fuel1 := 8) (listed1 := #[true, true, false, true, true, false, true, true, true, true, false, true, true, false, false, false, false, false]) (fun (i : Fz × Nat × Nat) f h => match i with | (F', b_63, b_64) => f 0 = .agg (c_acequialaw19_One (.bool xp) vp (.bool xo) vo x_G x_A vl).toArray ∧ f 1 = .pointer (some ⟨b_1, 0, none⟩) ∧ f 2 = .bool false ∧ f 4 = .pointer (some ⟨b_64, 0, none⟩) ∧ f 5 = .pointer (some ⟨b_63, 0, none⟩) ∧ f 10 = .pointer (some ⟨b_1, 0, none⟩) ∧ f 11 = .agg #[.bool xp, vp] ∧ f 13 = .pointer (some ⟨b_1, 2, none⟩) ∧ f 14 = .agg #[.bool xo, vo] ∧ f 16 = .pointer (some ⟨b_1, 4, none⟩) ∧ f 17 = .agg (e_api_Addr x_G).toArray ∧ f 18 = .pointer (some ⟨b_1, 21, none⟩) ∧ f 19 = .agg (e_api_Addr x_A).toArray ∧ Kp F h0 F' h ∧ St F' (Ow.box b_63 27 (e_api_Addr (false, (default : Ba 16))).toArray :: Ow.box b_64 24 #[.bool false, .slice none 0 0] :: Ow.box b_1 29 (c_acequialaw19_One (.bool xp) vp (.bool xo) vo x_G x_A vl).toArray :: fr) h ∧ (SliceF F' h 17 e_api_Addr vp yp) ∧ (SliceF F' h 17 e_api_Addr vo yo) ∧ (SliceF F' h 17 e_api_Addr vl x_L) ∧ law19_Few_W xp yp (fun r_0_79 r_1_79 => law19_Few_W xo yo (fun r_0_51 r_1_51 => law19_MergeChanges_j1 x_G x_A Q r_0_79 r_1_79 r_0_51 r_1_51))) ?_ (fun N_39 => ?_)
    · rintro ⟨F_196, b_63, b_64⟩ f_117 h_439 ⟨e0, e1, e2, e4, e5, e10, e11, e13, e14, e16, e17, e18, e19, hK, hS, hp, ho, hl, hM⟩
      refine HA.fr [(0, .agg (c_acequialaw19_One (.bool xp) vp (.bool xo) vo x_G x_A vl).toArray), (1, .pointer (some ⟨b_1, 0, none⟩)), (2, .bool false), (4, .pointer (some ⟨b_64, 0, none⟩)), (5, .pointer (some ⟨b_63, 0, none⟩)), (10, .pointer (some ⟨b_1, 0, none⟩)), (11, .agg #[.bool xp, vp]), (13, .pointer (some ⟨b_1, 2, none⟩)), (14, .agg #[.bool xo, vo]), (16, .pointer (some ⟨b_1, 4, none⟩)), (17, .agg (e_api_Addr x_G).toArray), (18, .pointer (some ⟨b_1, 21, none⟩)), (19, .agg (e_api_Addr x_A).toArray)] ⟨e0, e1, e2, e4, e5, e10, e11, e13, e14, e16, e17, e18, e19, trivial⟩ ?_
      refine HA.three (k := 2) (k' := 10) (k'' := 13) ⟨⟨hp.is, ho.is, hl.is, (hS.box 2 rfl)⟩, (at_now (hS.box 1 rfl) (at_now (hS.box 0 rfl) (Go.Wk.at_nil _ _)))⟩ (by kernel_rfl) ?_ ?_ ?_
      · refine HS.call rfl (want_none) rfl (ec en_9 rfl rfl) (law19_Few_walk (fr := (Ow.box b_63 27 (e_api_Addr (false, (default : Ba 16))).toArray :: Ow.box b_64 24 #[.bool false, .slice none 0 0] :: Ow.box b_1 29 (c_acequialaw19_One (.bool xp) vp (.bool xo) vo x_G x_A vl).toArray :: fr)) xp yp vp hS hp hM) ?_
        rintro _ h_440 ⟨F_197, r_0_80, r_1_80, vr_1_80, rfl, hk, hS, _, hL_127, hM⟩
        replace hK := hK.trans hk
        replace hp := hp.kp hk
        replace ho := ho.kp hk
        replace hl := hl.kp hk
        exact Go.Wk.HA.via (N_25 (F_197, r_0_80, r_1_80, b_63, b_64, vr_1_80) _ _ ⟨rfl, rfl, rfl, rfl, rfl, rfl, rfl, rfl, rfl, rfl, rfl, rfl, rfl, rfl, hK, hS, hp, ho, hl, hL_127, hM⟩) (fun L_ h_ hL_ ⟨hp, ho, hl, hL_127, c201⟩ hs_ => ⟨⟨hp, ho, hl, c201⟩, (at_keep 0 rfl hs_ (fun c272 => c272) (at_keep 1 rfl hs_ (fun c278 => c278) (Go.Wk.at_nil _ _)))⟩)
      · refine HS.eff rfl (want_none) rfl (st_alloc (c := #[.bool false, .slice none 0 0]) hS tz_24 rfl) ?_
        rintro _ h_441 ⟨b_374, rfl, hS, hk⟩
        replace hK := hK.trans hk
        replace hp := hp.kp hk
        replace ho := ho.kp hk
        replace hl := hl.kp hk
        replace hS : St F_196 (Ow.box b_63 27 (e_api_Addr (false, (default : Ba 16))).toArray :: Ow.box b_64 24 #[.bool false, .slice none 0 0] :: Ow.box b_374 24 #[.bool false, .slice none 0 0] :: Ow.box b_1 29 (c_acequialaw19_One (.bool xp) vp (.bool xo) vo x_G x_A vl).toArray :: fr) h_441 := hS.perm2 [1, 2, 0, 3] 4 rfl rfl
        exact Go.Wk.HA.via (N_28 (F_196, b_63, b_64, b_374) _ _ ⟨rfl, rfl, rfl, rfl, rfl, rfl, rfl, rfl, rfl, rfl, rfl, rfl, rfl, rfl, hK, hS, hp, ho, hl, hM⟩) (fun L_ h_ hL_ ⟨hp, ho, hl, c201⟩ hs_ => ⟨⟨hp, ho, hl, c201⟩, (at_keep 1 rfl hs_ (fun c272 => c272) (at_keep 2 rfl hs_ (fun c278 => c278) (Go.Wk.at_nil _ _)))⟩)
      · refine HS.eff rfl (want_none) rfl (st_alloc (c := (e_api_Addr (false, (default : Ba 16))).toArray) hS tz_27 rfl) ?_
        rintro _ h_442 ⟨b_375, rfl, hS, hk⟩
        replace hK := hK.trans hk
        replace hp := hp.kp hk
        replace ho := ho.kp hk
        replace hl := hl.kp hk
        exact Go.Wk.HA.via (N_31 (F_196, b_375, b_63, b_64) _ _ ⟨rfl, rfl, rfl, rfl, rfl, rfl, rfl, rfl, rfl, rfl, rfl, rfl, rfl, rfl, hK, hS, hp, ho, hl, hM⟩) (fun L_ h_ hL_ ⟨hp, ho, hl, c201⟩ hs_ => ⟨⟨hp, ho, hl, c201⟩, (at_keep 0 rfl hs_ (fun c272 => c272) (at_keep 1 rfl hs_ (fun c278 => c278) (Go.Wk.at_nil _ _)))⟩)
    refine HA.node (C1 := fun (i : Fz × Nat × Nat) => match i with | (F', b_67, b_68) => fun h => (SliceIs h 17 e_api_Addr vp yp) ∧ (SliceIs h 17 e_api_Addr vo yo) ∧ (SliceIs h 17 e_api_Addr vl x_L) ∧ (Blk h b_1 (.cells (c_acequialaw19_One (.bool xp) vp (.bool xo) vo x_G x_A vl).toArray 29 (0, 0)))) (cs1 := fun (i : Fz × Nat × Nat) => match i with | (F', b_67, b_68) => [(15, fun h => (Blk h b_68 (.cells #[.bool false, .slice none 0 0] 24 (0, 0)))), (17, fun h => (Blk h b_67 (.cells (e_api_Addr (false, (default : Ba 16))).toArray 27 (0, 0))))]) (fuel1 := 8) (listed1 := #[true, true, false, true, true, false, true, true, true, true, false, true, false, true, false, false, false, false]) (fun (i : Fz × Nat × Nat) f h => match i with | (F', b_67, b_68) => f 0 = .agg (c_acequialaw19_One (.bool xp) vp (.bool xo) vo x_G x_A vl).toArray ∧ f 1 = .pointer (some ⟨b_1, 0, none⟩) ∧ f 2 = .bool false ∧ f 4 = .pointer (some ⟨b_68, 0, none⟩) ∧ f 6 = .pointer (some ⟨b_67, 0, none⟩) ∧ f 10 = .pointer (some ⟨b_1, 0, none⟩) ∧ f 11 = .agg #[.bool xp, vp] ∧ f 13 = .pointer (some ⟨b_1, 2, none⟩) ∧ f 14 = .agg #[.bool xo, vo] ∧ f 16 = .pointer (some ⟨b_1, 4, none⟩) ∧ f 17 = .agg (e_api_Addr x_G).toArray ∧ f 18 = .pointer (some ⟨b_1, 21, none⟩) ∧ f 19 = .agg (e_api_Addr x_A).toArray ∧ Kp F h0 F' h ∧ St F' (Ow.box b_67 27 (e_api_Addr (false, (default : Ba 16))).toArray :: Ow.box b_68 24 #[.bool false, .slice none 0 0] :: Ow.box b_1 29 (c_acequialaw19_One (.bool xp) vp (.bool xo) vo x_G x_A vl).toArray :: fr) h ∧ (SliceF F' h 17 e_api_Addr vp yp) ∧ (SliceF F' h 17 e_api_Addr vo yo) ∧ (SliceF F' h 17 e_api_Addr vl x_L) ∧ law19_Few_W xp yp (fun r_0_81 r_1_81 => law19_Few_W xo yo (fun r_0_53 r_1_53 => law19_MergeChanges_j1 x_G x_A Q r_0_81 r_1_81 r_0_53 r_1_53))) ?_ (fun N_40 => ?_)
    · rintro ⟨F_201, b_67, b_68⟩ f_120 h_448 ⟨e0, e1, e2, e4, e6, e10, e11, e13, e14, e16, e17, e18, e19, hK, hS, hp, ho, hl, hM⟩
      refine HA.fr [(0, .agg (c_acequialaw19_One (.bool xp) vp (.bool xo) vo x_G x_A vl).toArray), (1, .pointer (some ⟨b_1, 0, none⟩)), (2, .bool false), (4, .pointer (some ⟨b_68, 0, none⟩)), (6, .pointer (some ⟨b_67, 0, none⟩)), (10, .pointer (some ⟨b_1, 0, none⟩)), (11, .agg #[.bool xp, vp]), (13, .pointer (some ⟨b_1, 2, none⟩)), (14, .agg #[.bool xo, vo]), (16, .pointer (some ⟨b_1, 4, none⟩)), (17, .agg (e_api_Addr x_G).toArray), (18, .pointer (some ⟨b_1, 21, none⟩)), (19, .agg (e_api_Addr x_A).toArray)] ⟨e0, e1, e2, e4, e6, e10, e11, e13, e14, e16, e17, e18, e19, trivial⟩ ?_
      refine HA.three (k := 2) (k' := 10) (k'' := 12) ⟨⟨hp.is, ho.is, hl.is, (hS.box 2 rfl)⟩, (at_now (hS.box 1 rfl) (at_now (hS.box 0 rfl) (Go.Wk.at_nil _ _)))⟩ (by kernel_rfl) ?_ ?_ ?_
      · refine HS.call rfl (want_none) rfl (ec en_9 rfl rfl) (law19_Few_walk (fr := (Ow.box b_67 27 (e_api_Addr (false, (default : Ba 16))).toArray :: Ow.box b_68 24 #[.bool false, .slice none 0 0] :: Ow.box b_1 29 (c_acequialaw19_One (.bool xp) vp (.bool xo) vo x_G x_A vl).toArray :: fr)) xp yp vp hS hp hM) ?_
        rintro _ h_449 ⟨F_202, r_0_82, r_1_82, vr_1_82, rfl, hk, hS, _, hL_129, hM⟩
        replace hK := hK.trans hk
        replace hp := hp.kp hk
        replace ho := ho.kp hk
        replace hl := hl.kp hk
        exact Go.Wk.HA.via (N_26 (F_202, r_0_82, r_1_82, b_67, b_68, vr_1_82) _ _ ⟨rfl, rfl, rfl, rfl, rfl, rfl, rfl, rfl, rfl, rfl, rfl, rfl, rfl, rfl, hK, hS, hp, ho, hl, hL_129, hM⟩) (fun L_ h_ hL_ ⟨hp, ho, hl, hL_129, c201⟩ hs_ => ⟨⟨hp, ho, hl, c201⟩, (at_keep 0 rfl hs_ (fun c272 => c272) (at_keep 1 rfl hs_ (fun c284 => c284) (Go.Wk.at_nil _ _)))⟩)
      · refine HS.eff rfl (want_none) rfl (st_alloc (c := #[.bool false, .slice none 0 0]) hS tz_24 rfl) ?_
        rintro _ h_450 ⟨b_378, rfl, hS, hk⟩
        replace hK := hK.trans hk
        replace hp := hp.kp hk
        replace ho := ho.kp hk
        replace hl := hl.kp hk
        replace hS : St F_201 (Ow.box b_67 27 (e_api_Addr (false, (default : Ba 16))).toArray :: Ow.box b_68 24 #[.bool false, .slice none 0 0] :: Ow.box b_378 24 #[.bool false, .slice none 0 0] :: Ow.box b_1 29 (c_acequialaw19_One (.bool xp) vp (.bool xo) vo x_G x_A vl).toArray :: fr) h_450 := hS.perm2 [1, 2, 0, 3] 4 rfl rfl
        exact Go.Wk.HA.via (N_29 (F_201, b_67, b_68, b_378) _ _ ⟨rfl, rfl, rfl, rfl, rfl, rfl, rfl, rfl, rfl, rfl, rfl, rfl, rfl, rfl, hK, hS, hp, ho, hl, hM⟩) (fun L_ h_ hL_ ⟨hp, ho, hl, c201⟩ hs_ => ⟨⟨hp, ho, hl, c201⟩, (at_keep 1 rfl hs_ (fun c272 => c272) (at_keep 2 rfl hs_ (fun c284 => c284) (Go.Wk.at_nil _ _)))⟩)
      · refine HS.eff rfl (want_none) rfl (st_alloc (c := (e_api_Addr (false, (default : Ba 16))).toArray) hS tz_27 rfl) ?_
        rintro _ h_451 ⟨b_379, rfl, hS, hk⟩
        replace hK := hK.trans hk
        replace hp := hp.kp hk
        replace ho := ho.kp hk
        replace hl := hl.kp hk
        replace hS : St F_201 (Ow.box b_67 27 (e_api_Addr (false, (default : Ba 16))).toArray :: Ow.box b_379 27 (e_api_Addr (false, (default : Ba 16))).toArray :: Ow.box b_68 24 #[.bool false, .slice none 0 0] :: Ow.box b_1 29 (c_acequialaw19_One (.bool xp) vp (.bool xo) vo x_G x_A vl).toArray :: fr) h_451 := hS.perm2 [1, 0, 2, 3] 4 rfl rfl
        exact Go.Wk.HA.via (N_31 (F_201, b_67, b_379, b_68) _ _ ⟨rfl, rfl, rfl, rfl, rfl, rfl, rfl, rfl, rfl, rfl, rfl, rfl, rfl, rfl, hK, hS, hp, ho, hl, hM⟩) (fun L_ h_ hL_ ⟨hp, ho, hl, c201⟩ hs_ => ⟨⟨hp, ho, hl, c201⟩, (at_keep 0 rfl hs_ (fun c272 => c272) (at_keep 2 rfl hs_ (fun c284 => c284) (Go.Wk.at_nil _ _)))⟩)
    refine HA.node (C1 := fun (i : Fz × Nat × Nat) => match i with | (F', b_71, b_72) => fun h => (SliceIs h 17 e_api_Addr vp yp) ∧ (SliceIs h 17 e_api_Addr vo yo) ∧ (SliceIs h 17 e_api_Addr vl x_L) ∧ (Blk h b_1 (.cells (c_acequialaw19_One (.bool xp) vp (.bool xo) vo x_G x_A vl).toArray 29 (0, 0)))) (cs1 := fun (i : Fz × Nat × Nat) => match i with | (F', b_71, b_72) => [(16, fun h => (Blk h b_72 (.cells (e_api_Addr (false, (default : Ba 16))).toArray 27 (0, 0)))), (17, fun h => (Blk h b_71 (.cells (e_api_Addr (false, (default : Ba 16))).toArray 27 (0, 0))))]) (fuel1 := 8) (listed1 := #[true, true, false, true, true, false, true, true, true, true, false, false, true, true, false, false, false, false]) (fun (i : Fz × Nat × Nat) f h => match i with | (F', b_71, b_72) => f 0 = .agg (c_acequialaw19_One (.bool xp) vp (.bool xo) vo x_G x_A vl).toArray ∧ f 1 = .pointer (some ⟨b_1, 0, none⟩) ∧ f 2 = .bool false ∧ f 5 = .pointer (some ⟨b_72, 0, none⟩) ∧ f 6 = .pointer (some ⟨b_71, 0, none⟩) ∧ f 10 = .pointer (some ⟨b_1, 0, none⟩) ∧ f 11 = .agg #[.bool xp, vp] ∧ f 13 = .pointer (some ⟨b_1, 2, none⟩) ∧ f 14 = .agg #[.bool xo, vo] ∧ f 16 = .pointer (some ⟨b_1, 4, none⟩) ∧ f 17 = .agg (e_api_Addr x_G).toArray ∧ f 18 = .pointer (some ⟨b_1, 21, none⟩) ∧ f 19 = .agg (e_api_Addr x_A).toArray ∧ Kp F h0 F' h ∧ St F' (Ow.box b_71 27 (e_api_Addr (false, (default : Ba 16))).toArray :: Ow.box b_72 27 (e_api_Addr (false, (default : Ba 16))).toArray :: Ow.box b_1 29 (c_acequialaw19_One (.bool xp) vp (.bool xo) vo x_G x_A vl).toArray :: fr) h ∧ (SliceF F' h 17 e_api_Addr vp yp) ∧ (SliceF F' h 17 e_api_Addr vo yo) ∧ (SliceF F' h 17 e_api_Addr vl x_L) ∧ law19_Few_W xp yp (fun r_0_83 r_1_83 => law19_Few_W xo yo (fun r_0_55 r_1_55 => law19_MergeChanges_j1 x_G x_A Q r_0_83 r_1_83 r_0_55 r_1_55))) ?_ (fun N_41 => ?_)
    · rintro ⟨F_206, b_71, b_72⟩ f_123 h_457 ⟨e0, e1, e2, e5, e6, e10, e11, e13, e14, e16, e17, e18, e19, hK, hS, hp, ho, hl, hM⟩
      refine HA.fr [(0, .agg (c_acequialaw19_One (.bool xp) vp (.bool xo) vo x_G x_A vl).toArray), (1, .pointer (some ⟨b_1, 0, none⟩)), (2, .bool false), (5, .pointer (some ⟨b_72, 0, none⟩)), (6, .pointer (some ⟨b_71, 0, none⟩)), (10, .pointer (some ⟨b_1, 0, none⟩)), (11, .agg #[.bool xp, vp]), (13, .pointer (some ⟨b_1, 2, none⟩)), (14, .agg #[.bool xo, vo]), (16, .pointer (some ⟨b_1, 4, none⟩)), (17, .agg (e_api_Addr x_G).toArray), (18, .pointer (some ⟨b_1, 21, none⟩)), (19, .agg (e_api_Addr x_A).toArray)] ⟨e0, e1, e2, e5, e6, e10, e11, e13, e14, e16, e17, e18, e19, trivial⟩ ?_
      refine HA.three (k := 2) (k' := 10) (k'' := 11) ⟨⟨hp.is, ho.is, hl.is, (hS.box 2 rfl)⟩, (at_now (hS.box 1 rfl) (at_now (hS.box 0 rfl) (Go.Wk.at_nil _ _)))⟩ (by kernel_rfl) ?_ ?_ ?_
      · refine HS.call rfl (want_none) rfl (ec en_9 rfl rfl) (law19_Few_walk (fr := (Ow.box b_71 27 (e_api_Addr (false, (default : Ba 16))).toArray :: Ow.box b_72 27 (e_api_Addr (false, (default : Ba 16))).toArray :: Ow.box b_1 29 (c_acequialaw19_One (.bool xp) vp (.bool xo) vo x_G x_A vl).toArray :: fr)) xp yp vp hS hp hM) ?_
        rintro _ h_458 ⟨F_207, r_0_84, r_1_84, vr_1_84, rfl, hk, hS, _, hL_131, hM⟩
        replace hK := hK.trans hk
        replace hp := hp.kp hk
        replace ho := ho.kp hk
        replace hl := hl.kp hk
        exact Go.Wk.HA.via (N_27 (F_207, r_0_84, r_1_84, b_71, b_72, vr_1_84) _ _ ⟨rfl, rfl, rfl, rfl, rfl, rfl, rfl, rfl, rfl, rfl, rfl, rfl, rfl, rfl, hK, hS, hp, ho, hl, hL_131, hM⟩) (fun L_ h_ hL_ ⟨hp, ho, hl, hL_131, c201⟩ hs_ => ⟨⟨hp, ho, hl, c201⟩, (at_keep 0 rfl hs_ (fun c278 => c278) (at_keep 1 rfl hs_ (fun c284 => c284) (Go.Wk.at_nil _ _)))⟩)
      · refine HS.eff rfl (want_none) rfl (st_alloc (c := #[.bool false, .slice none 0 0]) hS tz_24 rfl) ?_
        rintro _ h_459 ⟨b_382, rfl, hS, hk⟩
        replace hK := hK.trans hk
        replace hp := hp.kp hk
        replace ho := ho.kp hk
        replace hl := hl.kp hk
        replace hS : St F_206 (Ow.box b_71 27 (e_api_Addr (false, (default : Ba 16))).toArray :: Ow.box b_72 27 (e_api_Addr (false, (default : Ba 16))).toArray :: Ow.box b_382 24 #[.bool false, .slice none 0 0] :: Ow.box b_1 29 (c_acequialaw19_One (.bool xp) vp (.bool xo) vo x_G x_A vl).toArray :: fr) h_459 := hS.perm2 [1, 2, 0, 3] 4 rfl rfl
        exact Go.Wk.HA.via (N_30 (F_206, b_71, b_72, b_382) _ _ ⟨rfl, rfl, rfl, rfl, rfl, rfl, rfl, rfl, rfl, rfl, rfl, rfl, rfl, rfl, hK, hS, hp, ho, hl, hM⟩) (fun L_ h_ hL_ ⟨hp, ho, hl, c201⟩ hs_ => ⟨⟨hp, ho, hl, c201⟩, (at_keep 1 rfl hs_ (fun c278 => c278) (at_keep 2 rfl hs_ (fun c284 => c284) (Go.Wk.at_nil _ _)))⟩)
      · refine HS.eff rfl (want_none) rfl (st_alloc (c := #[.bool false, .slice none 0 0]) hS tz_24 rfl) ?_
        rintro _ h_460 ⟨b_383, rfl, hS, hk⟩
        replace hK := hK.trans hk
        replace hp := hp.kp hk
        replace ho := ho.kp hk
        replace hl := hl.kp hk
        replace hS : St F_206 (Ow.box b_71 27 (e_api_Addr (false, (default : Ba 16))).toArray :: Ow.box b_72 27 (e_api_Addr (false, (default : Ba 16))).toArray :: Ow.box b_383 24 #[.bool false, .slice none 0 0] :: Ow.box b_1 29 (c_acequialaw19_One (.bool xp) vp (.bool xo) vo x_G x_A vl).toArray :: fr) h_460 := hS.perm2 [1, 2, 0, 3] 4 rfl rfl
        exact Go.Wk.HA.via (N_31 (F_206, b_71, b_72, b_383) _ _ ⟨rfl, rfl, rfl, rfl, rfl, rfl, rfl, rfl, rfl, rfl, rfl, rfl, rfl, rfl, hK, hS, hp, ho, hl, hM⟩) (fun L_ h_ hL_ ⟨hp, ho, hl, c201⟩ hs_ => ⟨⟨hp, ho, hl, c201⟩, (at_keep 1 rfl hs_ (fun c278 => c278) (at_keep 2 rfl hs_ (fun c284 => c284) (Go.Wk.at_nil _ _)))⟩)
    refine HA.five (k := 2) (k' := 10) (k'' := 11) (k''' := 12) (k'''' := 13) ⟨(hS.box 0 rfl), (Go.Wk.at_nil _ _)⟩ (by kernel_rfl) ?_ ?_ ?_ ?_ ?_
    · refine HS.call rfl (want_none) rfl (ec en_9 rfl rfl) (law19_Few_walk (fr := (Ow.box b_1 29 (c_acequialaw19_One (.bool xp) vp (.bool xo) vo x_G x_A vl).toArray :: fr)) xp yp vp hS hp hM) ?_
      rintro _ h_461 ⟨F_208, r_0_85, r_1_85, vr_1_85, rfl, hk, hS, _, hL_132, hM⟩
      replace hK := hK.trans hk
      replace hp := hp.kp hk
      replace ho := ho.kp hk
      replace hl := hl.kp hk
      refine HA.five (k := 5) (k' := 10) (k'' := 11) (k''' := 12) (k'''' := 13) ⟨(hS.box 0 rfl), (Go.Wk.at_nil _ _)⟩ (by kernel_rfl) ?_ ?_ ?_ ?_ ?_
      · refine HS.call rfl (want_none) rfl (ec en_9 rfl rfl) (law19_Few_walk (fr := (Ow.box b_1 29 (c_acequialaw19_One (.bool xp) vp (.bool xo) vo x_G x_A vl).toArray :: fr)) xo yo vo hS ho hM) ?_
        rintro _ h_462 ⟨F_209, r_0_86, r_1_86, vr_1_86, rfl, hk, hS, _, hL_133, hM⟩
        replace hK := hK.trans hk
        replace hp := hp.kp hk
        replace ho := ho.kp hk
        replace hl := hl.kp hk
        replace hL_132 := hL_132.kp hk
        refine HA.four (k := 10) (k' := 11) (k'' := 12) (k''' := 13) ⟨(hS.box 0 rfl), (Go.Wk.at_nil _ _)⟩ (by kernel_rfl) ?_ ?_ ?_ ?_
        · refine HS.eff rfl (want_none) rfl (st_alloc (c := #[.bool false, .slice none 0 0]) hS tz_24 rfl) ?_
          rintro _ h_463 ⟨b_384, rfl, hS, hk⟩
          replace hK := hK.trans hk
          replace hp := hp.kp hk
          replace ho := ho.kp hk
          replace hl := hl.kp hk
          replace hL_132 := hL_132.kp hk
          replace hL_133 := hL_133.kp hk
          exact Go.Wk.HA.via (N_18 (F_209, r_0_85, r_1_85, r_0_86, r_1_86, b_384, vr_1_85, vr_1_86) _ _ ⟨rfl, rfl, rfl, rfl, rfl, rfl, rfl, rfl, rfl, rfl, rfl, rfl, rfl, rfl, hK, hS, hp, ho, hl, hL_132, hL_133, hM⟩) (fun L_ h_ hL_ ⟨hp, ho, hl, hL_132, hL_133, c201⟩ hs_ => ⟨c201, (Go.Wk.at_nil _ _)⟩)
        · refine HS.eff rfl (want_none) rfl (st_alloc (c := #[.bool false, .slice none 0 0]) hS tz_24 rfl) ?_
          rintro _ h_464 ⟨b_385, rfl, hS, hk⟩
          replace hK := hK.trans hk
          replace hp := hp.kp hk
          replace ho := ho.kp hk
          replace hl := hl.kp hk
          replace hL_132 := hL_132.kp hk
          replace hL_133 := hL_133.kp hk
          exact Go.Wk.HA.via (N_19 (F_209, r_0_85, r_1_85, r_0_86, r_1_86, b_385, vr_1_85, vr_1_86) _ _ ⟨rfl, rfl, rfl, rfl, rfl, rfl, rfl, rfl, rfl, rfl, rfl, rfl, rfl, rfl, hK, hS, hp, ho, hl, hL_132, hL_133, hM⟩) (fun L_ h_ hL_ ⟨hp, ho, hl, hL_132, hL_133, c201⟩ hs_ => ⟨c201, (Go.Wk.at_nil _ _)⟩)
        · refine HS.eff rfl (want_none) rfl (st_alloc (c := (e_api_Addr (false, (default : Ba 16))).toArray) hS tz_27 rfl) ?_
          rintro _ h_465 ⟨b_386, rfl, hS, hk⟩
          replace hK := hK.trans hk
          replace hp := hp.kp hk
          replace ho := ho.kp hk
          replace hl := hl.kp hk
          replace hL_132 := hL_132.kp hk
          replace hL_133 := hL_133.kp hk
          exact Go.Wk.HA.via (N_20 (F_209, r_0_85, r_1_85, r_0_86, r_1_86, b_386, vr_1_85, vr_1_86) _ _ ⟨rfl, rfl, rfl, rfl, rfl, rfl, rfl, rfl, rfl, rfl, rfl, rfl, rfl, rfl, hK, hS, hp, ho, hl, hL_132, hL_133, hM⟩) (fun L_ h_ hL_ ⟨hp, ho, hl, hL_132, hL_133, c201⟩ hs_ => ⟨c201, (Go.Wk.at_nil _ _)⟩)
        · refine HS.eff rfl (want_none) rfl (st_alloc (c := (e_api_Addr (false, (default : Ba 16))).toArray) hS tz_27 rfl) ?_
          rintro _ h_466 ⟨b_387, rfl, hS, hk⟩
          replace hK := hK.trans hk
          replace hp := hp.kp hk
          replace ho := ho.kp hk
          replace hl := hl.kp hk
          replace hL_132 := hL_132.kp hk
          replace hL_133 := hL_133.kp hk
          exact Go.Wk.HA.via (N_21 (F_209, r_0_85, r_1_85, r_0_86, r_1_86, b_387, vr_1_85, vr_1_86) _ _ ⟨rfl, rfl, rfl, rfl, rfl, rfl, rfl, rfl, rfl, rfl, rfl, rfl, rfl, rfl, hK, hS, hp, ho, hl, hL_132, hL_133, hM⟩) (fun L_ h_ hL_ ⟨hp, ho, hl, hL_132, hL_133, c201⟩ hs_ => ⟨c201, (Go.Wk.at_nil _ _)⟩)
      · refine HS.eff rfl (want_none) rfl (st_alloc (c := #[.bool false, .slice none 0 0]) hS tz_24 rfl) ?_
        rintro _ h_467 ⟨b_388, rfl, hS, hk⟩
        replace hK := hK.trans hk
        replace hp := hp.kp hk
        replace ho := ho.kp hk
        replace hl := hl.kp hk
        replace hL_132 := hL_132.kp hk
        exact Go.Wk.HA.via (N_32 (F_208, r_0_85, r_1_85, b_388, vr_1_85) _ _ ⟨rfl, rfl, rfl, rfl, rfl, rfl, rfl, rfl, rfl, rfl, rfl, rfl, rfl, hK, hS, hp, ho, hl, hL_132, hM⟩) (fun L_ h_ hL_ ⟨hp, ho, hl, hL_132, c201⟩ hs_ => ⟨c201, (Go.Wk.at_nil _ _)⟩)
      · refine HS.eff rfl (want_none) rfl (st_alloc (c := #[.bool false, .slice none 0 0]) hS tz_24 rfl) ?_
        rintro _ h_468 ⟨b_389, rfl, hS, hk⟩
        replace hK := hK.trans hk
        replace hp := hp.kp hk
        replace ho := ho.kp hk
        replace hl := hl.kp hk
        replace hL_132 := hL_132.kp hk
        exact Go.Wk.HA.via (N_33 (F_208, r_0_85, r_1_85, b_389, vr_1_85) _ _ ⟨rfl, rfl, rfl, rfl, rfl, rfl, rfl, rfl, rfl, rfl, rfl, rfl, rfl, hK, hS, hp, ho, hl, hL_132, hM⟩) (fun L_ h_ hL_ ⟨hp, ho, hl, hL_132, c201⟩ hs_ => ⟨c201, (Go.Wk.at_nil _ _)⟩)
      · refine HS.eff rfl (want_none) rfl (st_alloc (c := (e_api_Addr (false, (default : Ba 16))).toArray) hS tz_27 rfl) ?_
        rintro _ h_469 ⟨b_390, rfl, hS, hk⟩
        replace hK := hK.trans hk
        replace hp := hp.kp hk
        replace ho := ho.kp hk
        replace hl := hl.kp hk
        replace hL_132 := hL_132.kp hk
        exact Go.Wk.HA.via (N_34 (F_208, r_0_85, r_1_85, b_390, vr_1_85) _ _ ⟨rfl, rfl, rfl, rfl, rfl, rfl, rfl, rfl, rfl, rfl, rfl, rfl, rfl, hK, hS, hp, ho, hl, hL_132, hM⟩) (fun L_ h_ hL_ ⟨hp, ho, hl, hL_132, c201⟩ hs_ => ⟨c201, (Go.Wk.at_nil _ _)⟩)
      · refine HS.eff rfl (want_none) rfl (st_alloc (c := (e_api_Addr (false, (default : Ba 16))).toArray) hS tz_27 rfl) ?_
        rintro _ h_470 ⟨b_391, rfl, hS, hk⟩
        replace hK := hK.trans hk
        replace hp := hp.kp hk
        replace ho := ho.kp hk
        replace hl := hl.kp hk
        replace hL_132 := hL_132.kp hk
        exact Go.Wk.HA.via (N_35 (F_208, r_0_85, r_1_85, b_391, vr_1_85) _ _ ⟨rfl, rfl, rfl, rfl, rfl, rfl, rfl, rfl, rfl, rfl, rfl, rfl, rfl, hK, hS, hp, ho, hl, hL_132, hM⟩) (fun L_ h_ hL_ ⟨hp, ho, hl, hL_132, c201⟩ hs_ => ⟨c201, (Go.Wk.at_nil _ _)⟩)
    · refine HS.eff rfl (want_none) rfl (st_alloc (c := #[.bool false, .slice none 0 0]) hS tz_24 rfl) ?_
      rintro _ h_471 ⟨b_392, rfl, hS, hk⟩
      replace hK := hK.trans hk
      replace hp := hp.kp hk
      replace ho := ho.kp hk
      replace hl := hl.kp hk
      refine HA.four (k := 2) (k' := 11) (k'' := 12) (k''' := 13) ⟨(hS.box 1 rfl), (Go.Wk.at_nil _ _)⟩ (by kernel_rfl) ?_ ?_ ?_ ?_
      · refine HS.call rfl (want_none) rfl (ec en_9 rfl rfl) (law19_Few_walk (fr := (Ow.box b_392 24 #[.bool false, .slice none 0 0] :: Ow.box b_1 29 (c_acequialaw19_One (.bool xp) vp (.bool xo) vo x_G x_A vl).toArray :: fr)) xp yp vp hS hp hM) ?_
        rintro _ h_472 ⟨F_210, r_0_87, r_1_87, vr_1_87, rfl, hk, hS, _, hL_134, hM⟩
        replace hK := hK.trans hk
        replace hp := hp.kp hk
        replace ho := ho.kp hk
        replace hl := hl.kp hk
        exact Go.Wk.HA.via (N_32 (F_210, r_0_87, r_1_87, b_392, vr_1_87) _ _ ⟨rfl, rfl, rfl, rfl, rfl, rfl, rfl, rfl, rfl, rfl, rfl, rfl, rfl, hK, hS, hp, ho, hl, hL_134, hM⟩) (fun L_ h_ hL_ ⟨hp, ho, hl, hL_134, c201⟩ hs_ => ⟨c201, (Go.Wk.at_nil _ _)⟩)
      · refine HS.eff rfl (want_none) rfl (st_alloc (c := #[.bool false, .slice none 0 0]) hS tz_24 rfl) ?_
        rintro _ h_473 ⟨b_393, rfl, hS, hk⟩
        replace hK := hK.trans hk
        replace hp := hp.kp hk
        replace ho := ho.kp hk
        replace hl := hl.kp hk
        exact Go.Wk.HA.via (N_36 (F, b_393, b_392) _ _ ⟨rfl, rfl, rfl, rfl, rfl, rfl, rfl, rfl, rfl, rfl, rfl, rfl, rfl, hK, hS, hp, ho, hl, hM⟩) (fun L_ h_ hL_ ⟨hp, ho, hl, c201⟩ hs_ => ⟨c201, (Go.Wk.at_nil _ _)⟩)
      · refine HS.eff rfl (want_none) rfl (st_alloc (c := (e_api_Addr (false, (default : Ba 16))).toArray) hS tz_27 rfl) ?_
        rintro _ h_474 ⟨b_394, rfl, hS, hk⟩
        replace hK := hK.trans hk
        replace hp := hp.kp hk
        replace ho := ho.kp hk
        replace hl := hl.kp hk
        exact Go.Wk.HA.via (N_37 (F, b_394, b_392) _ _ ⟨rfl, rfl, rfl, rfl, rfl, rfl, rfl, rfl, rfl, rfl, rfl, rfl, rfl, hK, hS, hp, ho, hl, hM⟩) (fun L_ h_ hL_ ⟨hp, ho, hl, c201⟩ hs_ => ⟨c201, (Go.Wk.at_nil _ _)⟩)
      · refine HS.eff rfl (want_none) rfl (st_alloc (c := (e_api_Addr (false, (default : Ba 16))).toArray) hS tz_27 rfl) ?_
        rintro _ h_475 ⟨b_395, rfl, hS, hk⟩
        replace hK := hK.trans hk
        replace hp := hp.kp hk
        replace ho := ho.kp hk
        replace hl := hl.kp hk
        exact Go.Wk.HA.via (N_38 (F, b_395, b_392) _ _ ⟨rfl, rfl, rfl, rfl, rfl, rfl, rfl, rfl, rfl, rfl, rfl, rfl, rfl, hK, hS, hp, ho, hl, hM⟩) (fun L_ h_ hL_ ⟨hp, ho, hl, c201⟩ hs_ => ⟨c201, (Go.Wk.at_nil _ _)⟩)
    · refine HS.eff rfl (want_none) rfl (st_alloc (c := #[.bool false, .slice none 0 0]) hS tz_24 rfl) ?_
      rintro _ h_476 ⟨b_396, rfl, hS, hk⟩
      replace hK := hK.trans hk
      replace hp := hp.kp hk
      replace ho := ho.kp hk
      replace hl := hl.kp hk
      refine HA.four (k := 2) (k' := 10) (k'' := 12) (k''' := 13) ⟨(hS.box 1 rfl), (Go.Wk.at_nil _ _)⟩ (by kernel_rfl) ?_ ?_ ?_ ?_
      · refine HS.call rfl (want_none) rfl (ec en_9 rfl rfl) (law19_Few_walk (fr := (Ow.box b_396 24 #[.bool false, .slice none 0 0] :: Ow.box b_1 29 (c_acequialaw19_One (.bool xp) vp (.bool xo) vo x_G x_A vl).toArray :: fr)) xp yp vp hS hp hM) ?_
        rintro _ h_477 ⟨F_211, r_0_88, r_1_88, vr_1_88, rfl, hk, hS, _, hL_135, hM⟩
        replace hK := hK.trans hk
        replace hp := hp.kp hk
        replace ho := ho.kp hk
        replace hl := hl.kp hk
        exact Go.Wk.HA.via (N_33 (F_211, r_0_88, r_1_88, b_396, vr_1_88) _ _ ⟨rfl, rfl, rfl, rfl, rfl, rfl, rfl, rfl, rfl, rfl, rfl, rfl, rfl, hK, hS, hp, ho, hl, hL_135, hM⟩) (fun L_ h_ hL_ ⟨hp, ho, hl, hL_135, c201⟩ hs_ => ⟨c201, (Go.Wk.at_nil _ _)⟩)
      · refine HS.eff rfl (want_none) rfl (st_alloc (c := #[.bool false, .slice none 0 0]) hS tz_24 rfl) ?_
        rintro _ h_478 ⟨b_397, rfl, hS, hk⟩
        replace hK := hK.trans hk
        replace hp := hp.kp hk
        replace ho := ho.kp hk
        replace hl := hl.kp hk
        replace hS : St F (Ow.box b_396 24 #[.bool false, .slice none 0 0] :: Ow.box b_397 24 #[.bool false, .slice none 0 0] :: Ow.box b_1 29 (c_acequialaw19_One (.bool xp) vp (.bool xo) vo x_G x_A vl).toArray :: fr) h_478 := hS.perm2 [1, 0, 2] 3 rfl rfl
        exact Go.Wk.HA.via (N_36 (F, b_396, b_397) _ _ ⟨rfl, rfl, rfl, rfl, rfl, rfl, rfl, rfl, rfl, rfl, rfl, rfl, rfl, hK, hS, hp, ho, hl, hM⟩) (fun L_ h_ hL_ ⟨hp, ho, hl, c201⟩ hs_ => ⟨c201, (Go.Wk.at_nil _ _)⟩)
      · refine HS.eff rfl (want_none) rfl (st_alloc (c := (e_api_Addr (false, (default : Ba 16))).toArray) hS tz_27 rfl) ?_
        rintro _ h_479 ⟨b_398, rfl, hS, hk⟩
        replace hK := hK.trans hk
        replace hp := hp.kp hk
        replace ho := ho.kp hk
        replace hl := hl.kp hk
        exact Go.Wk.HA.via (N_39 (F, b_398, b_396) _ _ ⟨rfl, rfl, rfl, rfl, rfl, rfl, rfl, rfl, rfl, rfl, rfl, rfl, rfl, hK, hS, hp, ho, hl, hM⟩) (fun L_ h_ hL_ ⟨hp, ho, hl, c201⟩ hs_ => ⟨c201, (Go.Wk.at_nil _ _)⟩)
      · refine HS.eff rfl (want_none) rfl (st_alloc (c := (e_api_Addr (false, (default : Ba 16))).toArray) hS tz_27 rfl) ?_
        rintro _ h_480 ⟨b_399, rfl, hS, hk⟩
        replace hK := hK.trans hk
        replace hp := hp.kp hk
        replace ho := ho.kp hk
        replace hl := hl.kp hk
        exact Go.Wk.HA.via (N_40 (F, b_399, b_396) _ _ ⟨rfl, rfl, rfl, rfl, rfl, rfl, rfl, rfl, rfl, rfl, rfl, rfl, rfl, hK, hS, hp, ho, hl, hM⟩) (fun L_ h_ hL_ ⟨hp, ho, hl, c201⟩ hs_ => ⟨c201, (Go.Wk.at_nil _ _)⟩)
    · refine HS.eff rfl (want_none) rfl (st_alloc (c := (e_api_Addr (false, (default : Ba 16))).toArray) hS tz_27 rfl) ?_
      rintro _ h_481 ⟨b_400, rfl, hS, hk⟩
      replace hK := hK.trans hk
      replace hp := hp.kp hk
      replace ho := ho.kp hk
      replace hl := hl.kp hk
      refine HA.four (k := 2) (k' := 10) (k'' := 11) (k''' := 13) ⟨(hS.box 1 rfl), (Go.Wk.at_nil _ _)⟩ (by kernel_rfl) ?_ ?_ ?_ ?_
      · refine HS.call rfl (want_none) rfl (ec en_9 rfl rfl) (law19_Few_walk (fr := (Ow.box b_400 27 (e_api_Addr (false, (default : Ba 16))).toArray :: Ow.box b_1 29 (c_acequialaw19_One (.bool xp) vp (.bool xo) vo x_G x_A vl).toArray :: fr)) xp yp vp hS hp hM) ?_
        rintro _ h_482 ⟨F_212, r_0_89, r_1_89, vr_1_89, rfl, hk, hS, _, hL_136, hM⟩
        replace hK := hK.trans hk
        replace hp := hp.kp hk
        replace ho := ho.kp hk
        replace hl := hl.kp hk
        exact Go.Wk.HA.via (N_34 (F_212, r_0_89, r_1_89, b_400, vr_1_89) _ _ ⟨rfl, rfl, rfl, rfl, rfl, rfl, rfl, rfl, rfl, rfl, rfl, rfl, rfl, hK, hS, hp, ho, hl, hL_136, hM⟩) (fun L_ h_ hL_ ⟨hp, ho, hl, hL_136, c201⟩ hs_ => ⟨c201, (Go.Wk.at_nil _ _)⟩)
      · refine HS.eff rfl (want_none) rfl (st_alloc (c := #[.bool false, .slice none 0 0]) hS tz_24 rfl) ?_
        rintro _ h_483 ⟨b_401, rfl, hS, hk⟩
        replace hK := hK.trans hk
        replace hp := hp.kp hk
        replace ho := ho.kp hk
        replace hl := hl.kp hk
        replace hS : St F (Ow.box b_400 27 (e_api_Addr (false, (default : Ba 16))).toArray :: Ow.box b_401 24 #[.bool false, .slice none 0 0] :: Ow.box b_1 29 (c_acequialaw19_One (.bool xp) vp (.bool xo) vo x_G x_A vl).toArray :: fr) h_483 := hS.perm2 [1, 0, 2] 3 rfl rfl
        exact Go.Wk.HA.via (N_37 (F, b_400, b_401) _ _ ⟨rfl, rfl, rfl, rfl, rfl, rfl, rfl, rfl, rfl, rfl, rfl, rfl, rfl, hK, hS, hp, ho, hl, hM⟩) (fun L_ h_ hL_ ⟨hp, ho, hl, c201⟩ hs_ => ⟨c201, (Go.Wk.at_nil _ _)⟩)
      · refine HS.eff rfl (want_none) rfl (st_alloc (c := #[.bool false, .slice none 0 0]) hS tz_24 rfl) ?_
        rintro _ h_484 ⟨b_402, rfl, hS, hk⟩
        replace hK := hK.trans hk
        replace hp := hp.kp hk
        replace ho := ho.kp hk
        replace hl := hl.kp hk
        replace hS : St F (Ow.box b_400 27 (e_api_Addr (false, (default : Ba 16))).toArray :: Ow.box b_402 24 #[.bool false, .slice none 0 0] :: Ow.box b_1 29 (c_acequialaw19_One (.bool xp) vp (.bool xo) vo x_G x_A vl).toArray :: fr) h_484 := hS.perm2 [1, 0, 2] 3 rfl rfl
        exact Go.Wk.HA.via (N_39 (F, b_400, b_402) _ _ ⟨rfl, rfl, rfl, rfl, rfl, rfl, rfl, rfl, rfl, rfl, rfl, rfl, rfl, hK, hS, hp, ho, hl, hM⟩) (fun L_ h_ hL_ ⟨hp, ho, hl, c201⟩ hs_ => ⟨c201, (Go.Wk.at_nil _ _)⟩)
      · refine HS.eff rfl (want_none) rfl (st_alloc (c := (e_api_Addr (false, (default : Ba 16))).toArray) hS tz_27 rfl) ?_
        rintro _ h_485 ⟨b_403, rfl, hS, hk⟩
        replace hK := hK.trans hk
        replace hp := hp.kp hk
        replace ho := ho.kp hk
        replace hl := hl.kp hk
        exact Go.Wk.HA.via (N_41 (F, b_403, b_400) _ _ ⟨rfl, rfl, rfl, rfl, rfl, rfl, rfl, rfl, rfl, rfl, rfl, rfl, rfl, hK, hS, hp, ho, hl, hM⟩) (fun L_ h_ hL_ ⟨hp, ho, hl, c201⟩ hs_ => ⟨c201, (Go.Wk.at_nil _ _)⟩)
    · refine HS.eff rfl (want_none) rfl (st_alloc (c := (e_api_Addr (false, (default : Ba 16))).toArray) hS tz_27 rfl) ?_
      rintro _ h_486 ⟨b_404, rfl, hS, hk⟩
      replace hK := hK.trans hk
      replace hp := hp.kp hk
      replace ho := ho.kp hk
      replace hl := hl.kp hk
      refine HA.four (k := 2) (k' := 10) (k'' := 11) (k''' := 12) ⟨(hS.box 1 rfl), (Go.Wk.at_nil _ _)⟩ (by kernel_rfl) ?_ ?_ ?_ ?_
      · refine HS.call rfl (want_none) rfl (ec en_9 rfl rfl) (law19_Few_walk (fr := (Ow.box b_404 27 (e_api_Addr (false, (default : Ba 16))).toArray :: Ow.box b_1 29 (c_acequialaw19_One (.bool xp) vp (.bool xo) vo x_G x_A vl).toArray :: fr)) xp yp vp hS hp hM) ?_
        rintro _ h_487 ⟨F_213, r_0_90, r_1_90, vr_1_90, rfl, hk, hS, _, hL_137, hM⟩
        replace hK := hK.trans hk
        replace hp := hp.kp hk
        replace ho := ho.kp hk
        replace hl := hl.kp hk
        exact Go.Wk.HA.via (N_35 (F_213, r_0_90, r_1_90, b_404, vr_1_90) _ _ ⟨rfl, rfl, rfl, rfl, rfl, rfl, rfl, rfl, rfl, rfl, rfl, rfl, rfl, hK, hS, hp, ho, hl, hL_137, hM⟩) (fun L_ h_ hL_ ⟨hp, ho, hl, hL_137, c201⟩ hs_ => ⟨c201, (Go.Wk.at_nil _ _)⟩)
      · refine HS.eff rfl (want_none) rfl (st_alloc (c := #[.bool false, .slice none 0 0]) hS tz_24 rfl) ?_
        rintro _ h_488 ⟨b_405, rfl, hS, hk⟩
        replace hK := hK.trans hk
        replace hp := hp.kp hk
        replace ho := ho.kp hk
        replace hl := hl.kp hk
        replace hS : St F (Ow.box b_404 27 (e_api_Addr (false, (default : Ba 16))).toArray :: Ow.box b_405 24 #[.bool false, .slice none 0 0] :: Ow.box b_1 29 (c_acequialaw19_One (.bool xp) vp (.bool xo) vo x_G x_A vl).toArray :: fr) h_488 := hS.perm2 [1, 0, 2] 3 rfl rfl
        exact Go.Wk.HA.via (N_38 (F, b_404, b_405) _ _ ⟨rfl, rfl, rfl, rfl, rfl, rfl, rfl, rfl, rfl, rfl, rfl, rfl, rfl, hK, hS, hp, ho, hl, hM⟩) (fun L_ h_ hL_ ⟨hp, ho, hl, c201⟩ hs_ => ⟨c201, (Go.Wk.at_nil _ _)⟩)
      · refine HS.eff rfl (want_none) rfl (st_alloc (c := #[.bool false, .slice none 0 0]) hS tz_24 rfl) ?_
        rintro _ h_489 ⟨b_406, rfl, hS, hk⟩
        replace hK := hK.trans hk
        replace hp := hp.kp hk
        replace ho := ho.kp hk
        replace hl := hl.kp hk
        replace hS : St F (Ow.box b_404 27 (e_api_Addr (false, (default : Ba 16))).toArray :: Ow.box b_406 24 #[.bool false, .slice none 0 0] :: Ow.box b_1 29 (c_acequialaw19_One (.bool xp) vp (.bool xo) vo x_G x_A vl).toArray :: fr) h_489 := hS.perm2 [1, 0, 2] 3 rfl rfl
        exact Go.Wk.HA.via (N_40 (F, b_404, b_406) _ _ ⟨rfl, rfl, rfl, rfl, rfl, rfl, rfl, rfl, rfl, rfl, rfl, rfl, rfl, hK, hS, hp, ho, hl, hM⟩) (fun L_ h_ hL_ ⟨hp, ho, hl, c201⟩ hs_ => ⟨c201, (Go.Wk.at_nil _ _)⟩)
      · refine HS.eff rfl (want_none) rfl (st_alloc (c := (e_api_Addr (false, (default : Ba 16))).toArray) hS tz_27 rfl) ?_
        rintro _ h_490 ⟨b_407, rfl, hS, hk⟩
        replace hK := hK.trans hk
        replace hp := hp.kp hk
        replace ho := ho.kp hk
        replace hl := hl.kp hk
        replace hS : St F (Ow.box b_404 27 (e_api_Addr (false, (default : Ba 16))).toArray :: Ow.box b_407 27 (e_api_Addr (false, (default : Ba 16))).toArray :: Ow.box b_1 29 (c_acequialaw19_One (.bool xp) vp (.bool xo) vo x_G x_A vl).toArray :: fr) h_490 := hS.perm2 [1, 0, 2] 3 rfl rfl
        exact Go.Wk.HA.via (N_41 (F, b_404, b_407) _ _ ⟨rfl, rfl, rfl, rfl, rfl, rfl, rfl, rfl, rfl, rfl, rfl, rfl, rfl, hK, hS, hp, ho, hl, hM⟩) (fun L_ h_ hL_ ⟨hp, ho, hl, c201⟩ hs_ => ⟨c201, (Go.Wk.at_nil _ _)⟩)
  · rintro f_124 h_491 ⟨F_214, old_0_1, old_1_1, b_4, l_1, b_2, vold_1_1, b_3, v_1, b_5, b_6, e2, e3, e4, e5, e6, hK, hS, hp, ho, hl, hL_1, hL_2, hM⟩
    unfold law19_MergeChanges_j1 at hM
    refine HW.fr [(2, .bool false), (3, .pointer (some ⟨b_2, 0, none⟩)), (4, .pointer (some ⟨b_3, 0, none⟩)), (5, .pointer (some ⟨b_5, 0, none⟩)), (6, .pointer (some ⟨b_6, 0, none⟩))] ⟨e2, e3, e4, e5, e6, trivial⟩ ?_
    refine HW.seq ?_
    refine HW.regionA 7 mixed (fun h => (Blk h b_2 (.cells #[.bool old_0_1, vold_1_1] 24 (0, 0))) ∧ (Blk h b_3 (.cells #[.bool b_4, v_1] 24 (0, 0))) ∧ (Blk h b_5 (.cells (e_api_Addr x_G).toArray 27 (0, 0)))) [] (by kernel_rfl) ?_
    refine HA.val (k := 0) (v := .agg (e_api_Addr x_G).toArray) rfl rfl (by kernel_rfl) (by kernel_rfl) (want_none) rfl (fun _ ⟨c202, c203, c204⟩ => q_loadAgg (cs := (e_api_Addr x_G)) ta_27 rfl rfl (Blk.cells (k := 17) c204 rfl)) ?_
    refine HA.val (k := 1) (v := .agg #[.bool old_0_1, vold_1_1]) rfl rfl (by kernel_rfl) (by kernel_rfl) (want_none) rfl (fun _ ⟨c202, c203, c204⟩ => q_loadAgg (cs := [.bool old_0_1, vold_1_1]) ta_24 rfl rfl (Blk.cells (k := 2) c202 rfl)) ?_
    refine HA.val (k := 3) (v := .agg #[.bool b_4, v_1]) rfl rfl (by kernel_rfl) (by kernel_rfl) (want_none) rfl (fun _ ⟨c202, c203, c204⟩ => q_loadAgg (cs := [.bool b_4, v_1]) ta_24 rfl rfl (Blk.cells (k := 2) c203 rfl)) ?_
    refine HA.one (k := 2) ⟨⟨(hS.box 0 rfl), (hS.box 1 rfl), (hS.box 2 rfl)⟩, (Go.Wk.at_nil _ _)⟩ (by kernel_rfl) ?_
    refine HS.call rfl (want_none) rfl (ec en_9 rfl rfl) (law19_Few_walk (fr := (Ow.box b_2 24 #[.bool old_0_1, vold_1_1] :: Ow.box b_3 24 #[.bool b_4, v_1] :: Ow.box b_5 27 (e_api_Addr x_G).toArray :: Ow.box b_6 27 (e_api_Addr x_A).toArray :: fr)) old_0_1 old_1_1 vold_1_1 hS hL_1 hM) ?_
    rintro _ h_492 ⟨F_215, r_0_91, r_1_91, vr_1_91, rfl, hk, hS, _, hL_138, hM⟩
    replace hK := hK.trans hk
    replace hp := hp.kp hk
    replace ho := ho.kp hk
    replace hl := hl.kp hk
    replace hL_1 := hL_1.kp hk
    replace hL_2 := hL_2.kp hk
    refine HA.one (k := 4) ⟨⟨(hS.box 0 rfl), (hS.box 1 rfl), (hS.box 2 rfl)⟩, (Go.Wk.at_nil _ _)⟩ (by kernel_rfl) ?_
    refine HS.call rfl (want_none) rfl (ec en_9 rfl rfl) (law19_Few_walk (fr := (Ow.box b_2 24 #[.bool old_0_1, vold_1_1] :: Ow.box b_3 24 #[.bool b_4, v_1] :: Ow.box b_5 27 (e_api_Addr x_G).toArray :: Ow.box b_6 27 (e_api_Addr x_A).toArray :: fr)) b_4 l_1 v_1 hS hL_2 hM) ?_
    rintro _ h_493 ⟨F_216, r_0_92, r_1_92, vr_1_92, rfl, hk, hS, _, hL_139, hM⟩
    replace hK := hK.trans hk
    replace hp := hp.kp hk
    replace ho := ho.kp hk
    replace hl := hl.kp hk
    replace hL_1 := hL_1.kp hk
    replace hL_2 := hL_2.kp hk
    replace hL_138 := hL_138.kp hk
    refine HA.one (k := 5) ⟨⟨(hS.box 0 rfl), (hS.box 1 rfl), (hS.box 2 rfl)⟩, (Go.Wk.at_nil _ _)⟩ (by kernel_rfl) ?_
    refine HS.call rfl (want_none) rfl (ec en_10 rfl rfl) (merge_Change_walk (fr := (Ow.box b_2 24 #[.bool old_0_1, vold_1_1] :: Ow.box b_3 24 #[.bool b_4, v_1] :: Ow.box b_5 27 (e_api_Addr x_G).toArray :: Ow.box b_6 27 (e_api_Addr x_A).toArray :: fr)) x_G r_0_91 r_1_91 r_0_92 r_1_92 vr_1_91 vr_1_92 hS hL_138 hL_139 hM) ?_
    rintro vr_1 h_494 ⟨F_217, r_2, _, rfl, hk, hS, _, _, hL_140, hM⟩
    replace hK := hK.trans hk
    replace hp := hp.kp hk
    replace ho := ho.kp hk
    replace hl := hl.kp hk
    replace hL_1 := hL_1.kp hk
    replace hL_2 := hL_2.kp hk
    replace hL_138 := hL_138.kp hk
    replace hL_139 := hL_139.kp hk
    refine HA.val (k := 6) (v := vr_1) rfl rfl (by kernel_rfl) (by kernel_rfl) (want_none) rfl (fun _ ⟨c202, c203, c204⟩ => q_assign rfl) ?_
    refine HA.nil ⟨⟨(hS.box 1 rfl), (hS.box 2 rfl), (hS.box 3 rfl)⟩, (Go.Wk.at_nil _ _)⟩ (by kernel_rfl) (thenQ_normal (?_))
    refine HW.seq ?_
    refine HW.seq ?_
    refine HW.region ?_
    refine HO.val (v := vr_1) (want_none) rfl (q_move rfl) ?_
    refine HO.val (v := .agg (e_api_Addr x_G).toArray) (want_none) rfl (q_loadAgg (cs := (e_api_Addr x_G)) ta_27 rfl rfl (Blk.cells (k := 17) (hS.box 3 rfl) rfl)) ?_
    refine HO.val (v := .agg #[.bool old_0_1, vold_1_1]) (want_none) rfl (q_loadAgg (cs := [.bool old_0_1, vold_1_1]) ta_24 rfl rfl (Blk.cells (k := 2) (hS.box 1 rfl) rfl)) ?_
    refine HO.val (v := .agg #[.bool b_4, v_1]) (want_none) rfl (q_loadAgg (cs := [.bool b_4, v_1]) ta_24 rfl rfl (Blk.cells (k := 2) (hS.box 2 rfl) rfl)) ?_
    refine HO.call (want_none) rfl (ec en_12 rfl rfl) (ref19_Change_walk (fr := (Ow.own 40 19 e_api_Record vr_1 r_2 :: Ow.box b_2 24 #[.bool old_0_1, vold_1_1] :: Ow.box b_3 24 #[.bool b_4, v_1] :: Ow.box b_5 27 (e_api_Addr x_G).toArray :: Ow.box b_6 27 (e_api_Addr x_A).toArray :: fr)) x_G old_0_1 old_1_1 b_4 l_1 vold_1_1 v_1 hS hL_1 hL_2 hM) ?_
    rintro vr_2 h_495 ⟨F_218, r_3, _, rfl, hk, hS, _, _, hL_141, hM⟩
    replace hK := hK.trans hk
    replace hp := hp.kp hk
    replace ho := ho.kp hk
    replace hl := hl.kp hk
    replace hL_1 := hL_1.kp hk
    replace hL_2 := hL_2.kp hk
    replace hL_138 := hL_138.kp hk
    replace hL_139 := hL_139.kp hk
    replace hL_140 := hL_140.kp hk
    replace hS : St F_218 (Ow.own 40 19 e_api_Record vr_1 r_2 :: Ow.own 40 19 e_api_Record vr_2 r_3 :: Ow.box b_2 24 #[.bool old_0_1, vold_1_1] :: Ow.box b_3 24 #[.bool b_4, v_1] :: Ow.box b_5 27 (e_api_Addr x_G).toArray :: Ow.box b_6 27 (e_api_Addr x_A).toArray :: fr) h_495 := hS.perm2 [1, 0, 2, 3, 4, 5] 6 rfl rfl
    have hZ_1 := hS
    have hkz_1 := (hS.freeze).2
    replace hS := hS.freeze.1
    have hL_142 : SliceF (fun b => F_218 b ∨ (Ow.own 40 19 e_api_Record vr_1 r_2).foot b) h_495 19 e_api_Record vr_1 r_2 := ⟨(hZ_1.own 0 rfl).slice, fun _ b hb => .inr hb⟩
    have hZ_2 := hS
    have hkz_2 := (hS.freeze).2
    replace hS := hS.freeze.1
    have hL_143 : SliceF (fun b => (fun b => F_218 b ∨ (Ow.own 40 19 e_api_Record vr_1 r_2).foot b) b ∨ (Ow.own 40 19 e_api_Record vr_2 r_3).foot b) h_495 19 e_api_Record vr_2 r_3 := ⟨(hZ_2.own 0 rfl).slice, fun _ b hb => .inr hb⟩
    refine HO.call (want_none) rfl (ec en_11 rfl rfl) (ref08_SameRecords_walk (fr := (Ow.box b_2 24 #[.bool old_0_1, vold_1_1] :: Ow.box b_3 24 #[.bool b_4, v_1] :: Ow.box b_5 27 (e_api_Addr x_G).toArray :: Ow.box b_6 27 (e_api_Addr x_A).toArray :: fr)) r_2 r_3 vr_1 vr_2 hS (NfL.kp (NfL.kp hL_140 hkz_1) hkz_2) (hL_142.kp hkz_2) (NfL.kp (NfL.kp hL_141 hkz_1) hkz_2) hL_143 hM) ?_
    rintro _ h_496 ⟨F_219, r_4, rfl, hk, hS, _, _, _, _, hM⟩
    obtain ⟨hS, hk⟩ := hZ_2.back hk hS
    obtain ⟨hS, hk⟩ := hZ_1.back hk hS
    generalize (fun b => (fun b => F_219 b ∧ ¬ (Ow.own 40 19 e_api_Record vr_2 r_3).foot b) b ∧ ¬ (Ow.own 40 19 e_api_Record vr_1 r_2).foot b) = F_220 at hS hk
    replace hK := hK.trans hk
    replace hp := hp.kp hk
    replace ho := ho.kp hk
    replace hl := hl.kp hk
    replace hL_1 := hL_1.kp hk
    replace hL_2 := hL_2.kp hk
    replace hL_138 := hL_138.kp hk
    replace hL_139 := hL_139.kp hk
    replace hL_140 := hL_140.kp hk
    replace hL_141 := hL_141.kp hk
    refine HO.val (v := .bool (!r_4)) (want_none) rfl (q_not rfl) ?_
    refine HO.nil (thenQ_normal (?_))
    refine HW.cond (!r_4) rfl (fun c_1 => ?_) (fun c_1 => ?_)
    · replace hM := hM.1 c_1
      refine HW.seq ?_
      refine HW.region ?_
      refine HO.val (v := .bool false) (want_none) rfl (q_assign rfl) ?_
      refine HO.nil (thenQ_normal (?_))
      refine HW.ret (thenQ_ret (?_))
      refine ⟨.inr rfl, .bool false, res1 rfl (rt rfl), ?_⟩
      replace hS : St F_220 (fr) h_496 := hS.perm2 [] 6 rfl rfl
      exact ⟨F_220, false, rfl, hK, hS, hp, ho, hl, hM⟩
    · replace hM := hM.2 c_1
      refine HW.skip (thenQ_normal (?_))
      refine HW.seq ?_
      refine HW.region ?_
      refine HO.val (v := .agg #[.bool false, .slice none 0 0, .slice none 0 0]) (want_none) rfl (q_build tp_35 rfl) ?_
      refine HO.eff (want_none) rfl (st_alloc (c := #[.bool false, .slice none 0 0, .slice none 0 0]) hS tz_35 rfl) ?_
      rintro _ h_497 ⟨b_408, rfl, hS, hk⟩
      replace hK := hK.trans hk
      replace hp := hp.kp hk
      replace ho := ho.kp hk
      replace hl := hl.kp hk
      replace hL_1 := hL_1.kp hk
      replace hL_2 := hL_2.kp hk
      replace hL_138 := hL_138.kp hk
      replace hL_139 := hL_139.kp hk
      replace hL_140 := hL_140.kp hk
      replace hL_141 := hL_141.kp hk
      refine HO.sto (want_none) rfl (st_storeAgg (c' := #[.bool false, .slice none 0 0, .slice none 0 0]) hS (i := 0) rfl ta_35 rfl rfl rfl (by simp [Value.oneCell']) (Nat.le_of_ble_eq_true rfl) rfl) ?_
      rintro h_498 ⟨hS, hk⟩
      replace hS : St F_220 (Ow.box b_408 35 #[.bool false, .slice none 0 0, .slice none 0 0] :: Ow.own 40 19 e_api_Record vr_1 r_2 :: Ow.own 40 19 e_api_Record vr_2 r_3 :: Ow.box b_2 24 #[.bool old_0_1, vold_1_1] :: Ow.box b_3 24 #[.bool b_4, v_1] :: Ow.box b_5 27 (e_api_Addr x_G).toArray :: Ow.box b_6 27 (e_api_Addr x_A).toArray :: fr) h_498 := hS
      replace hK := hK.trans hk
      replace hp := hp.kp hk
      replace ho := ho.kp hk
      replace hl := hl.kp hk
      replace hL_1 := hL_1.kp hk
      replace hL_2 := hL_2.kp hk
      replace hL_138 := hL_138.kp hk
      replace hL_139 := hL_139.kp hk
      replace hL_140 := hL_140.kp hk
      replace hL_141 := hL_141.kp hk
      refine HO.nil (thenQ_normal (?_))
      refine HW.seq_mid (fun f h => ∃ (F' : Fz) (b_409 : Bool) (l_47 : List T_api_Addr) (l_48 : List T_api_Addr) (v_47 : Value) (v_48 : Value), f 2 = .bool false ∧ f 4 = .pointer (some ⟨b_3, 0, none⟩) ∧ f 6 = .pointer (some ⟨b_6, 0, none⟩) ∧ f 7 = vr_1 ∧ f 8 = .pointer (some ⟨b_408, 0, none⟩) ∧ Kp F h0 F' h ∧ St F' (Ow.box b_3 24 #[.bool b_4, v_1] :: Ow.box b_6 27 (e_api_Addr x_A).toArray :: Ow.own 40 19 e_api_Record vr_1 r_2 :: Ow.box b_408 35 #[.bool b_409, v_47, v_48] :: Ow.own 27 17 e_api_Addr v_47 l_47 :: Ow.own 27 17 e_api_Addr v_48 l_48 :: fr) h ∧ (SliceF F' h 17 e_api_Addr vp yp) ∧ (SliceF F' h 17 e_api_Addr vo yo) ∧ (SliceF F' h 17 e_api_Addr vl x_L) ∧ (SliceF F' h 17 e_api_Addr vold_1_1 old_1_1) ∧ (SliceF F' h 17 e_api_Addr v_1 l_1) ∧ (SliceF F' h 17 e_api_Addr vr_1_91 r_1_91) ∧ (SliceF F' h 17 e_api_Addr vr_1_92 r_1_92) ∧ (NfL nf_api_Record F' h r_2) ∧ (NfL nf_api_Record F' h r_3) ∧ law19_MergeChanges_j2 x_A Q b_4 l_1 r_2 b_409 l_47 l_48) ?_ ?_
      · refine HW.seq ?_
        refine HW.region ?_
        refine HO.val (v := .pointer (some ⟨b_2, 0, none⟩)) (want_none) rfl (q_fieldAddr fa_24_0 rfl rfl) ?_
        refine HO.val (v := .bool old_0_1) (want_none) rfl (q_load to_4 rfl (Blk.cell (hS.box 3 rfl) rfl)) ?_
        refine HO.nil (thenQ_normal (?_))
        refine HW.cond old_0_1 rfl (fun c_2 => ?_) (fun c_2 => ?_)
        · replace hM := hM.1 c_2
          refine HW.region ?_
          refine HO.val (v := .agg #[.bool false, .slice none 0 0, .slice none 0 0]) (want_none) rfl (q_loadAgg (cs := [.bool false, .slice none 0 0, .slice none 0 0]) ta_35 rfl rfl (Blk.cells (k := 3) (hS.box 0 rfl) rfl)) ?_
          refine HO.val (v := .pointer (some ⟨b_2, 1, none⟩)) (want_none) rfl (q_fieldAddr fa_24_1 rfl rfl) ?_
          refine HO.val (v := vold_1_1) (want_none) rfl (q_load to_22 rfl (Blk.cell (hS.box 3 rfl) rfl)) ?_
          refine HO.call (want_none) rfl (ec en_13 rfl rfl) (ref15_Apply_walk (fr := (Ow.box b_408 35 #[.bool false, .slice none 0 0, .slice none 0 0] :: Ow.own 40 19 e_api_Record vr_1 r_2 :: Ow.own 40 19 e_api_Record vr_2 r_3 :: Ow.box b_2 24 #[.bool old_0_1, vold_1_1] :: Ow.box b_3 24 #[.bool b_4, v_1] :: Ow.box b_5 27 (e_api_Addr x_G).toArray :: Ow.box b_6 27 (e_api_Addr x_A).toArray :: fr)) false [] [] 2 old_1_1 (.slice none 0 0) (.slice none 0 0) vold_1_1 hS (SliceF.nil _ _ _ _) (SliceF.nil _ _ _ _) hL_1 hM) ?_
          rintro _ h_499 ⟨F_221, r_0_93, r_1_93, r_2_1, r_3_1, r_4_1, r_5_1, r_6_1, r_7_1, vr_1_93, vr_2_1, vr_3_1, vr_4_1, vr_6_1, rfl, hk, hS, _, _, _, hM⟩
          replace hK := hK.trans hk
          replace hp := hp.kp hk
          replace ho := ho.kp hk
          replace hl := hl.kp hk
          replace hL_1 := hL_1.kp hk
          replace hL_2 := hL_2.kp hk
          replace hL_138 := hL_138.kp hk
          replace hL_139 := hL_139.kp hk
          replace hL_140 := hL_140.kp hk
          replace hL_141 := hL_141.kp hk
          refine HO.val (v := .agg #[.bool r_0_93, vr_1_93, vr_2_1]) (want_none) rfl (q_field (fun w => by kernel_rfl) rfl) ?_
          refine HO.sto (want_none) rfl (st_storeAgg (c' := #[.bool r_0_93, vr_1_93, vr_2_1]) hS (i := 5) rfl ta_35 rfl rfl rfl (List.forall_mem_cons.2 ⟨rfl, (List.forall_mem_cons.2 ⟨(shp (hS.own 0 rfl).slice).one, (List.forall_mem_cons.2 ⟨(shp (hS.own 1 rfl).slice).one, (fun _ h => by cases h)⟩)⟩)⟩) (Nat.le_of_ble_eq_true rfl) rfl) ?_
          rintro h_500 ⟨hS, hk⟩
          replace hS : St F_221 (Ow.own 27 17 e_api_Addr vr_1_93 r_1_93 :: Ow.own 27 17 e_api_Addr vr_2_1 r_2_1 :: Ow.own 27 17 e_api_Addr vr_3_1 r_3_1 :: Ow.own 27 17 e_api_Addr vr_4_1 r_4_1 :: Ow.own 27 17 e_api_Addr vr_6_1 r_6_1 :: Ow.box b_408 35 #[.bool r_0_93, vr_1_93, vr_2_1] :: Ow.own 40 19 e_api_Record vr_1 r_2 :: Ow.own 40 19 e_api_Record vr_2 r_3 :: Ow.box b_2 24 #[.bool old_0_1, vold_1_1] :: Ow.box b_3 24 #[.bool b_4, v_1] :: Ow.box b_5 27 (e_api_Addr x_G).toArray :: Ow.box b_6 27 (e_api_Addr x_A).toArray :: fr) h_500 := hS
          replace hK := hK.trans hk
          replace hp := hp.kp hk
          replace ho := ho.kp hk
          replace hl := hl.kp hk
          replace hL_1 := hL_1.kp hk
          replace hL_2 := hL_2.kp hk
          replace hL_138 := hL_138.kp hk
          replace hL_139 := hL_139.kp hk
          replace hL_140 := hL_140.kp hk
          replace hL_141 := hL_141.kp hk
          refine HO.nil (thenQ_normal (?_))
          replace hS : St F_221 (Ow.box b_3 24 #[.bool b_4, v_1] :: Ow.box b_6 27 (e_api_Addr x_A).toArray :: Ow.own 40 19 e_api_Record vr_1 r_2 :: Ow.box b_408 35 #[.bool r_0_93, vr_1_93, vr_2_1] :: Ow.own 27 17 e_api_Addr vr_1_93 r_1_93 :: Ow.own 27 17 e_api_Addr vr_2_1 r_2_1 :: fr) h_500 := hS.perm2 [9, 11, 6, 5, 0, 1] 12 rfl rfl
          exact ⟨F_221, r_0_93, r_1_93, r_2_1, vr_1_93, vr_2_1, rfl, rfl, rfl, rfl, rfl, hK, hS, hp, ho, hl, hL_1, hL_2, hL_138, hL_139, hL_140, hL_141, hM⟩
        · replace hM := hM.2 c_2
          refine HW.region ?_
          refine HO.val (v := .agg #[.bool false, .slice none 0 0, .slice none 0 0]) (want_none) rfl (q_loadAgg (cs := [.bool false, .slice none 0 0, .slice none 0 0]) ta_35 rfl rfl (Blk.cells (k := 3) (hS.box 0 rfl) rfl)) ?_
          refine HO.val (v := .pointer (some ⟨b_2, 1, none⟩)) (want_none) rfl (q_fieldAddr fa_24_1 rfl rfl) ?_
          refine HO.val (v := vold_1_1) (want_none) rfl (q_load to_22 rfl (Blk.cell (hS.box 3 rfl) rfl)) ?_
          refine HO.call (want_none) rfl (ec en_13 rfl rfl) (ref15_Apply_walk (fr := (Ow.box b_408 35 #[.bool false, .slice none 0 0, .slice none 0 0] :: Ow.own 40 19 e_api_Record vr_1 r_2 :: Ow.own 40 19 e_api_Record vr_2 r_3 :: Ow.box b_2 24 #[.bool old_0_1, vold_1_1] :: Ow.box b_3 24 #[.bool b_4, v_1] :: Ow.box b_5 27 (e_api_Addr x_G).toArray :: Ow.box b_6 27 (e_api_Addr x_A).toArray :: fr)) false [] [] 1 old_1_1 (.slice none 0 0) (.slice none 0 0) vold_1_1 hS (SliceF.nil _ _ _ _) (SliceF.nil _ _ _ _) hL_1 hM) ?_
          rintro _ h_501 ⟨F_222, r_0_94, r_1_94, r_2_2, r_3_2, r_4_2, r_5_2, r_6_2, r_7_2, vr_1_94, vr_2_2, vr_3_2, vr_4_2, vr_6_2, rfl, hk, hS, _, _, _, hM⟩
          replace hK := hK.trans hk
          replace hp := hp.kp hk
          replace ho := ho.kp hk
          replace hl := hl.kp hk
          replace hL_1 := hL_1.kp hk
          replace hL_2 := hL_2.kp hk
          replace hL_138 := hL_138.kp hk
          replace hL_139 := hL_139.kp hk
          replace hL_140 := hL_140.kp hk
          replace hL_141 := hL_141.kp hk
          refine HO.val (v := .agg #[.bool r_0_94, vr_1_94, vr_2_2]) (want_none) rfl (q_field (fun w => by kernel_rfl) rfl) ?_
          refine HO.sto (want_none) rfl (st_storeAgg (c' := #[.bool r_0_94, vr_1_94, vr_2_2]) hS (i := 5) rfl ta_35 rfl rfl rfl (List.forall_mem_cons.2 ⟨rfl, (List.forall_mem_cons.2 ⟨(shp (hS.own 0 rfl).slice).one, (List.forall_mem_cons.2 ⟨(shp (hS.own 1 rfl).slice).one, (fun _ h => by cases h)⟩)⟩)⟩) (Nat.le_of_ble_eq_true rfl) rfl) ?_
          rintro h_502 ⟨hS, hk⟩
          replace hS : St F_222 (Ow.own 27 17 e_api_Addr vr_1_94 r_1_94 :: Ow.own 27 17 e_api_Addr vr_2_2 r_2_2 :: Ow.own 27 17 e_api_Addr vr_3_2 r_3_2 :: Ow.own 27 17 e_api_Addr vr_4_2 r_4_2 :: Ow.own 27 17 e_api_Addr vr_6_2 r_6_2 :: Ow.box b_408 35 #[.bool r_0_94, vr_1_94, vr_2_2] :: Ow.own 40 19 e_api_Record vr_1 r_2 :: Ow.own 40 19 e_api_Record vr_2 r_3 :: Ow.box b_2 24 #[.bool old_0_1, vold_1_1] :: Ow.box b_3 24 #[.bool b_4, v_1] :: Ow.box b_5 27 (e_api_Addr x_G).toArray :: Ow.box b_6 27 (e_api_Addr x_A).toArray :: fr) h_502 := hS
          replace hK := hK.trans hk
          replace hp := hp.kp hk
          replace ho := ho.kp hk
          replace hl := hl.kp hk
          replace hL_1 := hL_1.kp hk
          replace hL_2 := hL_2.kp hk
          replace hL_138 := hL_138.kp hk
          replace hL_139 := hL_139.kp hk
          replace hL_140 := hL_140.kp hk
          replace hL_141 := hL_141.kp hk
          refine HO.nil (thenQ_normal (?_))
          replace hS : St F_222 (Ow.box b_3 24 #[.bool b_4, v_1] :: Ow.box b_6 27 (e_api_Addr x_A).toArray :: Ow.own 40 19 e_api_Record vr_1 r_2 :: Ow.box b_408 35 #[.bool r_0_94, vr_1_94, vr_2_2] :: Ow.own 27 17 e_api_Addr vr_1_94 r_1_94 :: Ow.own 27 17 e_api_Addr vr_2_2 r_2_2 :: fr) h_502 := hS.perm2 [9, 11, 6, 5, 0, 1] 12 rfl rfl
          exact ⟨F_222, r_0_94, r_1_94, r_2_2, vr_1_94, vr_2_2, rfl, rfl, rfl, rfl, rfl, hK, hS, hp, ho, hl, hL_1, hL_2, hL_138, hL_139, hL_140, hL_141, hM⟩
      · rintro f_125 h_503 ⟨F_223, b_409, l_47, l_48, v_47, v_48, e2, e4, e6, e7, e8, hK, hS, hp, ho, hl, hL_1, hL_2, hL_138, hL_139, hL_140, hL_141, hM⟩
        unfold law19_MergeChanges_j2 at hM
        refine HW.fr [(2, .bool false), (4, .pointer (some ⟨b_3, 0, none⟩)), (6, .pointer (some ⟨b_6, 0, none⟩)), (7, vr_1), (8, .pointer (some ⟨b_408, 0, none⟩))] ⟨e2, e4, e6, e7, e8, trivial⟩ ?_
        refine HW.seq ?_
        refine HW.seq ?_
        refine HW.region ?_
        refine HO.val (v := .int .i64 0) (want_none) rfl (q_assign rfl) ?_
        refine HO.nil (thenQ_normal (?_))
        refine HW.block ?_
        obtain ⟨I_1, m_1, hI_1, hR_1⟩ := hM
        refine HW.loop (S := Bool × List T_api_Addr × List T_api_Addr × Int) (fun s f h => match s with | (b_410, l_49, l_50, i_1) => ∃ (F' : Fz) (v_49 : Value) (v_50 : Value), f 2 = .bool false ∧ f 4 = .pointer (some ⟨b_3, 0, none⟩) ∧ f 6 = .pointer (some ⟨b_6, 0, none⟩) ∧ f 7 = vr_1 ∧ f 8 = .pointer (some ⟨b_408, 0, none⟩) ∧ f 9 = .int .i64 i_1 ∧ Kp F h0 F' h ∧ St F' (Ow.box b_3 24 #[.bool b_4, v_1] :: Ow.box b_6 27 (e_api_Addr x_A).toArray :: Ow.own 40 19 e_api_Record vr_1 r_2 :: Ow.box b_408 35 #[.bool b_410, v_49, v_50] :: Ow.own 27 17 e_api_Addr v_49 l_49 :: Ow.own 27 17 e_api_Addr v_50 l_50 :: fr) h ∧ (SliceF F' h 17 e_api_Addr vp yp) ∧ (SliceF F' h 17 e_api_Addr vo yo) ∧ (SliceF F' h 17 e_api_Addr vl x_L) ∧ (SliceF F' h 17 e_api_Addr vold_1_1 old_1_1) ∧ (SliceF F' h 17 e_api_Addr v_1 l_1) ∧ (SliceF F' h 17 e_api_Addr vr_1_91 r_1_91) ∧ (SliceF F' h 17 e_api_Addr vr_1_92 r_1_92) ∧ (NfL nf_api_Record F' h r_2) ∧ (NfL nf_api_Record F' h r_3) ∧ I_1 (b_410, l_49, l_50, i_1)) m_1 (b_409, l_47, l_48, 0) ⟨F_223, v_47, v_48, rfl, rfl, rfl, rfl, rfl, rfl, hK, hS, hp, ho, hl, hL_1, hL_2, hL_138, hL_139, hL_140, hL_141, hI_1⟩ ?_
        rintro ⟨b_410, l_49, l_50, i_1⟩ f_126 h_504 ⟨F_224, v_49, v_50, e2, e4, e6, e7, e8, e9, hK, hS, hp, ho, hl, hL_1, hL_2, hL_138, hL_139, hL_140, hL_141, hI0⟩
        obtain ⟨K_1, hKe_1⟩ : ∃ K : Bool → (List T_api_Addr) → (List T_api_Addr) → Int → Prop, K = fun b_410' l_49' l_50' i_1' => I_1 (b_410', l_49', l_50', i_1') ∧ m_1 (b_410', l_49', l_50', i_1') < m_1 (b_410, l_49, l_50, i_1) := ⟨_, rfl⟩
        have hM : law19_MergeChanges_l51 x_A Q b_4 l_1 r_2 K_1 b_410 l_49 l_50 i_1 := by rw [hKe_1]; exact hR_1 (b_410, l_49, l_50, i_1) hI0
        unfold law19_MergeChanges_l51 at hM
        refine HW.fr [(2, .bool false), (4, .pointer (some ⟨b_3, 0, none⟩)), (6, .pointer (some ⟨b_6, 0, none⟩)), (7, vr_1), (8, .pointer (some ⟨b_408, 0, none⟩)), (9, .int .i64 i_1)] ⟨e2, e4, e6, e7, e8, e9, trivial⟩ ?_
        refine HW.seq ?_
        refine HW.seq ?_
        refine HW.region ?_
        refine HO.val (v := .int .i64 i_1) (want_none) rfl (q_move rfl) ?_
        refine HO.val (v := vr_1) (want_none) rfl (q_move rfl) ?_
        refine HO.val (v := .int .i64 (r_2.length : Int)) (want_none) rfl (q_len ts_31 (shp (hS.own 2 rfl).slice) rfl rfl) ?_
        refine HO.val (v := .bool (decide (i_1 < (r_2.length : Int)))) (want_none) rfl (q_lss rfl rfl) ?_
        refine HO.nil (thenQ_normal (?_))
        refine HW.cond (decide (i_1 < (r_2.length : Int))) rfl (fun c_3 => ?_) (fun c_3 => ?_)
        · replace hM := hM.1 (of_decide_eq_true c_3)
          refine HW.skip (thenQ_normal (?_))
          refine HW.seq ?_
          refine HW.block ?_
          refine HW.regionA 14 mixed (fun h => (OwnIs h 0 40 19 e_api_Record vr_1 r_2)) [(13, fun h => (Blk h b_408 (.cells #[.bool b_410, v_49, v_50] 35 (0, 0))))] (by kernel_rfl) ?_
          refine Go.Wk.HA.valN (k := 0) (v := .agg #[.bool b_410, v_49, v_50]) 0 13 (fun h => (Blk h b_408 (.cells #[.bool b_410, v_49, v_50] 35 (0, 0)))) rfl rfl (by kernel_rfl) (by kernel_rfl) (want_none) rfl rfl (by kernel_rfl) (fun _ c414 c415 => q_loadAgg (cs := [.bool b_410, v_49, v_50]) ta_35 rfl rfl (Blk.cells (k := 3) c415 rfl)) ?_
          refine HA.val (k := 1) (v := vr_1) rfl rfl (by kernel_rfl) (by kernel_rfl) (want_none) rfl (fun _ c414 => q_move rfl) ?_
          refine HA.val (k := 2) (v := .int .i64 i_1) rfl rfl (by kernel_rfl) (by kernel_rfl) (want_none) rfl (fun _ c414 => q_move rfl) ?_
          obtain ⟨ho_1, hM⟩ := hM
          refine HA.val (k := 3) (v := elemPtr 19 vr_1 (i_1).toNat) rfl rfl (by kernel_rfl) (by kernel_rfl) (want_none) rfl (fun _ c414 => q_idx ts_31 c414.slice rfl rfl ho_1) ?_
          refine HA.val (k := 4) (v := fieldPtr 19 vr_1 (i_1).toNat 0) rfl rfl (by kernel_rfl) (by kernel_rfl) (want_none) rfl (fun _ c414 => q_fldElem fa_40_0 c414.slice rfl ho_1) ?_
          refine HA.val (k := 5) (v := .int .i64 ((gi r_2 i_1).1)) rfl rfl (by kernel_rfl) (by kernel_rfl) (want_none) rfl (fun _ c414 => q_ldField to_3 c414.slice rfl ho_1 (by decide) rfl) ?_
          refine HA.val (k := 6) (v := vr_1) rfl rfl (by kernel_rfl) (by kernel_rfl) (want_none) rfl (fun _ c414 => q_move rfl) ?_
          refine HA.val (k := 7) (v := .int .i64 i_1) rfl rfl (by kernel_rfl) (by kernel_rfl) (want_none) rfl (fun _ c414 => q_move rfl) ?_
          refine HA.val (k := 8) (v := elemPtr 19 vr_1 (i_1).toNat) rfl rfl (by kernel_rfl) (by kernel_rfl) (want_none) rfl (fun _ c414 => q_idx ts_31 c414.slice rfl rfl ho_1) ?_
          refine HA.val (k := 9) (v := fieldPtr 19 vr_1 (i_1).toNat 18) rfl rfl (by kernel_rfl) (by kernel_rfl) (want_none) rfl (fun _ c414 => q_fldElem fa_40_2 c414.slice rfl ho_1) ?_
          refine HA.val (k := 10) (v := ((gi r_2 i_1).2.2).1) rfl rfl (by kernel_rfl) (by kernel_rfl) (want_none) rfl (fun _ c414 => q_ldField to_22 c414.slice rfl ho_1 (by decide) rfl) ?_
          refine HA.one (k := 11) ⟨(hS.own 2 rfl), (at_now (hS.box 3 rfl) (Go.Wk.at_nil _ _))⟩ (by kernel_rfl) ?_
          replace hS : St F_224 (Ow.own 27 17 e_api_Addr v_49 l_49 :: Ow.box b_3 24 #[.bool b_4, v_1] :: Ow.box b_6 27 (e_api_Addr x_A).toArray :: Ow.own 40 19 e_api_Record vr_1 r_2 :: Ow.box b_408 35 #[.bool b_410, v_49, v_50] :: Ow.own 27 17 e_api_Addr v_50 l_50 :: fr) h_504 := hS.perm2 [4, 0, 1, 2, 3, 5] 6 rfl rfl
          have hZ_3 := hS
          have hkz_3 := (hS.freeze).2
          replace hS := hS.freeze.1
          have hL_144 : SliceF (fun b => F_224 b ∨ (Ow.own 27 17 e_api_Addr v_49 l_49).foot b) h_504 17 e_api_Addr v_49 l_49 := ⟨(hZ_3.own 0 rfl).slice, fun _ b hb => .inr hb⟩
          replace hS : St (fun b => F_224 b ∨ (Ow.own 27 17 e_api_Addr v_49 l_49).foot b) (Ow.own 27 17 e_api_Addr v_50 l_50 :: Ow.box b_3 24 #[.bool b_4, v_1] :: Ow.box b_6 27 (e_api_Addr x_A).toArray :: Ow.own 40 19 e_api_Record vr_1 r_2 :: Ow.box b_408 35 #[.bool b_410, v_49, v_50] :: fr) h_504 := hS.perm2 [4, 0, 1, 2, 3] 5 rfl rfl
          have hZ_4 := hS
          have hkz_4 := (hS.freeze).2
          replace hS := hS.freeze.1
          have hL_145 : SliceF (fun b => (fun b => F_224 b ∨ (Ow.own 27 17 e_api_Addr v_49 l_49).foot b) b ∨ (Ow.own 27 17 e_api_Addr v_50 l_50).foot b) h_504 17 e_api_Addr v_50 l_50 := ⟨(hZ_4.own 0 rfl).slice, fun _ b hb => .inr hb⟩
          refine HS.call rfl (want_none) rfl (ec en_13 rfl rfl) (ref15_Apply_walk (fr := (Ow.box b_3 24 #[.bool b_4, v_1] :: Ow.box b_6 27 (e_api_Addr x_A).toArray :: Ow.own 40 19 e_api_Record vr_1 r_2 :: Ow.box b_408 35 #[.bool b_410, v_49, v_50] :: fr)) b_410 l_49 l_50 ((gi r_2 i_1).1) (((gi r_2 i_1).2.2).2) v_49 v_50 (((gi r_2 i_1).2.2).1) hS (hL_144.kp hkz_4) hL_145 (SliceF.kp (SliceF.kp (nff_api_Record_18 (NfL.at hL_140 ho_1)) hkz_3) hkz_4) hM) ?_
          rintro _ h_505 ⟨F_225, r_0_95, r_1_95, r_2_3, r_3_3, r_4_3, r_5_3, r_6_3, r_7_3, vr_1_95, vr_2_3, vr_3_3, vr_4_3, vr_6_3, rfl, hk, hS, _, _, _, hM⟩
          obtain ⟨hS, hk⟩ := hZ_4.back hk hS
          obtain ⟨hS, hk⟩ := hZ_3.back hk hS
          generalize (fun b => (fun b => F_225 b ∧ ¬ (Ow.own 27 17 e_api_Addr v_50 l_50).foot b) b ∧ ¬ (Ow.own 27 17 e_api_Addr v_49 l_49).foot b) = F_226 at hS hk
          replace hK := hK.trans hk
          replace hp := hp.kp hk
          replace ho := ho.kp hk
          replace hl := hl.kp hk
          replace hL_1 := hL_1.kp hk
          replace hL_2 := hL_2.kp hk
          replace hL_138 := hL_138.kp hk
          replace hL_139 := hL_139.kp hk
          replace hL_140 := hL_140.kp hk
          replace hL_141 := hL_141.kp hk
          refine HA.val (k := 12) (v := .agg #[.bool r_0_95, vr_1_95, vr_2_3]) rfl rfl (by kernel_rfl) (by kernel_rfl) (want_none) rfl (fun _ c414 => q_field (fun w => by kernel_rfl) rfl) ?_
          refine HA.one (k := 13) ⟨(hS.own 9 rfl), (at_now (hS.box 10 rfl) (Go.Wk.at_nil _ _))⟩ (by kernel_rfl) ?_
          refine HS.sto rfl (want_none) rfl (st_storeAgg (c' := #[.bool r_0_95, vr_1_95, vr_2_3]) hS (i := 10) rfl ta_35 rfl rfl rfl (List.forall_mem_cons.2 ⟨rfl, (List.forall_mem_cons.2 ⟨(shp (hS.own 2 rfl).slice).one, (List.forall_mem_cons.2 ⟨(shp (hS.own 3 rfl).slice).one, (fun _ h => by cases h)⟩)⟩)⟩) (Nat.le_of_ble_eq_true rfl) rfl) ?_
          rintro h_506 ⟨hS, hk⟩
          replace hS : St F_226 (Ow.own 27 17 e_api_Addr v_49 l_49 :: Ow.own 27 17 e_api_Addr v_50 l_50 :: Ow.own 27 17 e_api_Addr vr_1_95 r_1_95 :: Ow.own 27 17 e_api_Addr vr_2_3 r_2_3 :: Ow.own 27 17 e_api_Addr vr_3_3 r_3_3 :: Ow.own 27 17 e_api_Addr vr_4_3 r_4_3 :: Ow.own 27 17 e_api_Addr vr_6_3 r_6_3 :: Ow.box b_3 24 #[.bool b_4, v_1] :: Ow.box b_6 27 (e_api_Addr x_A).toArray :: Ow.own 40 19 e_api_Record vr_1 r_2 :: Ow.box b_408 35 #[.bool r_0_95, vr_1_95, vr_2_3] :: fr) h_506 := hS
          replace hK := hK.trans hk
          replace hp := hp.kp hk
          replace ho := ho.kp hk
          replace hl := hl.kp hk
          replace hL_1 := hL_1.kp hk
          replace hL_2 := hL_2.kp hk
          replace hL_138 := hL_138.kp hk
          replace hL_139 := hL_139.kp hk
          replace hL_140 := hL_140.kp hk
          replace hL_141 := hL_141.kp hk
          refine HA.nil ⟨(hS.own 9 rfl), (at_done (by kernel_rfl) (Go.Wk.at_nil _ _))⟩ (by kernel_rfl) (blockQ_normal (thenQ_normal (?_)))
          refine HW.region ?_
          refine HO.val (v := .int .i64 i_1) (want_none) rfl (q_move rfl) ?_
          obtain ⟨ho_2, hM⟩ := hM
          refine HO.val (v := .int .i64 (i_1 + 1)) (want_none) rfl (q_addN _ rfl rfl rfl ho_2.1 ho_2.2) ?_
          refine HO.val (v := .int .i64 (i_1 + 1)) (want_none) rfl (q_assign rfl) ?_
          refine HO.nil (thenQ_normal (?_))
          replace hS : St F_226 (Ow.box b_3 24 #[.bool b_4, v_1] :: Ow.box b_6 27 (e_api_Addr x_A).toArray :: Ow.own 40 19 e_api_Record vr_1 r_2 :: Ow.box b_408 35 #[.bool r_0_95, vr_1_95, vr_2_3] :: Ow.own 27 17 e_api_Addr vr_1_95 r_1_95 :: Ow.own 27 17 e_api_Addr vr_2_3 r_2_3 :: fr) h_506 := hS.perm2 [7, 8, 9, 10, 2, 3] 11 rfl rfl
          rw [hKe_1] at hM
          exact ⟨(r_0_95, r_1_95, r_2_3, i_1 + 1), ⟨F_226, vr_1_95, vr_2_3, rfl, rfl, rfl, rfl, rfl, rfl, hK, hS, hp, ho, hl, hL_1, hL_2, hL_138, hL_139, hL_140, hL_141, hM.1⟩, hM.2⟩
        · replace hM := hM.2 (of_decide_eq_false c_3)
          refine HW.exit (thenQ_exit (thenQ_exit (blockQ_exit (thenQ_normal (?_)))))
          refine HW.seq ?_
          refine HW.region ?_
          refine HO.val (v := .agg #[.bool b_4, v_1]) (want_none) rfl (q_loadAgg (cs := [.bool b_4, v_1]) ta_24 rfl rfl (Blk.cells (k := 2) (hS.box 0 rfl) rfl)) ?_
          refine HO.val (v := .agg (e_api_Addr x_A).toArray) (want_none) rfl (q_loadAgg (cs := (e_api_Addr x_A)) ta_27 rfl rfl (Blk.cells (k := 17) (hS.box 1 rfl) rfl)) ?_
          refine HO.call (want_none) rfl (ec en_14 rfl rfl) (ref19_Lets_walk (fr := (Ow.box b_3 24 #[.bool b_4, v_1] :: Ow.box b_6 27 (e_api_Addr x_A).toArray :: Ow.own 40 19 e_api_Record vr_1 r_2 :: Ow.box b_408 35 #[.bool b_410, v_49, v_50] :: Ow.own 27 17 e_api_Addr v_49 l_49 :: Ow.own 27 17 e_api_Addr v_50 l_50 :: fr)) b_4 l_1 x_A v_1 hS hL_2 hM) ?_
          rintro _ h_507 ⟨F_227, r_5, rfl, hk, hS, _, hM⟩
          replace hK := hK.trans hk
          replace hp := hp.kp hk
          replace ho := ho.kp hk
          replace hl := hl.kp hk
          replace hL_1 := hL_1.kp hk
          replace hL_2 := hL_2.kp hk
          replace hL_138 := hL_138.kp hk
          replace hL_139 := hL_139.kp hk
          replace hL_140 := hL_140.kp hk
          replace hL_141 := hL_141.kp hk
          refine HO.val (v := .bool (!r_5)) (want_none) rfl (q_not rfl) ?_
          refine HO.val (v := .bool (!r_5)) (want_none) rfl (q_move rfl) ?_
          rcases Bool.eq_false_or_eq_true (!r_5) with c_4 | c_4
          · replace hM := hM.1 c_4
            refine HO.past (past_by rfl rfl c_4) rfl ?_
            refine HO.past (past_by rfl rfl c_4) rfl ?_
            refine HO.past (past_by rfl rfl c_4) rfl ?_
            refine HO.val (v := .bool true) (want_none) rfl (q_pickK true rfl c_4 rfl) ?_
            refine HO.val (v := .bool true) (want_none) rfl (q_move rfl) ?_
            refine HO.call (want_some rfl rfl) rfl (ec en_16 rfl rfl) (law19_lives_walk (fr := (Ow.box b_3 24 #[.bool b_4, v_1] :: Ow.box b_6 27 (e_api_Addr x_A).toArray :: Ow.own 40 19 e_api_Record vr_1 r_2 :: Ow.box b_408 35 #[.bool b_410, v_49, v_50] :: Ow.own 27 17 e_api_Addr v_49 l_49 :: Ow.own 27 17 e_api_Addr v_50 l_50 :: fr))  hS hD hM) ?_
            rintro _ h_508 ⟨F_228, r_6, rfl, hk, hS, hM⟩
            replace hK := hK.trans hk
            replace hp := hp.kp hk
            replace ho := ho.kp hk
            replace hl := hl.kp hk
            replace hL_1 := hL_1.kp hk
            replace hL_2 := hL_2.kp hk
            replace hL_138 := hL_138.kp hk
            replace hL_139 := hL_139.kp hk
            replace hL_140 := hL_140.kp hk
            replace hL_141 := hL_141.kp hk
            refine HO.val (v := .bool r_6) (want_none) rfl (q_pick rfl rfl) ?_
            refine HO.val (v := .bool r_6) (want_none) rfl (q_assign rfl) ?_
            refine HO.nil (thenQ_normal (?_))
            refine HW.ret (?_)
            refine ⟨.inr rfl, .bool r_6, res1 rfl (rt rfl), ?_⟩
            replace hS : St F_228 (fr) h_508 := hS.perm2 [] 6 rfl rfl
            exact ⟨F_228, r_6, rfl, hK, hS, hp, ho, hl, hM⟩
          · replace hM := hM.2 c_4
            refine HO.val (v := .agg #[.bool b_410, v_49, v_50]) (want_by rfl rfl c_4) rfl (q_loadAgg (cs := [.bool b_410, v_49, v_50]) ta_35 rfl rfl (Blk.cells (k := 3) (hS.box 3 rfl) rfl)) ?_
            refine HO.val (v := .agg (e_api_Addr x_A).toArray) (want_by rfl rfl c_4) rfl (q_loadAgg (cs := (e_api_Addr x_A)) ta_27 rfl rfl (Blk.cells (k := 17) (hS.box 1 rfl) rfl)) ?_
            replace hS : St F_227 (Ow.own 27 17 e_api_Addr v_49 l_49 :: Ow.box b_3 24 #[.bool b_4, v_1] :: Ow.box b_6 27 (e_api_Addr x_A).toArray :: Ow.own 40 19 e_api_Record vr_1 r_2 :: Ow.box b_408 35 #[.bool b_410, v_49, v_50] :: Ow.own 27 17 e_api_Addr v_50 l_50 :: fr) h_507 := hS.perm2 [4, 0, 1, 2, 3, 5] 6 rfl rfl
            have hZ_5 := hS
            have hkz_5 := (hS.freeze).2
            replace hS := hS.freeze.1
            have hL_146 : SliceF (fun b => F_227 b ∨ (Ow.own 27 17 e_api_Addr v_49 l_49).foot b) h_507 17 e_api_Addr v_49 l_49 := ⟨(hZ_5.own 0 rfl).slice, fun _ b hb => .inr hb⟩
            replace hS : St (fun b => F_227 b ∨ (Ow.own 27 17 e_api_Addr v_49 l_49).foot b) (Ow.own 27 17 e_api_Addr v_50 l_50 :: Ow.box b_3 24 #[.bool b_4, v_1] :: Ow.box b_6 27 (e_api_Addr x_A).toArray :: Ow.own 40 19 e_api_Record vr_1 r_2 :: Ow.box b_408 35 #[.bool b_410, v_49, v_50] :: fr) h_507 := hS.perm2 [4, 0, 1, 2, 3] 5 rfl rfl
            have hZ_6 := hS
            have hkz_6 := (hS.freeze).2
            replace hS := hS.freeze.1
            have hL_147 : SliceF (fun b => (fun b => F_227 b ∨ (Ow.own 27 17 e_api_Addr v_49 l_49).foot b) b ∨ (Ow.own 27 17 e_api_Addr v_50 l_50).foot b) h_507 17 e_api_Addr v_50 l_50 := ⟨(hZ_6.own 0 rfl).slice, fun _ b hb => .inr hb⟩
            refine HO.call (want_by rfl rfl c_4) rfl (ec en_15 rfl rfl) (ref15_Lets_walk (fr := (Ow.box b_3 24 #[.bool b_4, v_1] :: Ow.box b_6 27 (e_api_Addr x_A).toArray :: Ow.own 40 19 e_api_Record vr_1 r_2 :: Ow.box b_408 35 #[.bool b_410, v_49, v_50] :: fr)) b_410 l_49 l_50 x_A v_49 v_50 hS (hL_146.kp hkz_6) hL_147 hM) ?_
            rintro _ h_509 ⟨F_229, r_7, rfl, hk, hS, _, _, hM⟩
            obtain ⟨hS, hk⟩ := hZ_6.back hk hS
            obtain ⟨hS, hk⟩ := hZ_5.back hk hS
            generalize (fun b => (fun b => F_229 b ∧ ¬ (Ow.own 27 17 e_api_Addr v_50 l_50).foot b) b ∧ ¬ (Ow.own 27 17 e_api_Addr v_49 l_49).foot b) = F_230 at hS hk
            replace hK := hK.trans hk
            replace hp := hp.kp hk
            replace ho := ho.kp hk
            replace hl := hl.kp hk
            replace hL_1 := hL_1.kp hk
            replace hL_2 := hL_2.kp hk
            replace hL_138 := hL_138.kp hk
            replace hL_139 := hL_139.kp hk
            replace hL_140 := hL_140.kp hk
            replace hL_141 := hL_141.kp hk
            refine HO.val (v := .bool r_7) (want_none) rfl (q_pickK false rfl c_4 rfl) ?_
            refine HO.val (v := .bool r_7) (want_none) rfl (q_move rfl) ?_
            rcases Bool.eq_false_or_eq_true r_7 with c_5 | c_5
            · replace hM := hM.1 c_5
              refine HO.call (want_by rfl rfl c_5) rfl (ec en_16 rfl rfl) (law19_lives_walk (fr := (Ow.own 27 17 e_api_Addr v_49 l_49 :: Ow.own 27 17 e_api_Addr v_50 l_50 :: Ow.box b_3 24 #[.bool b_4, v_1] :: Ow.box b_6 27 (e_api_Addr x_A).toArray :: Ow.own 40 19 e_api_Record vr_1 r_2 :: Ow.box b_408 35 #[.bool b_410, v_49, v_50] :: fr))  hS hD hM) ?_
              rintro _ h_510 ⟨F_231, r_8, rfl, hk, hS, hM⟩
              replace hK := hK.trans hk
              replace hp := hp.kp hk
              replace ho := ho.kp hk
              replace hl := hl.kp hk
              replace hL_1 := hL_1.kp hk
              replace hL_2 := hL_2.kp hk
              replace hL_138 := hL_138.kp hk
              replace hL_139 := hL_139.kp hk
              replace hL_140 := hL_140.kp hk
              replace hL_141 := hL_141.kp hk
              refine HO.val (v := .bool r_8) (want_none) rfl (q_pickK true rfl c_5 rfl) ?_
              refine HO.val (v := .bool r_8) (want_none) rfl (q_assign rfl) ?_
              refine HO.nil (thenQ_normal (?_))
              refine HW.ret (?_)
              refine ⟨.inr rfl, .bool r_8, res1 rfl (rt rfl), ?_⟩
              replace hS : St F_231 (fr) h_510 := hS.perm2 [] 6 rfl rfl
              exact ⟨F_231, r_8, rfl, hK, hS, hp, ho, hl, hM⟩
            · replace hM := hM.2 c_5
              refine HO.past (past_by rfl rfl c_5) rfl ?_
              refine HO.val (v := .bool false) (want_none) rfl (q_pickK false rfl c_5 rfl) ?_
              refine HO.val (v := .bool false) (want_none) rfl (q_assign rfl) ?_
              refine HO.nil (thenQ_normal (?_))
              refine HW.ret (?_)
              refine ⟨.inr rfl, .bool false, res1 rfl (rt rfl), ?_⟩
              replace hS : St F_230 (fr) h_509 := hS.perm2 [] 6 rfl rfl
              exact ⟨F_230, false, rfl, hK, hS, hp, ho, hl, hM⟩
end Go.Wk
