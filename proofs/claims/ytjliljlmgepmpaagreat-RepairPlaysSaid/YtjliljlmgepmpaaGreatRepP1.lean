/- The walks of RepairPlays. -/
import Derived.Test.YtjliljlmgepmpaaGreatRepA4
set_option linter.unusedSimpArgs false
set_option linter.unusedVariables false
set_option linter.unusedSectionVars false
set_option maxHeartbeats 40000000
set_option maxRecDepth 100000
namespace Go.Wk
open Go.HL
open Go.Proofs hiding encI
variable [DM]
theorem en_15 (args : Array Value) (w : World) : (callFunc 15 args).run Tryz.prog w = .ok (.enter 15 args) w := by kernel_rfl
theorem en_18 (args : Array Value) (w : World) : (callFunc 18 args).run Tryz.prog w = .ok (.enter 18 args) w := by kernel_rfl
theorem ta_24 : TAgg Tryz.prog 24 4 := ⟨Tryz.isAgg24, Tryz.sizeOf24⟩
theorem en_5 (args : Array Value) (w : World) : (callFunc 5 args).run Tryz.prog w = .ok (.enter 5 args) w := by kernel_rfl
theorem en_6 (args : Array Value) (w : World) : (callFunc 6 args).run Tryz.prog w = .ok (.enter 6 args) w := by kernel_rfl
theorem en_24 (args : Array Value) (w : World) : (callFunc 24 args).run Tryz.prog w = .ok (.enter 24 args) w := by kernel_rfl
theorem en_10 (args : Array Value) (w : World) : (callFunc 10 args).run Tryz.prog w = .ok (.enter 10 args) w := by kernel_rfl
theorem en_19 (args : Array Value) (w : World) : (callFunc 19 args).run Tryz.prog w = .ok (.enter 19 args) w := by kernel_rfl
theorem en_31 (args : Array Value) (w : World) : (callFunc 31 args).run Tryz.prog w = .ok (.enter 31 args) w := by kernel_rfl
theorem en_13 (args : Array Value) (w : World) : (callFunc 13 args).run Tryz.prog w = .ok (.enter 13 args) w := by kernel_rfl
theorem ts_25 : TSlice Tryz.prog 25 5 1 := ⟨Tryz.underlying25, Tryz.sizeOf5⟩
theorem en_12 (args : Array Value) (w : World) : (callFunc 12 args).run Tryz.prog w = .ok (.enter 12 args) w := by kernel_rfl
theorem en_23 (args : Array Value) (w : World) : (callFunc 23 args).run Tryz.prog w = .ok (.enter 23 args) w := by kernel_rfl
theorem en_22 (args : Array Value) (w : World) : (callFunc 22 args).run Tryz.prog w = .ok (.enter 22 args) w := by kernel_rfl
def law34_cut_l1 (l : List Int) (n : Int) (Q : (List Int) → Prop) (K_1 : (List Int) → Int → Prop) (out_1 : List Int) (i_1 : Int) : Prop :=
 (i_1 < (l.length : Int) → ((0 : Int) ≤ i_1 ∧ i_1 < (l.length : Int)) ∧ ((¬ ((gi l i_1) = n) → ((out_1.length + ([(gi l i_1)] : List Int).length) * 8 ≤ 140737488355328) ∧ ((I64 (i_1 + 1)) ∧ (K_1 (out_1 ++ ([(gi l i_1)] : List Int)) (i_1 + 1)))) ∧ ((gi l i_1) = n → (I64 (i_1 + 1)) ∧ (K_1 out_1 (i_1 + 1))))) ∧ (¬ (i_1 < (l.length : Int)) → Q out_1)
def law34_cut_W (l : List Int) (n : Int) (Q : (List Int) → Prop) : Prop :=
 loopW (fun (K_1 : (List Int × Int) → Prop) (s : List Int × Int) => law34_cut_l1 l n Q (fun out_1 i_1 => K_1 (out_1, i_1)) s.1 s.2) ([], 0)
theorem law34_cut_walk {F : Fz} {fr : List Ow} {h0 : Heap} (l : List Int) (n : Int) (vl : Value) (hS : St F (fr) h0) (hL_l : SliceF F h0 1 encI vl l) {Q : (List Int) → Prop} (hM : law34_cut_W l n Q) :
  HC Tryz.prog 12 #[vl, .int .i64 n] h0 fun u h' => ∃ (F' : Fz) (r_1 : List Int) (vr_1 : Value), u = vr_1 ∧ Kp F h0 F' h' ∧ St F' (Ow.own 3 1 encI vr_1 r_1 :: fr) h' ∧ (SliceF F' h' 1 encI vl l) ∧ Q r_1 := by
 unfold law34_cut_W at hM
 have hK := Kp.refl F h0
 refine HC.of_HW (n := 28) Tryz.func12 rfl rfl (Nat.le_of_ble_eq_true rfl) ?_
 refine HW.seq ?_
 refine HW.region ?_
 refine oA (.slice none 0 0) rfl rfl ?_
 refine HO.nil (tqn (?_))
 refine HW.seq ?_
 refine HW.region ?_
 refine HO.eff (wn) rfl (st_litEmpty (α := Int) encI hS tl_22) ?_
 rintro _ h_1 ⟨b_1, rfl, hS, hk⟩
 replace hK := hK.trans hk
 replace hL_l := hL_l.kp hk
 refine oA (.slice (some ⟨b_1, 0, none⟩) 0 0) rfl rfl ?_
 refine HO.nil (tqn (?_))
 refine HW.seq ?_
 refine HW.seq ?_
 refine HW.region ?_
 refine oA (.int .i64 0) rfl rfl ?_
 refine HO.nil (tqn (?_))
 refine HW.block ?_
 obtain ⟨I_1, m_1, hI_1, hR_1⟩ := hM
 refine HW.loop (S := List Int × Int) (fun s f h => match s with | (out_1, i_1) => ∃ (F' : Fz) (vout_1 : Value), f 0 = vl ∧ f 1 = .int .i64 n ∧ f 4 = .slice none 0 0 ∧ f 5 = vout_1 ∧ f 6 = .int .i64 i_1 ∧ Kp F h0 F' h ∧ St F' (Ow.own 3 1 encI vout_1 out_1 :: fr) h ∧ (SliceF F' h 1 encI vl l) ∧ I_1 (out_1, i_1)) m_1 ([], 0) ⟨F, .slice (some ⟨b_1, 0, none⟩) 0 0, rfl, rfl, rfl, rfl, rfl, hK, hS, hL_l, hI_1⟩ ?_
 rintro ⟨out_1, i_1⟩ f_1 h_2 ⟨F_1, vout_1, e0, e1, e4, e5, e6, hK, hS, hL_l, hI0⟩
 obtain ⟨K_1, hKe_1⟩ : ∃ K : (List Int) → Int → Prop, K = fun out_1' i_1' => I_1 (out_1', i_1') ∧ m_1 (out_1', i_1') < m_1 (out_1, i_1) := ⟨_, rfl⟩
 have hM : law34_cut_l1 l n Q K_1 out_1 i_1 := by rw [hKe_1]; exact hR_1 (out_1, i_1) hI0
 unfold law34_cut_l1 at hM
 refine HW.fr [(0, vl), (1, .int .i64 n), (4, .slice none 0 0), (5, vout_1), (6, .int .i64 i_1)] ⟨e0, e1, e4, e5, e6, trivial⟩ ?_
 refine HW.seq ?_
 refine HW.seq ?_
 refine HW.region ?_
 refine oM (.int .i64 i_1) rfl rfl ?_
 refine oM (vl) rfl rfl ?_
 refine oV (.int .i64 (l.length : Int)) (q_len ts_22 (shp hL_l.is) rfl rfl) rfl ?_
 refine oV (.bool (decide (i_1 < (l.length : Int)))) (q_lss rfl rfl) rfl ?_
 refine HO.nil (tqn (?_))
 refine HW.cond (decide (i_1 < (l.length : Int))) rfl (fun c_1 => ?_) (fun c_1 => ?_)
 ·
  replace hM := hM.1 (of_decide_eq_true c_1)
  refine HW.skip (tqn (?_))
  refine HW.seq ?_
  refine HW.block ?_
  refine HW.seq ?_
  refine HW.region ?_
  refine oM (vl) rfl rfl ?_
  refine oM (.int .i64 i_1) rfl rfl ?_
  obtain ⟨ho_1, hM⟩ := hM
  refine oV (elemPtr 1 vl (i_1).toNat) (q_idx ts_22 hL_l.is rfl rfl ho_1) rfl ?_
  refine oV (.int .i64 (gi l i_1)) (q_ldElem to_3 hL_l.is rfl ho_1 rfl) rfl ?_
  refine oM (.int .i64 n) rfl rfl ?_
  refine oV (.bool (!decide ((gi l i_1) = n))) (q_neq rfl rfl) rfl ?_
  refine HO.nil (tqn (?_))
  refine HW.cond (!decide ((gi l i_1) = n)) rfl (fun c_2 => ?_) (fun c_2 => ?_)
  ·
   replace hM := hM.1 (nd_true c_2)
   refine HW.region ?_
   refine oM (vout_1) rfl rfl ?_
   refine oM (vl) rfl rfl ?_
   refine oM (.int .i64 i_1) rfl rfl ?_
   refine oV (elemPtr 1 vl (i_1).toNat) (q_idx ts_22 hL_l.is rfl rfl ho_1) rfl ?_
   refine oV (.int .i64 (gi l i_1)) (q_ldElem to_3 hL_l.is rfl ho_1 rfl) rfl ?_
   refine HO.eff (wn) rfl (st_lit (enc := encI) (cells := #[.int .i64 (gi l i_1)]) #[.int .i64 0] ([(gi l i_1)] : List Int) hS tl_22 (by decide) (by decide) (by kernel_rfl) (by kernel_rfl) rfl (by intro x hx; rfl) rfl) ?_
   rintro _ h_3 ⟨b_2, rfl, hS, hk⟩
   replace hK := hK.trans hk
   replace hL_l := hL_l.kp hk
   obtain ⟨ho_2, hM⟩ := hM
   refine HO.eff (wn) rfl (st_append te_22 hS (i := 1) rfl (hS.own 0 rfl).slice rfl rfl rfl (by intro a _ u hu; simp [encI, encI, encN, encB, encT] at hu; subst hu; rfl) ho_2 (by omega)) ?_
   rintro v_1 h_4 ⟨hS, hk⟩
   replace hK := hK.trans hk
   replace hL_l := hL_l.kp hk
   refine oA (v_1) rfl rfl ?_
   refine HO.nil (blockQ_normal (tqn (?_)))
   refine HW.region ?_
   refine oM (.int .i64 i_1) rfl rfl ?_
   obtain ⟨ho_3, hM⟩ := hM
   refine oV (.int .i64 (i_1 + 1)) (q_addN _ rfl rfl rfl ho_3.1 ho_3.2) rfl ?_
   refine oA (.int .i64 (i_1 + 1)) rfl rfl ?_
   refine HO.nil (tqn (?_))
   replace hS : St F_1 (Ow.own 3 1 encI v_1 (out_1 ++ ([(gi l i_1)] : List Int)) :: fr) h_4 := hS.perm2 [1] 2 rfl rfl
   rw [hKe_1] at hM
   exact ⟨(out_1 ++ ([(gi l i_1)] : List Int), i_1 + 1), ⟨F_1, v_1, rfl, rfl, rfl, rfl, rfl, hK, hS, hL_l, hM.1⟩, hM.2⟩
  ·
   replace hM := hM.2 (nd_false c_2)
   refine HW.skip (blockQ_normal (tqn (?_)))
   refine HW.region ?_
   refine oM (.int .i64 i_1) rfl rfl ?_
   obtain ⟨ho_4, hM⟩ := hM
   refine oV (.int .i64 (i_1 + 1)) (q_addN _ rfl rfl rfl ho_4.1 ho_4.2) rfl ?_
   refine oA (.int .i64 (i_1 + 1)) rfl rfl ?_
   refine HO.nil (tqn (?_))
   rw [hKe_1] at hM
   exact ⟨(out_1, i_1 + 1), ⟨F_1, vout_1, rfl, rfl, rfl, rfl, rfl, hK, hS, hL_l, hM.1⟩, hM.2⟩
 ·
  replace hM := hM.2 (of_decide_eq_false c_1)
  refine HW.exit (thenQ_exit (thenQ_exit (blockQ_exit (tqn (?_)))))
  refine HW.seq ?_
  refine HW.region ?_
  refine oM (vout_1) rfl rfl ?_
  refine oA (vout_1) rfl rfl ?_
  refine HO.nil (tqn (?_))
  refine HW.ret (?_)
  refine ⟨.inr rfl, vout_1, res1 rfl (rt rfl), ?_⟩
  exact ⟨F_1, out_1, vout_1, rfl, hK, hS, hL_l, hM⟩
def ref32_Parent_l1 (tL : List TB) (n : Int) (Q : Int → Bool → Prop) (K_1 : Int → Prop) (i_1 : Int) : Prop :=
 (i_1 < (tL.length : Int) → ((0 : Int) ≤ i_1 ∧ i_1 < (tL.length : Int)) ∧ ((((gi tL i_1).2) = n → Q ((gi tL i_1).1) true) ∧ (¬ (((gi tL i_1).2) = n) → (I64 (i_1 + 1)) ∧ (K_1 (i_1 + 1))))) ∧ (¬ (i_1 < (tL.length : Int)) → Q 0 false)
def ref32_Parent_W (tR : Int) (tL : List TB) (n : Int) (Q : Int → Bool → Prop) : Prop :=
 loopW (fun (K_1 : Int → Prop) (s : Int) => ref32_Parent_l1 tL n Q K_1 s) 0
theorem ref32_Parent_walk {F : Fz} {fr : List Ow} {h0 : Heap} (tR : Int) (tL : List TB) (n : Int) (vT : Value) (hS : St F (fr) h0) (hLT : SliceF F h0 2 eB vT tL) {Q : Int → Bool → Prop} (hM : ref32_Parent_W tR tL n Q) :
  HC Tryz.prog 31 #[.agg #[.int .i64 tR, vT], .int .i64 n] h0 fun u h' => ∃ (F' : Fz) (r0_1 : Int) (r1_1 : Bool), u = .tuple #[.int .i64 r0_1, .bool r1_1] ∧ Kp F h0 F' h' ∧ St F' (fr) h' ∧ (SliceF F' h' 2 eB vT tL) ∧ Q r0_1 r1_1 := by
 unfold ref32_Parent_W at hM
 have hK := Kp.refl F h0
 refine HC.of_HW (n := 28) Tryz.func31 rfl rfl (Nat.le_of_ble_eq_true rfl) ?_
 refine HW.seq ?_
 refine HW.region ?_
 refine HO.eff (wn) rfl (st_box (c := #[.int .i64 tR, vT]) (k' := 2) hS rfl rfl) ?_
 rintro _ h_1 ⟨b_1, rfl, hS, hk⟩
 replace hK := hK.trans hk
 replace hLT := hLT.kp hk
 refine oA (.int .i64 0) rfl rfl ?_
 refine oA (.bool false) rfl rfl ?_
 refine HO.nil (tqn (?_))
 refine HW.seq ?_
 refine HW.seq ?_
 refine HW.region ?_
 refine oA (.int .i64 0) rfl rfl ?_
 refine HO.nil (tqn (?_))
 refine HW.block ?_
 obtain ⟨I_1, m_1, hI_1, hR_1⟩ := hM
 refine HW.loop (S := Int) (fun i_1 f h => ∃ (F' : Fz), f 1 = .int .i64 n ∧ f 2 = .pointer (some ⟨b_1, 0, none⟩) ∧ f 4 = .int .i64 0 ∧ f 5 = .bool false ∧ f 6 = .int .i64 i_1 ∧ Kp F h0 F' h ∧ St F' (Ow.box b_1 31 #[.int .i64 tR, vT] :: fr) h ∧ (SliceF F' h 2 eB vT tL) ∧ I_1 i_1) m_1 0 ⟨F, rfl, rfl, rfl, rfl, rfl, hK, hS, hLT, hI_1⟩ ?_
 rintro i_1 f_1 h_2 ⟨F_1, e1, e2, e4, e5, e6, hK, hS, hLT, hI0⟩
 obtain ⟨K_1, hKe_1⟩ : ∃ K : Int → Prop, K = fun i_1' => I_1 i_1' ∧ m_1 i_1' < m_1 i_1 := ⟨_, rfl⟩
 have hM : ref32_Parent_l1 tL n Q K_1 i_1 := by rw [hKe_1]; exact hR_1 i_1 hI0
 unfold ref32_Parent_l1 at hM
 refine HW.fr [(1, .int .i64 n), (2, .pointer (some ⟨b_1, 0, none⟩)), (4, .int .i64 0), (5, .bool false), (6, .int .i64 i_1)] ⟨e1, e2, e4, e5, e6, trivial⟩ ?_
 refine HW.seq ?_
 refine HW.seq ?_
 refine HW.region ?_
 refine oM (.int .i64 i_1) rfl rfl ?_
 refine oV (.pointer (some ⟨b_1, 1, none⟩)) (qfA fa_31_1 rfl rfl) rfl ?_
 refine oV (vT) (q_load to_29 rfl (Blk.cell (hS.box 0 rfl) rfl)) rfl ?_
 refine oV (.int .i64 (tL.length : Int)) (q_len ts_29 (shp hLT.is) rfl rfl) rfl ?_
 refine oV (.bool (decide (i_1 < (tL.length : Int)))) (q_lss rfl rfl) rfl ?_
 refine HO.nil (tqn (?_))
 refine HW.cond (decide (i_1 < (tL.length : Int))) rfl (fun c_1 => ?_) (fun c_1 => ?_)
 ·
  replace hM := hM.1 (of_decide_eq_true c_1)
  refine HW.skip (tqn (?_))
  refine HW.seq ?_
  refine HW.block ?_
  refine HW.seq ?_
  refine HW.region ?_
  refine oV (.pointer (some ⟨b_1, 1, none⟩)) (qfA fa_31_1 rfl rfl) rfl ?_
  refine oV (vT) (q_load to_29 rfl (Blk.cell (hS.box 0 rfl) rfl)) rfl ?_
  refine oM (.int .i64 i_1) rfl rfl ?_
  obtain ⟨ho_1, hM⟩ := hM
  refine oV (elemPtr 2 vT (i_1).toNat) (q_idx ts_29 hLT.is rfl rfl ho_1) rfl ?_
  refine oV (fieldPtr 2 vT (i_1).toNat 1) (q_fldElem fa_52_1 hLT.is rfl ho_1) rfl ?_
  refine oV (.int .i64 ((gi tL i_1).2)) (q_ldField to_3 hLT.is rfl ho_1 (by decide) rfl) rfl ?_
  refine oM (.int .i64 n) rfl rfl ?_
  refine oV (.bool (decide (((gi tL i_1).2) = n))) (q_eql rfl rfl) rfl ?_
  refine HO.nil (tqn (?_))
  refine HW.cond (decide (((gi tL i_1).2) = n)) rfl (fun c_2 => ?_) (fun c_2 => ?_)
  ·
   replace hM := hM.1 (of_decide_eq_true c_2)
   refine HW.seq ?_
   refine HW.region ?_
   refine oV (.pointer (some ⟨b_1, 1, none⟩)) (qfA fa_31_1 rfl rfl) rfl ?_
   refine oV (vT) (q_load to_29 rfl (Blk.cell (hS.box 0 rfl) rfl)) rfl ?_
   refine oM (.int .i64 i_1) rfl rfl ?_
   refine oV (elemPtr 2 vT (i_1).toNat) (q_idx ts_29 hLT.is rfl rfl ho_1) rfl ?_
   refine oV (fieldPtr 2 vT (i_1).toNat 0) (q_fldElem fa_52_0 hLT.is rfl ho_1) rfl ?_
   refine oV (.int .i64 ((gi tL i_1).1)) (q_ldField to_3 hLT.is rfl ho_1 (by decide) rfl) rfl ?_
   refine oA (.int .i64 ((gi tL i_1).1)) rfl rfl ?_
   refine oA (.bool true) rfl rfl ?_
   refine HO.nil (tqn (?_))
   refine HW.ret (blockQ_ret (thenQ_ret (thenQ_ret (blockQ_ret (thenQ_ret (?_))))))
   refine ⟨.inr rfl, .tuple #[.int .i64 ((gi tL i_1).1), .bool true], res2 rfl (rt rfl) (rt rfl), ?_⟩
   replace hS : St F_1 (fr) h_2 := hS.perm2 [] 1 rfl rfl
   exact ⟨F_1, (gi tL i_1).1, true, rfl, hK, hS, hLT, hM⟩
  ·
   replace hM := hM.2 (of_decide_eq_false c_2)
   refine HW.skip (blockQ_normal (tqn (?_)))
   refine HW.region ?_
   refine oM (.int .i64 i_1) rfl rfl ?_
   obtain ⟨ho_2, hM⟩ := hM
   refine oV (.int .i64 (i_1 + 1)) (q_addN _ rfl rfl rfl ho_2.1 ho_2.2) rfl ?_
   refine oA (.int .i64 (i_1 + 1)) rfl rfl ?_
   refine HO.nil (tqn (?_))
   rw [hKe_1] at hM
   exact ⟨i_1 + 1, ⟨F_1, rfl, rfl, rfl, rfl, rfl, hK, hS, hLT, hM.1⟩, hM.2⟩
 ·
  replace hM := hM.2 (of_decide_eq_false c_1)
  refine HW.exit (thenQ_exit (thenQ_exit (blockQ_exit (tqn (?_)))))
  refine HW.seq ?_
  refine HW.region ?_
  refine oA (.int .i64 0) rfl rfl ?_
  refine oA (.bool false) rfl rfl ?_
  refine HO.nil (tqn (?_))
  refine HW.ret (?_)
  refine ⟨.inr rfl, .tuple #[.int .i64 0, .bool false], res2 rfl (rt rfl) (rt rfl), ?_⟩
  replace hS : St F_1 (fr) h_2 := hS.perm2 [] 1 rfl rfl
  exact ⟨F_1, 0, false, rfl, hK, hS, hLT, hM⟩
def ref32_Path_B (R : Int → (List TB) → Int → ((List Int) → Prop) → Prop) (tR : Int) (tL : List TB) (n : Int) (Q : (List Int) → Prop) : Prop :=
 (n = tR → Q ([n] : List Int)) ∧ (¬ (n = tR) → ref32_Parent_W tR tL n (fun r0_1 r1_1 => ((!r1_1) = true → Q []) ∧ ((!r1_1) = false → R tR tL r0_1 (fun r_2 => ((r_2.length + ([n] : List Int).length) * 8 ≤ 140737488355328) ∧ (Q (r_2 ++ ([n] : List Int)))))))
def ref32_Path_Wn : Nat → Int → (List TB) → Int → ((List Int) → Prop) → Prop
 | 0 => fun _ _ _ _ => False
 | n + 1 => ref32_Path_B (ref32_Path_Wn n)
def ref32_Path_W (tR : Int) (tL : List TB) (n : Int) (Q : (List Int) → Prop) : Prop :=
 ∃ fu_ : Nat, ref32_Path_Wn fu_ tR tL n Q
theorem ref32_Path_walkn : ∀ (n_ : Nat) {F : Fz} {fr : List Ow} {h0 : Heap} (tR : Int) (tL : List TB) (n : Int) (vT : Value) (hS : St F (fr) h0) (hLT : SliceF F h0 2 eB vT tL) {Q : (List Int) → Prop} (hM : ref32_Path_Wn n_ tR tL n Q),
  HC Tryz.prog 13 #[.agg #[.int .i64 tR, vT], .int .i64 n] h0 fun u h' => ∃ (F' : Fz) (r_1 : List Int) (vr_1 : Value), u = vr_1 ∧ Kp F h0 F' h' ∧ St F' (Ow.own 3 1 encI vr_1 r_1 :: fr) h' ∧ (SliceF F' h' 2 eB vT tL) ∧ Q r_1 := by
 intro n_
 induction n_ with
 | zero => intro F fr h0 tR tL n vT hS hLT Q hM; exact hM.elim
 | succ n_ ih => ?_
 intro F fr h0 tR tL n vT hS hLT Q hM
 replace hM : ref32_Path_B (ref32_Path_Wn n_) tR tL n Q := hM
 unfold ref32_Path_B at hM
 generalize ref32_Path_Wn n_ = R at ih hM
 have hK := Kp.refl F h0
 refine HC.of_HW (n := 27) Tryz.func13 rfl rfl (Nat.le_of_ble_eq_true rfl) ?_
 refine HW.seq ?_
 refine HW.region ?_
 refine HO.eff (wn) rfl (st_box (c := #[.int .i64 tR, vT]) (k' := 2) hS rfl rfl) ?_
 rintro _ h_1 ⟨b_1, rfl, hS, hk⟩
 replace hK := hK.trans hk
 replace hLT := hLT.kp hk
 refine oA (.slice none 0 0) rfl rfl ?_
 refine HO.nil (tqn (?_))
 refine HW.seq ?_
 refine HW.seq ?_
 refine HW.region ?_
 refine oM (.int .i64 n) rfl rfl ?_
 refine oV (.pointer (some ⟨b_1, 0, none⟩)) (qfA fa_31_0 rfl rfl) rfl ?_
 refine oV (.int .i64 tR) (q_load to_3 rfl (Blk.cell (hS.box 0 rfl) rfl)) rfl ?_
 refine oV (.bool (decide (n = tR))) (q_eql rfl rfl) rfl ?_
 refine HO.nil (tqn (?_))
 refine HW.cond (decide (n = tR)) rfl (fun c_1 => ?_) (fun c_1 => ?_)
 ·
  replace hM := hM.1 (of_decide_eq_true c_1)
  refine HW.seq ?_
  refine HW.region ?_
  refine oM (.int .i64 n) rfl rfl ?_
  refine HO.eff (wn) rfl (st_lit (enc := encI) (cells := #[.int .i64 n]) #[.int .i64 0] ([n] : List Int) hS tl_22 (by decide) (by decide) (by kernel_rfl) (by kernel_rfl) rfl (by intro x hx; rfl) rfl) ?_
  rintro _ h_2 ⟨b_2, rfl, hS, hk⟩
  replace hK := hK.trans hk
  replace hLT := hLT.kp hk
  refine oA (.slice (some ⟨b_2, 0, none⟩) 1 1) rfl rfl ?_
  refine HO.nil (tqn (?_))
  refine HW.ret (thenQ_ret (?_))
  refine ⟨.inr rfl, .slice (some ⟨b_2, 0, none⟩) 1 1, res1 rfl (rt rfl), ?_⟩
  replace hS : St F (Ow.own 3 1 encI (.slice (some ⟨b_2, 0, none⟩) 1 1) ([n] : List Int) :: fr) h_2 := hS.perm2 [0] 2 rfl rfl
  exact ⟨F, ([n] : List Int), .slice (some ⟨b_2, 0, none⟩) 1 1, rfl, hK, hS, hLT, hM⟩
 ·
  replace hM := hM.2 (of_decide_eq_false c_1)
  refine HW.skip (tqn (?_))
  refine HW.seq ?_
  refine HW.region ?_
  refine oV (.agg #[.int .i64 tR, vT]) (q_loadAgg (cs := [.int .i64 tR, vT]) ta_31 rfl rfl (Blk.cells (k := 2) (hS.box 0 rfl) rfl)) rfl ?_
  refine oM (.int .i64 n) rfl rfl ?_
  refine HO.call (wn) rfl (ec en_31 rfl rfl) (ref32_Parent_walk (fr := (Ow.box b_1 31 #[.int .i64 tR, vT] :: fr)) tR tL n vT hS hLT hM) ?_
  rintro _ h_3 ⟨F_1, r0_1, r1_1, rfl, hk, hS, _, hM⟩
  replace hK := hK.trans hk
  replace hLT := hLT.kp hk
  refine oM (.tuple #[.int .i64 r0_1, .bool r1_1]) rfl rfl ?_
  refine oV (.int .i64 r0_1) (q_extract rfl rfl) rfl ?_
  refine oV (.bool r1_1) (q_extract rfl rfl) rfl ?_
  refine oA (.int .i64 r0_1) rfl rfl ?_
  refine oA (.bool r1_1) rfl rfl ?_
  refine HO.nil (tqn (?_))
  refine HW.seq ?_
  refine HW.seq ?_
  refine HW.region ?_
  refine oM (.bool r1_1) rfl rfl ?_
  refine oV (.bool (!r1_1)) (q_not rfl) rfl ?_
  refine HO.nil (tqn (?_))
  refine HW.cond (!r1_1) rfl (fun c_2 => ?_) (fun c_2 => ?_)
  ·
   replace hM := hM.1 c_2
   refine HW.seq ?_
   refine HW.region ?_
   refine oA (.slice none 0 0) rfl rfl ?_
   refine HO.nil (tqn (?_))
   refine HW.ret (thenQ_ret (?_))
   refine ⟨.inr rfl, .slice none 0 0, res1 rfl (rt rfl), ?_⟩
   replace hS := hS.nilOwn 3 1 encI
   replace hS : St F_1 (Ow.own 3 1 encI (.slice none 0 0) ([] : List Int) :: fr) h_3 := hS.perm2 [0] 2 rfl rfl
   exact ⟨F_1, [], .slice none 0 0, rfl, hK, hS, hLT, hM⟩
  ·
   replace hM := hM.2 c_2
   refine HW.skip (tqn (?_))
   refine HW.seq ?_
   refine HW.region ?_
   refine oV (.agg #[.int .i64 tR, vT]) (q_loadAgg (cs := [.int .i64 tR, vT]) ta_31 rfl rfl (Blk.cells (k := 2) (hS.box 0 rfl) rfl)) rfl ?_
   refine oM (.int .i64 r0_1) rfl rfl ?_
   refine HO.call (wn) rfl (ec en_13 rfl rfl) (ih (fr := (Ow.box b_1 31 #[.int .i64 tR, vT] :: fr)) tR tL r0_1 vT hS hLT hM) ?_
   rintro vr_2 h_4 ⟨F_2, r_2, _, rfl, hk, hS, _, hM⟩
   replace hK := hK.trans hk
   replace hLT := hLT.kp hk
   refine oM (.int .i64 n) rfl rfl ?_
   refine HO.eff (wn) rfl (st_lit (enc := encI) (cells := #[.int .i64 n]) #[.int .i64 0] ([n] : List Int) hS tl_22 (by decide) (by decide) (by kernel_rfl) (by kernel_rfl) rfl (by intro x hx; rfl) rfl) ?_
   rintro _ h_5 ⟨b_3, rfl, hS, hk⟩
   replace hK := hK.trans hk
   replace hLT := hLT.kp hk
   obtain ⟨ho_1, hM⟩ := hM
   refine HO.eff (wn) rfl (st_append te_22 hS (i := 1) rfl (hS.own 0 rfl).slice rfl rfl rfl (by intro a _ u hu; simp [encI, encI, encN, encB, encT] at hu; subst hu; rfl) ho_1 (by omega)) ?_
   rintro v_1 h_6 ⟨hS, hk⟩
   replace hK := hK.trans hk
   replace hLT := hLT.kp hk
   refine oA (v_1) rfl rfl ?_
   refine HO.nil (tqn (?_))
   refine HW.ret (?_)
   refine ⟨.inr rfl, v_1, res1 rfl (rt rfl), ?_⟩
   replace hS : St F_2 (Ow.own 3 1 encI v_1 (r_2 ++ ([n] : List Int)) :: fr) h_6 := hS.perm2 [1] 3 rfl rfl
   exact ⟨F_2, r_2 ++ ([n] : List Int), v_1, rfl, hK, hS, hLT, hM⟩
theorem ref32_Path_walk {F : Fz} {fr : List Ow} {h0 : Heap} (tR : Int) (tL : List TB) (n : Int) (vT : Value) (hS : St F (fr) h0) (hLT : SliceF F h0 2 eB vT tL) {Q : (List Int) → Prop} (hM : ref32_Path_W tR tL n Q) :
  HC Tryz.prog 13 #[.agg #[.int .i64 tR, vT], .int .i64 n] h0 fun u h' => ∃ (F' : Fz) (r_1 : List Int) (vr_1 : Value), u = vr_1 ∧ Kp F h0 F' h' ∧ St F' (Ow.own 3 1 encI vr_1 r_1 :: fr) h' ∧ (SliceF F' h' 2 eB vT tL) ∧ Q r_1 := by
 obtain ⟨n_, hM⟩ := hM
 exact ref32_Path_walkn n_ tR tL n vT hS hLT hM
def ref32_Changed_l2 (a_Root : Int) (a_Links : List TB) (b_Root : Int) (b_Links : List TB) (Q : (List Int) → Prop) (all_1 : List Int) (K_2 : (List Int) → Int → Prop) (out_1 : List Int) (i_2 : Int) : Prop :=
 (i_2 < (all_1.length : Int) → ((0 : Int) ≤ i_2 ∧ i_2 < (all_1.length : Int)) ∧ (ref32_Next_W a_Root a_Links (gi all_1 i_2) (fun r_3 => ref32_Next_W b_Root b_Links (gi all_1 i_2) (fun r_4 => ref32_SameInts_W r_3 r_4 (fun r_5 => ((!r_5) = true → ((out_1.length + ([(gi all_1 i_2)] : List Int).length) * 8 ≤ 140737488355328) ∧ ((I64 (i_2 + 1)) ∧ (K_2 (out_1 ++ ([(gi all_1 i_2)] : List Int)) (i_2 + 1)))) ∧ ((!r_5) = false → (I64 (i_2 + 1)) ∧ (K_2 out_1 (i_2 + 1)))))))) ∧ (¬ (i_2 < (all_1.length : Int)) → Q out_1)
def ref32_Changed_l1 (a_Root : Int) (a_Links : List TB) (b_Root : Int) (b_Links : List TB) (Q : (List Int) → Prop) (K_1 : (List Int) → Int → Prop) (all_1 : List Int) (i_1 : Int) : Prop :=
 (i_1 < (((([] : List TB) ++ a_Links) ++ b_Links).length : Int) → ((0 : Int) ≤ i_1 ∧ i_1 < (((([] : List TB) ++ a_Links) ++ b_Links).length : Int)) ∧ (ref32_Add_W all_1 ((gi ((([] : List TB) ++ a_Links) ++ b_Links) i_1).1) (fun r_2 => (I64 (i_1 + 1)) ∧ (K_1 r_2 (i_1 + 1))))) ∧ (¬ (i_1 < (((([] : List TB) ++ a_Links) ++ b_Links).length : Int)) → loopW (fun (K_2 : (List Int × Int) → Prop) (s : List Int × Int) => ref32_Changed_l2 a_Root a_Links b_Root b_Links Q all_1 (fun out_1 i_2 => K_2 (out_1, i_2)) s.1 s.2) ([], 0))
def ref32_Changed_j1 (a_Root : Int) (a_Links : List TB) (b_Root : Int) (b_Links : List TB) (Q : (List Int) → Prop) : Prop :=
 loopW (fun (K_1 : (List Int × Int) → Prop) (s : List Int × Int) => ref32_Changed_l1 a_Root a_Links b_Root b_Links Q (fun all_1 i_1 => K_1 (all_1, i_1)) s.1 s.2) ([], 0)
def ref32_Changed_W (a_Root : Int) (a_Links : List TB) (b_Root : Int) (b_Links : List TB) (Q : (List Int) → Prop) : Prop :=
 ((([] : List TB).length + a_Links.length) * 16 ≤ 140737488355328) ∧ ((((([] : List TB) ++ a_Links).length + b_Links.length) * 16 ≤ 140737488355328) ∧ (ref32_Changed_j1 a_Root a_Links b_Root b_Links Q))
theorem ref32_Changed_walk {F : Fz} {fr : List Ow} {h0 : Heap} (a_Root : Int) (a_Links : List TB) (b_Root : Int) (b_Links : List TB) (va_Links : Value) (vb_Links : Value) (hS : St F (fr) h0) (hLaL : SliceF F h0 2 eB va_Links a_Links) (hLbL : SliceF F h0 2 eB vb_Links b_Links) {Q : (List Int) → Prop} (hM : ref32_Changed_W a_Root a_Links b_Root b_Links Q) :
  HC Tryz.prog 23 #[.agg #[.int .i64 a_Root, va_Links], .agg #[.int .i64 b_Root, vb_Links]] h0 fun u h' => ∃ (F' : Fz) (r_1 : List Int) (vr_1 : Value), u = vr_1 ∧ Kp F h0 F' h' ∧ St F' (Ow.own 3 1 encI vr_1 r_1 :: fr) h' ∧ (SliceF F' h' 2 eB va_Links a_Links) ∧ (SliceF F' h' 2 eB vb_Links b_Links) ∧ Q r_1 := by
 unfold ref32_Changed_W at hM
 have hK := Kp.refl F h0
 refine HC.of_HW (n := 60) Tryz.func23 rfl rfl (Nat.le_of_ble_eq_true rfl) ?_
 refine HW.seq ?_
 refine HW.region ?_
 refine HO.eff (wn) rfl (st_box (c := #[.int .i64 a_Root, va_Links]) (k' := 2) hS rfl rfl) ?_
 rintro _ h_1 ⟨b_1, rfl, hS, hk⟩
 replace hK := hK.trans hk
 replace hLaL := hLaL.kp hk
 replace hLbL := hLbL.kp hk
 refine HO.eff (wn) rfl (st_box (c := #[.int .i64 b_Root, vb_Links]) (k' := 2) hS rfl rfl) ?_
 rintro _ h_2 ⟨b_2, rfl, hS, hk⟩
 replace hK := hK.trans hk
 replace hLaL := hLaL.kp hk
 replace hLbL := hLbL.kp hk
 refine oA (.slice none 0 0) rfl rfl ?_
 refine HO.nil (tqn (?_))
 refine HW.seq_mid (fun f h => ∃ (F' : Fz) (vl_1 : Value) (vall_1 : Value) (vout_1 : Value), f 2 = .pointer (some ⟨b_1, 0, none⟩) ∧ f 3 = .pointer (some ⟨b_2, 0, none⟩) ∧ f 4 = .slice none 0 0 ∧ f 5 = vl_1 ∧ f 6 = vall_1 ∧ f 7 = vout_1 ∧ Kp F h0 F' h ∧ St F' (Ow.box b_1 31 #[.int .i64 a_Root, va_Links] :: Ow.box b_2 31 #[.int .i64 b_Root, vb_Links] :: Ow.own 52 2 eB vl_1 ((([] : List TB) ++ a_Links) ++ b_Links) :: Ow.own 3 1 encI vall_1 ([] : List Int) :: Ow.own 3 1 encI vout_1 ([] : List Int) :: fr) h ∧ (SliceF F' h 2 eB va_Links a_Links) ∧ (SliceF F' h 2 eB vb_Links b_Links) ∧ ref32_Changed_j1 a_Root a_Links b_Root b_Links Q) ?_ ?_
 ·
  obtain ⟨ho_1, hM⟩ := hM
  obtain ⟨ho_2, hM⟩ := hM
  refine HW.regionA 12 mixed (fun h => (Blk h b_2 (.cells #[.int .i64 b_Root, vb_Links] 31 (0, 0))) ∧ (Blk h b_1 (.cells #[.int .i64 a_Root, va_Links] 31 (0, 0)))) [] (by kernel_rfl) ?_
  refine HA.val (k := 1) (v := .pointer (some ⟨b_1, 1, none⟩)) rfl rfl (by kernel_rfl) (by kernel_rfl) (wn) rfl (fun _ ⟨c203, c202⟩ => qfA fa_31_1 rfl rfl) ?_
  refine HA.val (k := 2) (v := va_Links) rfl rfl (by kernel_rfl) (by kernel_rfl) (wn) rfl (fun _ ⟨c203, c202⟩ => q_load to_29 rfl (Blk.cell c202 rfl)) ?_
  refine HA.val (k := 4) (v := .pointer (some ⟨b_2, 1, none⟩)) rfl rfl (by kernel_rfl) (by kernel_rfl) (wn) rfl (fun _ ⟨c203, c202⟩ => qfA fa_31_1 rfl rfl) ?_
  refine HA.val (k := 5) (v := vb_Links) rfl rfl (by kernel_rfl) (by kernel_rfl) (wn) rfl (fun _ ⟨c203, c202⟩ => q_load to_29 rfl (Blk.cell c203 rfl)) ?_
  refine HA.node (C1 := fun (i : Fz × Value × Value × Value) => match i with | (F', v_29, v_30, v_31) => fun h => (SliceIs h 2 eB va_Links a_Links) ∧ (SliceIs h 2 eB vb_Links b_Links) ∧ (OwnIs h 0 3 1 encI v_29 ([] : List Int)) ∧ (OwnIs h 0 3 1 encI v_30 ([] : List Int)) ∧ (OwnIs h 0 52 2 eB v_31 ((([] : List TB) ++ a_Links) ++ b_Links)) ∧ (Blk h b_2 (.cells #[.int .i64 b_Root, vb_Links] 31 (0, 0))) ∧ (Blk h b_1 (.cells #[.int .i64 a_Root, va_Links] 31 (0, 0)))) (cs1 := fun (i : Fz × Value × Value × Value) => match i with | (F', v_29, v_30, v_31) => []) (fuel1 := 0) (listed1 := #[true, true, true, true, true, true, true, true, true, true, true, true]) (fun (i : Fz × Value × Value × Value) f h => match i with | (F', v_29, v_30, v_31) => f 0 = .agg #[.int .i64 a_Root, va_Links] ∧ f 1 = .agg #[.int .i64 b_Root, vb_Links] ∧ f 2 = .pointer (some ⟨b_1, 0, none⟩) ∧ f 3 = .pointer (some ⟨b_2, 0, none⟩) ∧ f 4 = .slice none 0 0 ∧ f 5 = v_31 ∧ f 6 = v_30 ∧ f 7 = v_29 ∧ f 11 = .pointer (some ⟨b_1, 1, none⟩) ∧ f 12 = va_Links ∧ f 14 = .pointer (some ⟨b_2, 1, none⟩) ∧ f 15 = vb_Links ∧ f 16 = v_31 ∧ f 17 = v_30 ∧ f 18 = v_29 ∧ Kp F h0 F' h ∧ St F' (Ow.own 3 1 encI v_29 ([] : List Int) :: Ow.own 3 1 encI v_30 ([] : List Int) :: Ow.own 52 2 eB v_31 ((([] : List TB) ++ a_Links) ++ b_Links) :: Ow.box b_2 31 #[.int .i64 b_Root, vb_Links] :: Ow.box b_1 31 #[.int .i64 a_Root, va_Links] :: fr) h ∧ (SliceF F' h 2 eB va_Links a_Links) ∧ (SliceF F' h 2 eB vb_Links b_Links) ∧ ref32_Changed_j1 a_Root a_Links b_Root b_Links Q) ?_ (fun N_1 => ?_)
  ·
   rintro ⟨F_3, v_29, v_30, v_31⟩ f_3 h_33 ⟨e0, e1, e2, e3, e4, e5, e6, e7, e11, e12, e14, e15, e16, e17, e18, hK, hS, hLaL, hLbL, hM⟩
   refine HA.fr [(0, .agg #[.int .i64 a_Root, va_Links]), (1, .agg #[.int .i64 b_Root, vb_Links]), (2, .pointer (some ⟨b_1, 0, none⟩)), (3, .pointer (some ⟨b_2, 0, none⟩)), (4, .slice none 0 0), (5, v_31), (6, v_30), (7, v_29), (11, .pointer (some ⟨b_1, 1, none⟩)), (12, va_Links), (14, .pointer (some ⟨b_2, 1, none⟩)), (15, vb_Links), (16, v_31), (17, v_30), (18, v_29)] ⟨e0, e1, e2, e3, e4, e5, e6, e7, e11, e12, e14, e15, e16, e17, e18, trivial⟩ ?_
   refine HA.nil ⟨⟨hLaL.is, hLbL.is, (hS.own 0 rfl), (hS.own 1 rfl), (hS.own 2 rfl), (hS.box 3 rfl), (hS.box 4 rfl)⟩, (Go.Wk.at_nil _ _)⟩ (by kernel_rfl) (tqn (?_))
   replace hS : St F_3 (Ow.box b_1 31 #[.int .i64 a_Root, va_Links] :: Ow.box b_2 31 #[.int .i64 b_Root, vb_Links] :: Ow.own 52 2 eB v_31 ((([] : List TB) ++ a_Links) ++ b_Links) :: Ow.own 3 1 encI v_30 ([] : List Int) :: Ow.own 3 1 encI v_29 ([] : List Int) :: fr) h_33 := hS.perm2 [4, 3, 2, 1, 0] 5 rfl rfl
   exact ⟨F_3, v_31, v_30, v_29, rfl, rfl, rfl, rfl, rfl, rfl, hK, hS, hLaL, hLbL, hM⟩
  refine HA.node (C1 := fun (i : Fz × Value × Value) => match i with | (F', v_27, v_28) => fun h => (SliceIs h 2 eB va_Links a_Links) ∧ (SliceIs h 2 eB vb_Links b_Links) ∧ (OwnIs h 0 3 1 encI v_27 ([] : List Int)) ∧ (OwnIs h 0 52 2 eB v_28 ((([] : List TB) ++ a_Links) ++ b_Links)) ∧ (Blk h b_2 (.cells #[.int .i64 b_Root, vb_Links] 31 (0, 0))) ∧ (Blk h b_1 (.cells #[.int .i64 a_Root, va_Links] 31 (0, 0)))) (cs1 := fun (i : Fz × Value × Value) => match i with | (F', v_27, v_28) => []) (fuel1 := 2) (listed1 := #[true, true, true, true, true, true, true, true, false, true, true, false]) (fun (i : Fz × Value × Value) f h => match i with | (F', v_27, v_28) => f 0 = .agg #[.int .i64 a_Root, va_Links] ∧ f 1 = .agg #[.int .i64 b_Root, vb_Links] ∧ f 2 = .pointer (some ⟨b_1, 0, none⟩) ∧ f 3 = .pointer (some ⟨b_2, 0, none⟩) ∧ f 4 = .slice none 0 0 ∧ f 5 = v_28 ∧ f 6 = v_27 ∧ f 11 = .pointer (some ⟨b_1, 1, none⟩) ∧ f 12 = va_Links ∧ f 14 = .pointer (some ⟨b_2, 1, none⟩) ∧ f 15 = vb_Links ∧ f 16 = v_28 ∧ f 17 = v_27 ∧ Kp F h0 F' h ∧ St F' (Ow.own 3 1 encI v_27 ([] : List Int) :: Ow.own 52 2 eB v_28 ((([] : List TB) ++ a_Links) ++ b_Links) :: Ow.box b_2 31 #[.int .i64 b_Root, vb_Links] :: Ow.box b_1 31 #[.int .i64 a_Root, va_Links] :: fr) h ∧ (SliceF F' h 2 eB va_Links a_Links) ∧ (SliceF F' h 2 eB vb_Links b_Links) ∧ ref32_Changed_j1 a_Root a_Links b_Root b_Links Q) ?_ (fun N_2 => ?_)
  ·
   rintro ⟨F_6, v_27, v_28⟩ f_6 h_37 ⟨e0, e1, e2, e3, e4, e5, e6, e11, e12, e14, e15, e16, e17, hK, hS, hLaL, hLbL, hM⟩
   refine HA.fr [(0, .agg #[.int .i64 a_Root, va_Links]), (1, .agg #[.int .i64 b_Root, vb_Links]), (2, .pointer (some ⟨b_1, 0, none⟩)), (3, .pointer (some ⟨b_2, 0, none⟩)), (4, .slice none 0 0), (5, v_28), (6, v_27), (11, .pointer (some ⟨b_1, 1, none⟩)), (12, va_Links), (14, .pointer (some ⟨b_2, 1, none⟩)), (15, vb_Links), (16, v_28), (17, v_27)] ⟨e0, e1, e2, e3, e4, e5, e6, e11, e12, e14, e15, e16, e17, trivial⟩ ?_
   refine HA.one (k := 8) ⟨⟨hLaL.is, hLbL.is, (hS.own 0 rfl), (hS.own 1 rfl), (hS.box 2 rfl), (hS.box 3 rfl)⟩, (Go.Wk.at_nil _ _)⟩ (by kernel_rfl) ?_
   refine HS.eff rfl (wn) rfl (st_litEmpty (α := Int) encI hS tl_22) ?_
   rintro _ h_38 ⟨b_24, rfl, hS, hk⟩
   replace hK := hK.trans hk
   replace hLaL := hLaL.kp hk
   replace hLbL := hLbL.kp hk
   refine HA.val (k := 11) (v := .slice (some ⟨b_24, 0, none⟩) 0 0) rfl rfl (by kernel_rfl) (by kernel_rfl) (wn) rfl (fun _ ⟨hLaL, hLbL, c251, c209, c203, c202⟩ => q_assign rfl) ?_
   exact Go.Wk.HA.via (N_1 (F_6, .slice (some ⟨b_24, 0, none⟩) 0 0, v_27, v_28) _ _ ⟨rfl, rfl, rfl, rfl, rfl, rfl, rfl, rfl, rfl, rfl, rfl, rfl, rfl, rfl, rfl, hK, hS, hLaL, hLbL, hM⟩) (fun L_ h_ hL_ ⟨hLaL, hLbL, c257, c251, c209, c203, c202⟩ hs_ => ⟨⟨hLaL, hLbL, c251, c209, c203, c202⟩, (Go.Wk.at_nil _ _)⟩)
  refine HA.node (C1 := fun (i : Fz × Value × Value) => match i with | (F', v_25, v_26) => fun h => (SliceIs h 2 eB va_Links a_Links) ∧ (SliceIs h 2 eB vb_Links b_Links) ∧ (OwnIs h 0 3 1 encI v_25 ([] : List Int)) ∧ (OwnIs h 0 52 2 eB v_26 ((([] : List TB) ++ a_Links) ++ b_Links)) ∧ (Blk h b_2 (.cells #[.int .i64 b_Root, vb_Links] 31 (0, 0))) ∧ (Blk h b_1 (.cells #[.int .i64 a_Root, va_Links] 31 (0, 0)))) (cs1 := fun (i : Fz × Value × Value) => match i with | (F', v_25, v_26) => []) (fuel1 := 3) (listed1 := #[true, true, true, true, true, true, true, false, true, true, false, false]) (fun (i : Fz × Value × Value) f h => match i with | (F', v_25, v_26) => f 0 = .agg #[.int .i64 a_Root, va_Links] ∧ f 1 = .agg #[.int .i64 b_Root, vb_Links] ∧ f 2 = .pointer (some ⟨b_1, 0, none⟩) ∧ f 3 = .pointer (some ⟨b_2, 0, none⟩) ∧ f 4 = .slice none 0 0 ∧ f 5 = v_26 ∧ f 11 = .pointer (some ⟨b_1, 1, none⟩) ∧ f 12 = va_Links ∧ f 14 = .pointer (some ⟨b_2, 1, none⟩) ∧ f 15 = vb_Links ∧ f 16 = v_26 ∧ f 18 = v_25 ∧ Kp F h0 F' h ∧ St F' (Ow.own 3 1 encI v_25 ([] : List Int) :: Ow.own 52 2 eB v_26 ((([] : List TB) ++ a_Links) ++ b_Links) :: Ow.box b_2 31 #[.int .i64 b_Root, vb_Links] :: Ow.box b_1 31 #[.int .i64 a_Root, va_Links] :: fr) h ∧ (SliceF F' h 2 eB va_Links a_Links) ∧ (SliceF F' h 2 eB vb_Links b_Links) ∧ ref32_Changed_j1 a_Root a_Links b_Root b_Links Q) ?_ (fun N_3 => ?_)
  ·
   rintro ⟨F_9, v_25, v_26⟩ f_9 h_42 ⟨e0, e1, e2, e3, e4, e5, e11, e12, e14, e15, e16, e18, hK, hS, hLaL, hLbL, hM⟩
   refine HA.fr [(0, .agg #[.int .i64 a_Root, va_Links]), (1, .agg #[.int .i64 b_Root, vb_Links]), (2, .pointer (some ⟨b_1, 0, none⟩)), (3, .pointer (some ⟨b_2, 0, none⟩)), (4, .slice none 0 0), (5, v_26), (11, .pointer (some ⟨b_1, 1, none⟩)), (12, va_Links), (14, .pointer (some ⟨b_2, 1, none⟩)), (15, vb_Links), (16, v_26), (18, v_25)] ⟨e0, e1, e2, e3, e4, e5, e11, e12, e14, e15, e16, e18, trivial⟩ ?_
   refine HA.one (k := 7) ⟨⟨hLaL.is, hLbL.is, (hS.own 0 rfl), (hS.own 1 rfl), (hS.box 2 rfl), (hS.box 3 rfl)⟩, (Go.Wk.at_nil _ _)⟩ (by kernel_rfl) ?_
   refine HS.eff rfl (wn) rfl (st_litEmpty (α := Int) encI hS tl_22) ?_
   rintro _ h_43 ⟨b_26, rfl, hS, hk⟩
   replace hK := hK.trans hk
   replace hLaL := hLaL.kp hk
   replace hLbL := hLbL.kp hk
   refine HA.val (k := 10) (v := .slice (some ⟨b_26, 0, none⟩) 0 0) rfl rfl (by kernel_rfl) (by kernel_rfl) (wn) rfl (fun _ ⟨hLaL, hLbL, c257, c209, c203, c202⟩ => q_assign rfl) ?_
   refine HA.val (k := 11) (v := v_25) rfl rfl (by kernel_rfl) (by kernel_rfl) (wn) rfl (fun _ ⟨hLaL, hLbL, c257, c209, c203, c202⟩ => q_assign rfl) ?_
   replace hS : St F_9 (Ow.own 3 1 encI v_25 ([] : List Int) :: Ow.own 3 1 encI (.slice (some ⟨b_26, 0, none⟩) 0 0) ([] : List Int) :: Ow.own 52 2 eB v_26 ((([] : List TB) ++ a_Links) ++ b_Links) :: Ow.box b_2 31 #[.int .i64 b_Root, vb_Links] :: Ow.box b_1 31 #[.int .i64 a_Root, va_Links] :: fr) h_43 := hS.perm2 [1, 0, 2, 3, 4] 5 rfl rfl
   exact Go.Wk.HA.via (N_1 (F_9, v_25, .slice (some ⟨b_26, 0, none⟩) 0 0, v_26) _ _ ⟨rfl, rfl, rfl, rfl, rfl, rfl, rfl, rfl, rfl, rfl, rfl, rfl, rfl, rfl, rfl, hK, hS, hLaL, hLbL, hM⟩) (fun L_ h_ hL_ ⟨hLaL, hLbL, c257, c251, c209, c203, c202⟩ hs_ => ⟨⟨hLaL, hLbL, c257, c209, c203, c202⟩, (Go.Wk.at_nil _ _)⟩)
  refine HA.node (C1 := fun (i : Fz × Value × Value × Value) => match i with | (F', v_21, v_22, v_23) => fun h => (SliceIs h 2 eB va_Links a_Links) ∧ (SliceIs h 2 eB vb_Links b_Links) ∧ (OwnIs h 0 3 1 encI v_21 ([] : List Int)) ∧ (OwnIs h 0 3 1 encI v_22 ([] : List Int)) ∧ (Blk h b_2 (.cells #[.int .i64 b_Root, vb_Links] 31 (0, 0))) ∧ (Blk h b_1 (.cells #[.int .i64 a_Root, va_Links] 31 (0, 0)))) (cs1 := fun (i : Fz × Value × Value × Value) => match i with | (F', v_21, v_22, v_23) => [(6, fun h => (OwnIs h 0 52 2 eB v_23 (([] : List TB) ++ a_Links)))]) (fuel1 := 4) (listed1 := #[true, true, true, true, true, true, false, true, true, false, false, false]) (fun (i : Fz × Value × Value × Value) f h => match i with | (F', v_21, v_22, v_23) => f 0 = .agg #[.int .i64 a_Root, va_Links] ∧ f 1 = .agg #[.int .i64 b_Root, vb_Links] ∧ f 2 = .pointer (some ⟨b_1, 0, none⟩) ∧ f 3 = .pointer (some ⟨b_2, 0, none⟩) ∧ f 4 = .slice none 0 0 ∧ f 11 = .pointer (some ⟨b_1, 1, none⟩) ∧ f 12 = va_Links ∧ f 13 = v_23 ∧ f 14 = .pointer (some ⟨b_2, 1, none⟩) ∧ f 15 = vb_Links ∧ f 17 = v_22 ∧ f 18 = v_21 ∧ Kp F h0 F' h ∧ St F' (Ow.own 3 1 encI v_21 ([] : List Int) :: Ow.own 3 1 encI v_22 ([] : List Int) :: Ow.own 52 2 eB v_23 (([] : List TB) ++ a_Links) :: Ow.box b_2 31 #[.int .i64 b_Root, vb_Links] :: Ow.box b_1 31 #[.int .i64 a_Root, va_Links] :: fr) h ∧ (SliceF F' h 2 eB va_Links a_Links) ∧ (SliceF F' h 2 eB vb_Links b_Links) ∧ ref32_Changed_j1 a_Root a_Links b_Root b_Links Q) ?_ (fun N_4 => ?_)
  ·
   rintro ⟨F_12, v_21, v_22, v_23⟩ f_12 h_47 ⟨e0, e1, e2, e3, e4, e11, e12, e13, e14, e15, e17, e18, hK, hS, hLaL, hLbL, hM⟩
   refine HA.fr [(0, .agg #[.int .i64 a_Root, va_Links]), (1, .agg #[.int .i64 b_Root, vb_Links]), (2, .pointer (some ⟨b_1, 0, none⟩)), (3, .pointer (some ⟨b_2, 0, none⟩)), (4, .slice none 0 0), (11, .pointer (some ⟨b_1, 1, none⟩)), (12, va_Links), (13, v_23), (14, .pointer (some ⟨b_2, 1, none⟩)), (15, vb_Links), (17, v_22), (18, v_21)] ⟨e0, e1, e2, e3, e4, e11, e12, e13, e14, e15, e17, e18, trivial⟩ ?_
   refine HA.one (k := 6) ⟨⟨hLaL.is, hLbL.is, (hS.own 0 rfl), (hS.own 1 rfl), (hS.box 3 rfl), (hS.box 4 rfl)⟩, (at_now (hS.own 2 rfl) (Go.Wk.at_nil _ _))⟩ (by kernel_rfl) ?_
   refine HS.eff rfl (wn) rfl (st_append te_29 hS (i := 2) rfl hLbL.is rfl rfl rfl (by intro a _ u hu; simp [eB, encI, encN, encB, encT] at hu; rcases hu with rfl | rfl <;> rfl) ho_2 (by omega)) ?_
   rintro v_33 h_48 ⟨hS, hk⟩
   replace hK := hK.trans hk
   replace hLaL := hLaL.kp hk
   replace hLbL := hLbL.kp hk
   refine HA.val (k := 9) (v := v_33) rfl rfl (by kernel_rfl) (by kernel_rfl) (wn) rfl (fun _ ⟨hLaL, hLbL, c257, c251, c203, c202⟩ => q_assign rfl) ?_
   refine HA.val (k := 10) (v := v_22) rfl rfl (by kernel_rfl) (by kernel_rfl) (wn) rfl (fun _ ⟨hLaL, hLbL, c257, c251, c203, c202⟩ => q_assign rfl) ?_
   refine HA.val (k := 11) (v := v_21) rfl rfl (by kernel_rfl) (by kernel_rfl) (wn) rfl (fun _ ⟨hLaL, hLbL, c257, c251, c203, c202⟩ => q_assign rfl) ?_
   exact Go.Wk.HA.via (N_1 (F_12, v_21, v_22, v_33) _ _ ⟨rfl, rfl, rfl, rfl, rfl, rfl, rfl, rfl, rfl, rfl, rfl, rfl, rfl, rfl, rfl, hK, hS, hLaL, hLbL, hM⟩) (fun L_ h_ hL_ ⟨hLaL, hLbL, c257, c251, c209, c203, c202⟩ hs_ => ⟨⟨hLaL, hLbL, c257, c251, c203, c202⟩, (at_gone hL_ (by kernel_rfl) (Go.Wk.at_nil _ _))⟩)
  refine HA.node (C1 := fun (i : Fz × Value × Value) => match i with | (F', v_11, v_12) => fun h => (SliceIs h 2 eB va_Links a_Links) ∧ (SliceIs h 2 eB vb_Links b_Links) ∧ (OwnIs h 0 3 1 encI v_11 ([] : List Int)) ∧ (Blk h b_2 (.cells #[.int .i64 b_Root, vb_Links] 31 (0, 0))) ∧ (Blk h b_1 (.cells #[.int .i64 a_Root, va_Links] 31 (0, 0)))) (cs1 := fun (i : Fz × Value × Value) => match i with | (F', v_11, v_12) => [(6, fun h => (OwnIs h 0 52 2 eB v_12 (([] : List TB) ++ a_Links)))]) (fuel1 := 5) (listed1 := #[true, true, true, true, true, true, false, true, false, false, false, false]) (fun (i : Fz × Value × Value) f h => match i with | (F', v_11, v_12) => f 0 = .agg #[.int .i64 a_Root, va_Links] ∧ f 1 = .agg #[.int .i64 b_Root, vb_Links] ∧ f 2 = .pointer (some ⟨b_1, 0, none⟩) ∧ f 3 = .pointer (some ⟨b_2, 0, none⟩) ∧ f 4 = .slice none 0 0 ∧ f 11 = .pointer (some ⟨b_1, 1, none⟩) ∧ f 12 = va_Links ∧ f 13 = v_12 ∧ f 14 = .pointer (some ⟨b_2, 1, none⟩) ∧ f 15 = vb_Links ∧ f 17 = v_11 ∧ Kp F h0 F' h ∧ St F' (Ow.own 3 1 encI v_11 ([] : List Int) :: Ow.own 52 2 eB v_12 (([] : List TB) ++ a_Links) :: Ow.box b_2 31 #[.int .i64 b_Root, vb_Links] :: Ow.box b_1 31 #[.int .i64 a_Root, va_Links] :: fr) h ∧ (SliceF F' h 2 eB va_Links a_Links) ∧ (SliceF F' h 2 eB vb_Links b_Links) ∧ ref32_Changed_j1 a_Root a_Links b_Root b_Links Q) ?_ (fun N_5 => ?_)
  ·
   rintro ⟨F_15, v_11, v_12⟩ f_15 h_53 ⟨e0, e1, e2, e3, e4, e11, e12, e13, e14, e15, e17, hK, hS, hLaL, hLbL, hM⟩
   refine HA.fr [(0, .agg #[.int .i64 a_Root, va_Links]), (1, .agg #[.int .i64 b_Root, vb_Links]), (2, .pointer (some ⟨b_1, 0, none⟩)), (3, .pointer (some ⟨b_2, 0, none⟩)), (4, .slice none 0 0), (11, .pointer (some ⟨b_1, 1, none⟩)), (12, va_Links), (13, v_12), (14, .pointer (some ⟨b_2, 1, none⟩)), (15, vb_Links), (17, v_11)] ⟨e0, e1, e2, e3, e4, e11, e12, e13, e14, e15, e17, trivial⟩ ?_
   refine HA.two (k := 6) (k' := 8) ⟨⟨hLaL.is, hLbL.is, (hS.own 0 rfl), (hS.box 2 rfl), (hS.box 3 rfl)⟩, (at_now (hS.own 1 rfl) (Go.Wk.at_nil _ _))⟩ (by kernel_rfl) ?_ ?_
   ·
    refine HS.eff rfl (wn) rfl (st_append te_29 hS (i := 1) rfl hLbL.is rfl rfl rfl (by intro a _ u hu; simp [eB, encI, encN, encB, encT] at hu; rcases hu with rfl | rfl <;> rfl) ho_2 (by omega)) ?_
    rintro v_35 h_54 ⟨hS, hk⟩
    replace hK := hK.trans hk
    replace hLaL := hLaL.kp hk
    replace hLbL := hLbL.kp hk
    refine HA.val (k := 9) (v := v_35) rfl rfl (by kernel_rfl) (by kernel_rfl) (wn) rfl (fun _ ⟨hLaL, hLbL, c251, c203, c202⟩ => q_assign rfl) ?_
    refine HA.val (k := 10) (v := v_11) rfl rfl (by kernel_rfl) (by kernel_rfl) (wn) rfl (fun _ ⟨hLaL, hLbL, c251, c203, c202⟩ => q_assign rfl) ?_
    exact Go.Wk.HA.via (N_2 (F_15, v_11, v_35) _ _ ⟨rfl, rfl, rfl, rfl, rfl, rfl, rfl, rfl, rfl, rfl, rfl, rfl, rfl, hK, hS, hLaL, hLbL, hM⟩) (fun L_ h_ hL_ ⟨hLaL, hLbL, c251, c209, c203, c202⟩ hs_ => ⟨⟨hLaL, hLbL, c251, c203, c202⟩, (at_gone hL_ (by kernel_rfl) (Go.Wk.at_nil _ _))⟩)
   ·
    refine HS.eff rfl (wn) rfl (st_litEmpty (α := Int) encI hS tl_22) ?_
    rintro _ h_55 ⟨b_28, rfl, hS, hk⟩
    replace hK := hK.trans hk
    replace hLaL := hLaL.kp hk
    replace hLbL := hLbL.kp hk
    exact Go.Wk.HA.via (N_4 (F_15, .slice (some ⟨b_28, 0, none⟩) 0 0, v_11, v_12) _ _ ⟨rfl, rfl, rfl, rfl, rfl, rfl, rfl, rfl, rfl, rfl, rfl, rfl, hK, hS, hLaL, hLbL, hM⟩) (fun L_ h_ hL_ ⟨hLaL, hLbL, c257, c251, c203, c202⟩ hs_ => ⟨⟨hLaL, hLbL, c251, c203, c202⟩, (at_keep 0 rfl hs_ (fun c209 => c209) (Go.Wk.at_nil _ _))⟩)
  refine HA.node (C1 := fun (i : Fz × Value × Value) => match i with | (F', v_14, v_15) => fun h => (SliceIs h 2 eB va_Links a_Links) ∧ (SliceIs h 2 eB vb_Links b_Links) ∧ (OwnIs h 0 3 1 encI v_14 ([] : List Int)) ∧ (Blk h b_2 (.cells #[.int .i64 b_Root, vb_Links] 31 (0, 0))) ∧ (Blk h b_1 (.cells #[.int .i64 a_Root, va_Links] 31 (0, 0)))) (cs1 := fun (i : Fz × Value × Value) => match i with | (F', v_14, v_15) => [(6, fun h => (OwnIs h 0 52 2 eB v_15 (([] : List TB) ++ a_Links)))]) (fuel1 := 5) (listed1 := #[true, true, true, true, true, true, false, false, true, false, false, false]) (fun (i : Fz × Value × Value) f h => match i with | (F', v_14, v_15) => f 0 = .agg #[.int .i64 a_Root, va_Links] ∧ f 1 = .agg #[.int .i64 b_Root, vb_Links] ∧ f 2 = .pointer (some ⟨b_1, 0, none⟩) ∧ f 3 = .pointer (some ⟨b_2, 0, none⟩) ∧ f 4 = .slice none 0 0 ∧ f 11 = .pointer (some ⟨b_1, 1, none⟩) ∧ f 12 = va_Links ∧ f 13 = v_15 ∧ f 14 = .pointer (some ⟨b_2, 1, none⟩) ∧ f 15 = vb_Links ∧ f 18 = v_14 ∧ Kp F h0 F' h ∧ St F' (Ow.own 3 1 encI v_14 ([] : List Int) :: Ow.own 52 2 eB v_15 (([] : List TB) ++ a_Links) :: Ow.box b_2 31 #[.int .i64 b_Root, vb_Links] :: Ow.box b_1 31 #[.int .i64 a_Root, va_Links] :: fr) h ∧ (SliceF F' h 2 eB va_Links a_Links) ∧ (SliceF F' h 2 eB vb_Links b_Links) ∧ ref32_Changed_j1 a_Root a_Links b_Root b_Links Q) ?_ (fun N_6 => ?_)
  ·
   rintro ⟨F_18, v_14, v_15⟩ f_18 h_60 ⟨e0, e1, e2, e3, e4, e11, e12, e13, e14, e15, e18, hK, hS, hLaL, hLbL, hM⟩
   refine HA.fr [(0, .agg #[.int .i64 a_Root, va_Links]), (1, .agg #[.int .i64 b_Root, vb_Links]), (2, .pointer (some ⟨b_1, 0, none⟩)), (3, .pointer (some ⟨b_2, 0, none⟩)), (4, .slice none 0 0), (11, .pointer (some ⟨b_1, 1, none⟩)), (12, va_Links), (13, v_15), (14, .pointer (some ⟨b_2, 1, none⟩)), (15, vb_Links), (18, v_14)] ⟨e0, e1, e2, e3, e4, e11, e12, e13, e14, e15, e18, trivial⟩ ?_
   refine HA.two (k := 6) (k' := 7) ⟨⟨hLaL.is, hLbL.is, (hS.own 0 rfl), (hS.box 2 rfl), (hS.box 3 rfl)⟩, (at_now (hS.own 1 rfl) (Go.Wk.at_nil _ _))⟩ (by kernel_rfl) ?_ ?_
   ·
    refine HS.eff rfl (wn) rfl (st_append te_29 hS (i := 1) rfl hLbL.is rfl rfl rfl (by intro a _ u hu; simp [eB, encI, encN, encB, encT] at hu; rcases hu with rfl | rfl <;> rfl) ho_2 (by omega)) ?_
    rintro v_37 h_61 ⟨hS, hk⟩
    replace hK := hK.trans hk
    replace hLaL := hLaL.kp hk
    replace hLbL := hLbL.kp hk
    refine HA.val (k := 9) (v := v_37) rfl rfl (by kernel_rfl) (by kernel_rfl) (wn) rfl (fun _ ⟨hLaL, hLbL, c257, c203, c202⟩ => q_assign rfl) ?_
    exact Go.Wk.HA.via (N_3 (F_18, v_14, v_37) _ _ ⟨rfl, rfl, rfl, rfl, rfl, rfl, rfl, rfl, rfl, rfl, rfl, rfl, hK, hS, hLaL, hLbL, hM⟩) (fun L_ h_ hL_ ⟨hLaL, hLbL, c257, c209, c203, c202⟩ hs_ => ⟨⟨hLaL, hLbL, c257, c203, c202⟩, (at_gone hL_ (by kernel_rfl) (Go.Wk.at_nil _ _))⟩)
   ·
    refine HS.eff rfl (wn) rfl (st_litEmpty (α := Int) encI hS tl_22) ?_
    rintro _ h_62 ⟨b_30, rfl, hS, hk⟩
    replace hK := hK.trans hk
    replace hLaL := hLaL.kp hk
    replace hLbL := hLbL.kp hk
    replace hS : St F_18 (Ow.own 3 1 encI v_14 ([] : List Int) :: Ow.own 3 1 encI (.slice (some ⟨b_30, 0, none⟩) 0 0) ([] : List Int) :: Ow.own 52 2 eB v_15 (([] : List TB) ++ a_Links) :: Ow.box b_2 31 #[.int .i64 b_Root, vb_Links] :: Ow.box b_1 31 #[.int .i64 a_Root, va_Links] :: fr) h_62 := hS.perm2 [1, 0, 2, 3, 4] 5 rfl rfl
    exact Go.Wk.HA.via (N_4 (F_18, v_14, .slice (some ⟨b_30, 0, none⟩) 0 0, v_15) _ _ ⟨rfl, rfl, rfl, rfl, rfl, rfl, rfl, rfl, rfl, rfl, rfl, rfl, hK, hS, hLaL, hLbL, hM⟩) (fun L_ h_ hL_ ⟨hLaL, hLbL, c257, c251, c203, c202⟩ hs_ => ⟨⟨hLaL, hLbL, c257, c203, c202⟩, (at_keep 0 rfl hs_ (fun c209 => c209) (Go.Wk.at_nil _ _))⟩)
  refine HA.node (C1 := fun (i : Fz × Value × Value × Value) => match i with | (F', v_17, v_18, v_19) => fun h => (SliceIs h 2 eB va_Links a_Links) ∧ (SliceIs h 2 eB vb_Links b_Links) ∧ (OwnIs h 0 3 1 encI v_17 ([] : List Int)) ∧ (OwnIs h 0 3 1 encI v_18 ([] : List Int)) ∧ (Blk h b_2 (.cells #[.int .i64 b_Root, vb_Links] 31 (0, 0))) ∧ (Blk h b_1 (.cells #[.int .i64 a_Root, va_Links] 31 (0, 0)))) (cs1 := fun (i : Fz × Value × Value × Value) => match i with | (F', v_17, v_18, v_19) => [(3, fun h => (OwnIs h 0 52 2 eB v_19 ([] : List TB)))]) (fuel1 := 5) (listed1 := #[true, true, true, false, true, true, false, true, true, false, false, false]) (fun (i : Fz × Value × Value × Value) f h => match i with | (F', v_17, v_18, v_19) => f 0 = .agg #[.int .i64 a_Root, va_Links] ∧ f 1 = .agg #[.int .i64 b_Root, vb_Links] ∧ f 2 = .pointer (some ⟨b_1, 0, none⟩) ∧ f 3 = .pointer (some ⟨b_2, 0, none⟩) ∧ f 4 = .slice none 0 0 ∧ f 10 = v_19 ∧ f 11 = .pointer (some ⟨b_1, 1, none⟩) ∧ f 12 = va_Links ∧ f 14 = .pointer (some ⟨b_2, 1, none⟩) ∧ f 15 = vb_Links ∧ f 17 = v_18 ∧ f 18 = v_17 ∧ Kp F h0 F' h ∧ St F' (Ow.own 3 1 encI v_17 ([] : List Int) :: Ow.own 3 1 encI v_18 ([] : List Int) :: Ow.own 52 2 eB v_19 ([] : List TB) :: Ow.box b_2 31 #[.int .i64 b_Root, vb_Links] :: Ow.box b_1 31 #[.int .i64 a_Root, va_Links] :: fr) h ∧ (SliceF F' h 2 eB va_Links a_Links) ∧ (SliceF F' h 2 eB vb_Links b_Links) ∧ ref32_Changed_j1 a_Root a_Links b_Root b_Links Q) ?_ (fun N_7 => ?_)
  ·
   rintro ⟨F_21, v_17, v_18, v_19⟩ f_21 h_66 ⟨e0, e1, e2, e3, e4, e10, e11, e12, e14, e15, e17, e18, hK, hS, hLaL, hLbL, hM⟩
   refine HA.fr [(0, .agg #[.int .i64 a_Root, va_Links]), (1, .agg #[.int .i64 b_Root, vb_Links]), (2, .pointer (some ⟨b_1, 0, none⟩)), (3, .pointer (some ⟨b_2, 0, none⟩)), (4, .slice none 0 0), (10, v_19), (11, .pointer (some ⟨b_1, 1, none⟩)), (12, va_Links), (14, .pointer (some ⟨b_2, 1, none⟩)), (15, vb_Links), (17, v_18), (18, v_17)] ⟨e0, e1, e2, e3, e4, e10, e11, e12, e14, e15, e17, e18, trivial⟩ ?_
   refine HA.one (k := 3) ⟨⟨hLaL.is, hLbL.is, (hS.own 0 rfl), (hS.own 1 rfl), (hS.box 3 rfl), (hS.box 4 rfl)⟩, (at_now (hS.own 2 rfl) (Go.Wk.at_nil _ _))⟩ (by kernel_rfl) ?_
   refine HS.eff rfl (wn) rfl (st_append te_29 hS (i := 2) rfl hLaL.is rfl rfl rfl (by intro a _ u hu; simp [eB, encI, encN, encB, encT] at hu; rcases hu with rfl | rfl <;> rfl) ho_1 (by omega)) ?_
   rintro v_39 h_67 ⟨hS, hk⟩
   replace hK := hK.trans hk
   replace hLaL := hLaL.kp hk
   replace hLbL := hLbL.kp hk
   refine Go.Wk.HA.re (fun h => (SliceIs h 2 eB va_Links a_Links) ∧ (SliceIs h 2 eB vb_Links b_Links) ∧ (OwnIs h 0 3 1 encI v_17 ([] : List Int)) ∧ (OwnIs h 0 3 1 encI v_18 ([] : List Int)) ∧ (Blk h b_2 (.cells #[.int .i64 b_Root, vb_Links] 31 (0, 0))) ∧ (Blk h b_1 (.cells #[.int .i64 a_Root, va_Links] 31 (0, 0)))) [(6, fun h => (OwnIs h 0 52 2 eB v_39 (([] : List TB) ++ a_Links)))] (fun L_ h_ hL_ ⟨hLaL, hLbL, c257, c251, c203, c202⟩ hs_ => ⟨⟨hLaL, hLbL, c257, c251, c203, c202⟩, (at_gone hL_ (by kernel_rfl) (Go.Wk.at_nil _ _))⟩) ?_
   exact Go.Wk.HA.via (N_4 (F_21, v_17, v_18, v_39) _ _ ⟨rfl, rfl, rfl, rfl, rfl, rfl, rfl, rfl, rfl, rfl, rfl, rfl, hK, hS, hLaL, hLbL, hM⟩) (fun L_ h_ hL_ ⟨hLaL, hLbL, c257, c251, c203, c202⟩ hs_ => ⟨⟨hLaL, hLbL, c257, c251, c203, c202⟩, (at_keep 0 rfl hs_ (fun c209 => c209) (Go.Wk.at_nil _ _))⟩)
  refine HA.node (C1 := fun (i : Fz × Value × Value) => match i with | (F', v_3, v_4) => fun h => (SliceIs h 2 eB va_Links a_Links) ∧ (SliceIs h 2 eB vb_Links b_Links) ∧ (OwnIs h 0 3 1 encI v_3 ([] : List Int)) ∧ (Blk h b_2 (.cells #[.int .i64 b_Root, vb_Links] 31 (0, 0))) ∧ (Blk h b_1 (.cells #[.int .i64 a_Root, va_Links] 31 (0, 0)))) (cs1 := fun (i : Fz × Value × Value) => match i with | (F', v_3, v_4) => [(3, fun h => (OwnIs h 0 52 2 eB v_4 ([] : List TB)))]) (fuel1 := 6) (listed1 := #[true, true, true, false, true, true, false, true, false, false, false, false]) (fun (i : Fz × Value × Value) f h => match i with | (F', v_3, v_4) => f 0 = .agg #[.int .i64 a_Root, va_Links] ∧ f 1 = .agg #[.int .i64 b_Root, vb_Links] ∧ f 2 = .pointer (some ⟨b_1, 0, none⟩) ∧ f 3 = .pointer (some ⟨b_2, 0, none⟩) ∧ f 4 = .slice none 0 0 ∧ f 10 = v_4 ∧ f 11 = .pointer (some ⟨b_1, 1, none⟩) ∧ f 12 = va_Links ∧ f 14 = .pointer (some ⟨b_2, 1, none⟩) ∧ f 15 = vb_Links ∧ f 17 = v_3 ∧ Kp F h0 F' h ∧ St F' (Ow.own 3 1 encI v_3 ([] : List Int) :: Ow.own 52 2 eB v_4 ([] : List TB) :: Ow.box b_2 31 #[.int .i64 b_Root, vb_Links] :: Ow.box b_1 31 #[.int .i64 a_Root, va_Links] :: fr) h ∧ (SliceF F' h 2 eB va_Links a_Links) ∧ (SliceF F' h 2 eB vb_Links b_Links) ∧ ref32_Changed_j1 a_Root a_Links b_Root b_Links Q) ?_ (fun N_8 => ?_)
  ·
   rintro ⟨F_24, v_3, v_4⟩ f_24 h_72 ⟨e0, e1, e2, e3, e4, e10, e11, e12, e14, e15, e17, hK, hS, hLaL, hLbL, hM⟩
   refine HA.fr [(0, .agg #[.int .i64 a_Root, va_Links]), (1, .agg #[.int .i64 b_Root, vb_Links]), (2, .pointer (some ⟨b_1, 0, none⟩)), (3, .pointer (some ⟨b_2, 0, none⟩)), (4, .slice none 0 0), (10, v_4), (11, .pointer (some ⟨b_1, 1, none⟩)), (12, va_Links), (14, .pointer (some ⟨b_2, 1, none⟩)), (15, vb_Links), (17, v_3)] ⟨e0, e1, e2, e3, e4, e10, e11, e12, e14, e15, e17, trivial⟩ ?_
   refine HA.two (k := 3) (k' := 8) ⟨⟨hLaL.is, hLbL.is, (hS.own 0 rfl), (hS.box 2 rfl), (hS.box 3 rfl)⟩, (at_now (hS.own 1 rfl) (Go.Wk.at_nil _ _))⟩ (by kernel_rfl) ?_ ?_
   ·
    refine HS.eff rfl (wn) rfl (st_append te_29 hS (i := 1) rfl hLaL.is rfl rfl rfl (by intro a _ u hu; simp [eB, encI, encN, encB, encT] at hu; rcases hu with rfl | rfl <;> rfl) ho_1 (by omega)) ?_
    rintro v_41 h_73 ⟨hS, hk⟩
    replace hK := hK.trans hk
    replace hLaL := hLaL.kp hk
    replace hLbL := hLbL.kp hk
    refine Go.Wk.HA.re (fun h => (SliceIs h 2 eB va_Links a_Links) ∧ (SliceIs h 2 eB vb_Links b_Links) ∧ (OwnIs h 0 3 1 encI v_3 ([] : List Int)) ∧ (Blk h b_2 (.cells #[.int .i64 b_Root, vb_Links] 31 (0, 0))) ∧ (Blk h b_1 (.cells #[.int .i64 a_Root, va_Links] 31 (0, 0)))) [(6, fun h => (OwnIs h 0 52 2 eB v_41 (([] : List TB) ++ a_Links)))] (fun L_ h_ hL_ ⟨hLaL, hLbL, c251, c203, c202⟩ hs_ => ⟨⟨hLaL, hLbL, c251, c203, c202⟩, (at_gone hL_ (by kernel_rfl) (Go.Wk.at_nil _ _))⟩) ?_
    exact Go.Wk.HA.via (N_5 (F_24, v_3, v_41) _ _ ⟨rfl, rfl, rfl, rfl, rfl, rfl, rfl, rfl, rfl, rfl, rfl, hK, hS, hLaL, hLbL, hM⟩) (fun L_ h_ hL_ ⟨hLaL, hLbL, c251, c203, c202⟩ hs_ => ⟨⟨hLaL, hLbL, c251, c203, c202⟩, (at_keep 0 rfl hs_ (fun c209 => c209) (Go.Wk.at_nil _ _))⟩)
   ·
    refine HS.eff rfl (wn) rfl (st_litEmpty (α := Int) encI hS tl_22) ?_
    rintro _ h_74 ⟨b_32, rfl, hS, hk⟩
    replace hK := hK.trans hk
    replace hLaL := hLaL.kp hk
    replace hLbL := hLbL.kp hk
    exact Go.Wk.HA.via (N_7 (F_24, .slice (some ⟨b_32, 0, none⟩) 0 0, v_3, v_4) _ _ ⟨rfl, rfl, rfl, rfl, rfl, rfl, rfl, rfl, rfl, rfl, rfl, rfl, hK, hS, hLaL, hLbL, hM⟩) (fun L_ h_ hL_ ⟨hLaL, hLbL, c257, c251, c203, c202⟩ hs_ => ⟨⟨hLaL, hLbL, c251, c203, c202⟩, (at_keep 0 rfl hs_ (fun c209 => c209) (Go.Wk.at_nil _ _))⟩)
  refine HA.node (C1 := fun (i : Fz × Value × Value) => match i with | (F', v_6, v_7) => fun h => (SliceIs h 2 eB va_Links a_Links) ∧ (SliceIs h 2 eB vb_Links b_Links) ∧ (OwnIs h 0 3 1 encI v_6 ([] : List Int)) ∧ (Blk h b_2 (.cells #[.int .i64 b_Root, vb_Links] 31 (0, 0))) ∧ (Blk h b_1 (.cells #[.int .i64 a_Root, va_Links] 31 (0, 0)))) (cs1 := fun (i : Fz × Value × Value) => match i with | (F', v_6, v_7) => [(3, fun h => (OwnIs h 0 52 2 eB v_7 ([] : List TB)))]) (fuel1 := 6) (listed1 := #[true, true, true, false, true, true, false, false, true, false, false, false]) (fun (i : Fz × Value × Value) f h => match i with | (F', v_6, v_7) => f 0 = .agg #[.int .i64 a_Root, va_Links] ∧ f 1 = .agg #[.int .i64 b_Root, vb_Links] ∧ f 2 = .pointer (some ⟨b_1, 0, none⟩) ∧ f 3 = .pointer (some ⟨b_2, 0, none⟩) ∧ f 4 = .slice none 0 0 ∧ f 10 = v_7 ∧ f 11 = .pointer (some ⟨b_1, 1, none⟩) ∧ f 12 = va_Links ∧ f 14 = .pointer (some ⟨b_2, 1, none⟩) ∧ f 15 = vb_Links ∧ f 18 = v_6 ∧ Kp F h0 F' h ∧ St F' (Ow.own 3 1 encI v_6 ([] : List Int) :: Ow.own 52 2 eB v_7 ([] : List TB) :: Ow.box b_2 31 #[.int .i64 b_Root, vb_Links] :: Ow.box b_1 31 #[.int .i64 a_Root, va_Links] :: fr) h ∧ (SliceF F' h 2 eB va_Links a_Links) ∧ (SliceF F' h 2 eB vb_Links b_Links) ∧ ref32_Changed_j1 a_Root a_Links b_Root b_Links Q) ?_ (fun N_9 => ?_)
  ·
   rintro ⟨F_27, v_6, v_7⟩ f_27 h_79 ⟨e0, e1, e2, e3, e4, e10, e11, e12, e14, e15, e18, hK, hS, hLaL, hLbL, hM⟩
   refine HA.fr [(0, .agg #[.int .i64 a_Root, va_Links]), (1, .agg #[.int .i64 b_Root, vb_Links]), (2, .pointer (some ⟨b_1, 0, none⟩)), (3, .pointer (some ⟨b_2, 0, none⟩)), (4, .slice none 0 0), (10, v_7), (11, .pointer (some ⟨b_1, 1, none⟩)), (12, va_Links), (14, .pointer (some ⟨b_2, 1, none⟩)), (15, vb_Links), (18, v_6)] ⟨e0, e1, e2, e3, e4, e10, e11, e12, e14, e15, e18, trivial⟩ ?_
   refine HA.two (k := 3) (k' := 7) ⟨⟨hLaL.is, hLbL.is, (hS.own 0 rfl), (hS.box 2 rfl), (hS.box 3 rfl)⟩, (at_now (hS.own 1 rfl) (Go.Wk.at_nil _ _))⟩ (by kernel_rfl) ?_ ?_
   ·
    refine HS.eff rfl (wn) rfl (st_append te_29 hS (i := 1) rfl hLaL.is rfl rfl rfl (by intro a _ u hu; simp [eB, encI, encN, encB, encT] at hu; rcases hu with rfl | rfl <;> rfl) ho_1 (by omega)) ?_
    rintro v_43 h_80 ⟨hS, hk⟩
    replace hK := hK.trans hk
    replace hLaL := hLaL.kp hk
    replace hLbL := hLbL.kp hk
    refine Go.Wk.HA.re (fun h => (SliceIs h 2 eB va_Links a_Links) ∧ (SliceIs h 2 eB vb_Links b_Links) ∧ (OwnIs h 0 3 1 encI v_6 ([] : List Int)) ∧ (Blk h b_2 (.cells #[.int .i64 b_Root, vb_Links] 31 (0, 0))) ∧ (Blk h b_1 (.cells #[.int .i64 a_Root, va_Links] 31 (0, 0)))) [(6, fun h => (OwnIs h 0 52 2 eB v_43 (([] : List TB) ++ a_Links)))] (fun L_ h_ hL_ ⟨hLaL, hLbL, c257, c203, c202⟩ hs_ => ⟨⟨hLaL, hLbL, c257, c203, c202⟩, (at_gone hL_ (by kernel_rfl) (Go.Wk.at_nil _ _))⟩) ?_
    exact Go.Wk.HA.via (N_6 (F_27, v_6, v_43) _ _ ⟨rfl, rfl, rfl, rfl, rfl, rfl, rfl, rfl, rfl, rfl, rfl, hK, hS, hLaL, hLbL, hM⟩) (fun L_ h_ hL_ ⟨hLaL, hLbL, c257, c203, c202⟩ hs_ => ⟨⟨hLaL, hLbL, c257, c203, c202⟩, (at_keep 0 rfl hs_ (fun c209 => c209) (Go.Wk.at_nil _ _))⟩)
   ·
    refine HS.eff rfl (wn) rfl (st_litEmpty (α := Int) encI hS tl_22) ?_
    rintro _ h_81 ⟨b_34, rfl, hS, hk⟩
    replace hK := hK.trans hk
    replace hLaL := hLaL.kp hk
    replace hLbL := hLbL.kp hk
    replace hS : St F_27 (Ow.own 3 1 encI v_6 ([] : List Int) :: Ow.own 3 1 encI (.slice (some ⟨b_34, 0, none⟩) 0 0) ([] : List Int) :: Ow.own 52 2 eB v_7 ([] : List TB) :: Ow.box b_2 31 #[.int .i64 b_Root, vb_Links] :: Ow.box b_1 31 #[.int .i64 a_Root, va_Links] :: fr) h_81 := hS.perm2 [1, 0, 2, 3, 4] 5 rfl rfl
    exact Go.Wk.HA.via (N_7 (F_27, v_6, .slice (some ⟨b_34, 0, none⟩) 0 0, v_7) _ _ ⟨rfl, rfl, rfl, rfl, rfl, rfl, rfl, rfl, rfl, rfl, rfl, rfl, hK, hS, hLaL, hLbL, hM⟩) (fun L_ h_ hL_ ⟨hLaL, hLbL, c257, c251, c203, c202⟩ hs_ => ⟨⟨hLaL, hLbL, c257, c203, c202⟩, (at_keep 0 rfl hs_ (fun c209 => c209) (Go.Wk.at_nil _ _))⟩)
  refine HA.node (C1 := fun (i : Fz × Value × Value) => match i with | (F', v_9, v_10) => fun h => (SliceIs h 2 eB va_Links a_Links) ∧ (SliceIs h 2 eB vb_Links b_Links) ∧ (OwnIs h 0 3 1 encI v_9 ([] : List Int)) ∧ (OwnIs h 0 3 1 encI v_10 ([] : List Int)) ∧ (Blk h b_2 (.cells #[.int .i64 b_Root, vb_Links] 31 (0, 0))) ∧ (Blk h b_1 (.cells #[.int .i64 a_Root, va_Links] 31 (0, 0)))) (cs1 := fun (i : Fz × Value × Value) => match i with | (F', v_9, v_10) => []) (fuel1 := 6) (listed1 := #[false, true, true, false, true, true, false, true, true, false, false, false]) (fun (i : Fz × Value × Value) f h => match i with | (F', v_9, v_10) => f 0 = .agg #[.int .i64 a_Root, va_Links] ∧ f 1 = .agg #[.int .i64 b_Root, vb_Links] ∧ f 2 = .pointer (some ⟨b_1, 0, none⟩) ∧ f 3 = .pointer (some ⟨b_2, 0, none⟩) ∧ f 4 = .slice none 0 0 ∧ f 11 = .pointer (some ⟨b_1, 1, none⟩) ∧ f 12 = va_Links ∧ f 14 = .pointer (some ⟨b_2, 1, none⟩) ∧ f 15 = vb_Links ∧ f 17 = v_10 ∧ f 18 = v_9 ∧ Kp F h0 F' h ∧ St F' (Ow.own 3 1 encI v_9 ([] : List Int) :: Ow.own 3 1 encI v_10 ([] : List Int) :: Ow.box b_2 31 #[.int .i64 b_Root, vb_Links] :: Ow.box b_1 31 #[.int .i64 a_Root, va_Links] :: fr) h ∧ (SliceF F' h 2 eB va_Links a_Links) ∧ (SliceF F' h 2 eB vb_Links b_Links) ∧ ref32_Changed_j1 a_Root a_Links b_Root b_Links Q) ?_ (fun N_10 => ?_)
  ·
   rintro ⟨F_30, v_9, v_10⟩ f_30 h_85 ⟨e0, e1, e2, e3, e4, e11, e12, e14, e15, e17, e18, hK, hS, hLaL, hLbL, hM⟩
   refine HA.fr [(0, .agg #[.int .i64 a_Root, va_Links]), (1, .agg #[.int .i64 b_Root, vb_Links]), (2, .pointer (some ⟨b_1, 0, none⟩)), (3, .pointer (some ⟨b_2, 0, none⟩)), (4, .slice none 0 0), (11, .pointer (some ⟨b_1, 1, none⟩)), (12, va_Links), (14, .pointer (some ⟨b_2, 1, none⟩)), (15, vb_Links), (17, v_10), (18, v_9)] ⟨e0, e1, e2, e3, e4, e11, e12, e14, e15, e17, e18, trivial⟩ ?_
   refine HA.one (k := 0) ⟨⟨hLaL.is, hLbL.is, (hS.own 0 rfl), (hS.own 1 rfl), (hS.box 2 rfl), (hS.box 3 rfl)⟩, (Go.Wk.at_nil _ _)⟩ (by kernel_rfl) ?_
   refine HS.eff rfl (wn) rfl (st_litEmpty (α := TB) eB hS tl_29) ?_
   rintro _ h_86 ⟨b_36, rfl, hS, hk⟩
   replace hK := hK.trans hk
   replace hLaL := hLaL.kp hk
   replace hLbL := hLbL.kp hk
   replace hS : St F_30 (Ow.own 3 1 encI v_9 ([] : List Int) :: Ow.own 3 1 encI v_10 ([] : List Int) :: Ow.own 52 2 eB (.slice (some ⟨b_36, 0, none⟩) 0 0) ([] : List TB) :: Ow.box b_2 31 #[.int .i64 b_Root, vb_Links] :: Ow.box b_1 31 #[.int .i64 a_Root, va_Links] :: fr) h_86 := hS.perm2 [1, 2, 0, 3, 4] 5 rfl rfl
   exact Go.Wk.HA.via (N_7 (F_30, v_9, v_10, .slice (some ⟨b_36, 0, none⟩) 0 0) _ _ ⟨rfl, rfl, rfl, rfl, rfl, rfl, rfl, rfl, rfl, rfl, rfl, rfl, hK, hS, hLaL, hLbL, hM⟩) (fun L_ h_ hL_ ⟨hLaL, hLbL, c257, c251, c203, c202⟩ hs_ => ⟨⟨hLaL, hLbL, c257, c251, c203, c202⟩, (Go.Wk.at_nil _ _)⟩)
  refine HA.three (k := 0) (k' := 7) (k'' := 8) ⟨⟨(hS.box 0 rfl), (hS.box 1 rfl)⟩, (Go.Wk.at_nil _ _)⟩ (by kernel_rfl) ?_ ?_ ?_
  ·
   refine HS.eff rfl (wn) rfl (st_litEmpty (α := TB) eB hS tl_29) ?_
   rintro _ h_87 ⟨b_37, rfl, hS, hk⟩
   replace hK := hK.trans hk
   replace hLaL := hLaL.kp hk
   replace hLbL := hLbL.kp hk
   refine HA.three (k := 3) (k' := 7) (k'' := 8) ⟨⟨(hS.box 1 rfl), (hS.box 2 rfl)⟩, (Go.Wk.at_nil _ _)⟩ (by kernel_rfl) ?_ ?_ ?_
   ·
    refine HS.eff rfl (wn) rfl (st_append te_29 hS (i := 0) rfl hLaL.is rfl rfl rfl (by intro a _ u hu; simp [eB, encI, encN, encB, encT] at hu; rcases hu with rfl | rfl <;> rfl) ho_1 (by omega)) ?_
    rintro v_44 h_88 ⟨hS, hk⟩
    replace hK := hK.trans hk
    replace hLaL := hLaL.kp hk
    replace hLbL := hLbL.kp hk
    refine HA.three (k := 6) (k' := 7) (k'' := 8) ⟨⟨(hS.box 1 rfl), (hS.box 2 rfl)⟩, (Go.Wk.at_nil _ _)⟩ (by kernel_rfl) ?_ ?_ ?_
    ·
     refine HS.eff rfl (wn) rfl (st_append te_29 hS (i := 0) rfl hLbL.is rfl rfl rfl (by intro a _ u hu; simp [eB, encI, encN, encB, encT] at hu; rcases hu with rfl | rfl <;> rfl) ho_2 (by omega)) ?_
     rintro v_45 h_89 ⟨hS, hk⟩
     replace hK := hK.trans hk
     replace hLaL := hLaL.kp hk
     replace hLbL := hLbL.kp hk
     refine HA.val (k := 9) (v := v_45) rfl rfl (by kernel_rfl) (by kernel_rfl) (wn) rfl (fun _ ⟨c203, c202⟩ => q_assign rfl) ?_
     refine HA.two (k := 7) (k' := 8) ⟨⟨(hS.box 1 rfl), (hS.box 2 rfl)⟩, (Go.Wk.at_nil _ _)⟩ (by kernel_rfl) ?_ ?_
     ·
      refine HS.eff rfl (wn) rfl (st_litEmpty (α := Int) encI hS tl_22) ?_
      rintro _ h_90 ⟨b_38, rfl, hS, hk⟩
      replace hK := hK.trans hk
      replace hLaL := hLaL.kp hk
      replace hLbL := hLbL.kp hk
      refine HA.val (k := 10) (v := .slice (some ⟨b_38, 0, none⟩) 0 0) rfl rfl (by kernel_rfl) (by kernel_rfl) (wn) rfl (fun _ ⟨c203, c202⟩ => q_assign rfl) ?_
      exact Go.Wk.HA.via (N_2 (F, .slice (some ⟨b_38, 0, none⟩) 0 0, v_45) _ _ ⟨rfl, rfl, rfl, rfl, rfl, rfl, rfl, rfl, rfl, rfl, rfl, rfl, rfl, hK, hS, hLaL, hLbL, hM⟩) (fun L_ h_ hL_ ⟨hLaL, hLbL, c251, c209, c203, c202⟩ hs_ => ⟨⟨c203, c202⟩, (Go.Wk.at_nil _ _)⟩)
     ·
      refine HS.eff rfl (wn) rfl (st_litEmpty (α := Int) encI hS tl_22) ?_
      rintro _ h_91 ⟨b_39, rfl, hS, hk⟩
      replace hK := hK.trans hk
      replace hLaL := hLaL.kp hk
      replace hLbL := hLbL.kp hk
      exact Go.Wk.HA.via (N_3 (F, .slice (some ⟨b_39, 0, none⟩) 0 0, v_45) _ _ ⟨rfl, rfl, rfl, rfl, rfl, rfl, rfl, rfl, rfl, rfl, rfl, rfl, hK, hS, hLaL, hLbL, hM⟩) (fun L_ h_ hL_ ⟨hLaL, hLbL, c257, c209, c203, c202⟩ hs_ => ⟨⟨c203, c202⟩, (Go.Wk.at_nil _ _)⟩)
    ·
     refine HS.eff rfl (wn) rfl (st_litEmpty (α := Int) encI hS tl_22) ?_
     rintro _ h_92 ⟨b_40, rfl, hS, hk⟩
     replace hK := hK.trans hk
     replace hLaL := hLaL.kp hk
     replace hLbL := hLbL.kp hk
     exact Go.Wk.HA.via (N_5 (F, .slice (some ⟨b_40, 0, none⟩) 0 0, v_44) _ _ ⟨rfl, rfl, rfl, rfl, rfl, rfl, rfl, rfl, rfl, rfl, rfl, hK, hS, hLaL, hLbL, hM⟩) (fun L_ h_ hL_ ⟨hLaL, hLbL, c251, c203, c202⟩ hs_ => ⟨⟨c203, c202⟩, (Go.Wk.at_nil _ _)⟩)
    ·
     refine HS.eff rfl (wn) rfl (st_litEmpty (α := Int) encI hS tl_22) ?_
     rintro _ h_93 ⟨b_41, rfl, hS, hk⟩
     replace hK := hK.trans hk
     replace hLaL := hLaL.kp hk
     replace hLbL := hLbL.kp hk
     exact Go.Wk.HA.via (N_6 (F, .slice (some ⟨b_41, 0, none⟩) 0 0, v_44) _ _ ⟨rfl, rfl, rfl, rfl, rfl, rfl, rfl, rfl, rfl, rfl, rfl, hK, hS, hLaL, hLbL, hM⟩) (fun L_ h_ hL_ ⟨hLaL, hLbL, c257, c203, c202⟩ hs_ => ⟨⟨c203, c202⟩, (Go.Wk.at_nil _ _)⟩)
   ·
    refine HS.eff rfl (wn) rfl (st_litEmpty (α := Int) encI hS tl_22) ?_
    rintro _ h_94 ⟨b_42, rfl, hS, hk⟩
    replace hK := hK.trans hk
    replace hLaL := hLaL.kp hk
    replace hLbL := hLbL.kp hk
    exact Go.Wk.HA.via (N_8 (F, .slice (some ⟨b_42, 0, none⟩) 0 0, .slice (some ⟨b_37, 0, none⟩) 0 0) _ _ ⟨rfl, rfl, rfl, rfl, rfl, rfl, rfl, rfl, rfl, rfl, rfl, hK, hS, hLaL, hLbL, hM⟩) (fun L_ h_ hL_ ⟨hLaL, hLbL, c251, c203, c202⟩ hs_ => ⟨⟨c203, c202⟩, (Go.Wk.at_nil _ _)⟩)
   ·
    refine HS.eff rfl (wn) rfl (st_litEmpty (α := Int) encI hS tl_22) ?_
    rintro _ h_95 ⟨b_43, rfl, hS, hk⟩
    replace hK := hK.trans hk
    replace hLaL := hLaL.kp hk
    replace hLbL := hLbL.kp hk
    exact Go.Wk.HA.via (N_9 (F, .slice (some ⟨b_43, 0, none⟩) 0 0, .slice (some ⟨b_37, 0, none⟩) 0 0) _ _ ⟨rfl, rfl, rfl, rfl, rfl, rfl, rfl, rfl, rfl, rfl, rfl, hK, hS, hLaL, hLbL, hM⟩) (fun L_ h_ hL_ ⟨hLaL, hLbL, c257, c203, c202⟩ hs_ => ⟨⟨c203, c202⟩, (Go.Wk.at_nil _ _)⟩)
  ·
   refine HS.eff rfl (wn) rfl (st_litEmpty (α := Int) encI hS tl_22) ?_
   rintro _ h_96 ⟨b_44, rfl, hS, hk⟩
   replace hK := hK.trans hk
   replace hLaL := hLaL.kp hk
   replace hLbL := hLbL.kp hk
   refine HA.two (k := 0) (k' := 8) ⟨⟨(hS.box 1 rfl), (hS.box 2 rfl)⟩, (Go.Wk.at_nil _ _)⟩ (by kernel_rfl) ?_ ?_
   ·
    refine HS.eff rfl (wn) rfl (st_litEmpty (α := TB) eB hS tl_29) ?_
    rintro _ h_97 ⟨b_45, rfl, hS, hk⟩
    replace hK := hK.trans hk
    replace hLaL := hLaL.kp hk
    replace hLbL := hLbL.kp hk
    replace hS : St F (Ow.own 3 1 encI (.slice (some ⟨b_44, 0, none⟩) 0 0) ([] : List Int) :: Ow.own 52 2 eB (.slice (some ⟨b_45, 0, none⟩) 0 0) ([] : List TB) :: Ow.box b_2 31 #[.int .i64 b_Root, vb_Links] :: Ow.box b_1 31 #[.int .i64 a_Root, va_Links] :: fr) h_97 := hS.perm2 [1, 0, 2, 3] 4 rfl rfl
    exact Go.Wk.HA.via (N_8 (F, .slice (some ⟨b_44, 0, none⟩) 0 0, .slice (some ⟨b_45, 0, none⟩) 0 0) _ _ ⟨rfl, rfl, rfl, rfl, rfl, rfl, rfl, rfl, rfl, rfl, rfl, hK, hS, hLaL, hLbL, hM⟩) (fun L_ h_ hL_ ⟨hLaL, hLbL, c251, c203, c202⟩ hs_ => ⟨⟨c203, c202⟩, (Go.Wk.at_nil _ _)⟩)
   ·
    refine HS.eff rfl (wn) rfl (st_litEmpty (α := Int) encI hS tl_22) ?_
    rintro _ h_98 ⟨b_46, rfl, hS, hk⟩
    replace hK := hK.trans hk
    replace hLaL := hLaL.kp hk
    replace hLbL := hLbL.kp hk
    exact Go.Wk.HA.via (N_10 (F, .slice (some ⟨b_46, 0, none⟩) 0 0, .slice (some ⟨b_44, 0, none⟩) 0 0) _ _ ⟨rfl, rfl, rfl, rfl, rfl, rfl, rfl, rfl, rfl, rfl, rfl, hK, hS, hLaL, hLbL, hM⟩) (fun L_ h_ hL_ ⟨hLaL, hLbL, c257, c251, c203, c202⟩ hs_ => ⟨⟨c203, c202⟩, (Go.Wk.at_nil _ _)⟩)
  ·
   refine HS.eff rfl (wn) rfl (st_litEmpty (α := Int) encI hS tl_22) ?_
   rintro _ h_99 ⟨b_47, rfl, hS, hk⟩
   replace hK := hK.trans hk
   replace hLaL := hLaL.kp hk
   replace hLbL := hLbL.kp hk
   refine HA.two (k := 0) (k' := 7) ⟨⟨(hS.box 1 rfl), (hS.box 2 rfl)⟩, (Go.Wk.at_nil _ _)⟩ (by kernel_rfl) ?_ ?_
   ·
    refine HS.eff rfl (wn) rfl (st_litEmpty (α := TB) eB hS tl_29) ?_
    rintro _ h_100 ⟨b_48, rfl, hS, hk⟩
    replace hK := hK.trans hk
    replace hLaL := hLaL.kp hk
    replace hLbL := hLbL.kp hk
    replace hS : St F (Ow.own 3 1 encI (.slice (some ⟨b_47, 0, none⟩) 0 0) ([] : List Int) :: Ow.own 52 2 eB (.slice (some ⟨b_48, 0, none⟩) 0 0) ([] : List TB) :: Ow.box b_2 31 #[.int .i64 b_Root, vb_Links] :: Ow.box b_1 31 #[.int .i64 a_Root, va_Links] :: fr) h_100 := hS.perm2 [1, 0, 2, 3] 4 rfl rfl
    exact Go.Wk.HA.via (N_9 (F, .slice (some ⟨b_47, 0, none⟩) 0 0, .slice (some ⟨b_48, 0, none⟩) 0 0) _ _ ⟨rfl, rfl, rfl, rfl, rfl, rfl, rfl, rfl, rfl, rfl, rfl, hK, hS, hLaL, hLbL, hM⟩) (fun L_ h_ hL_ ⟨hLaL, hLbL, c257, c203, c202⟩ hs_ => ⟨⟨c203, c202⟩, (Go.Wk.at_nil _ _)⟩)
   ·
    refine HS.eff rfl (wn) rfl (st_litEmpty (α := Int) encI hS tl_22) ?_
    rintro _ h_101 ⟨b_49, rfl, hS, hk⟩
    replace hK := hK.trans hk
    replace hLaL := hLaL.kp hk
    replace hLbL := hLbL.kp hk
    replace hS : St F (Ow.own 3 1 encI (.slice (some ⟨b_47, 0, none⟩) 0 0) ([] : List Int) :: Ow.own 3 1 encI (.slice (some ⟨b_49, 0, none⟩) 0 0) ([] : List Int) :: Ow.box b_2 31 #[.int .i64 b_Root, vb_Links] :: Ow.box b_1 31 #[.int .i64 a_Root, va_Links] :: fr) h_101 := hS.perm2 [1, 0, 2, 3] 4 rfl rfl
    exact Go.Wk.HA.via (N_10 (F, .slice (some ⟨b_47, 0, none⟩) 0 0, .slice (some ⟨b_49, 0, none⟩) 0 0) _ _ ⟨rfl, rfl, rfl, rfl, rfl, rfl, rfl, rfl, rfl, rfl, rfl, hK, hS, hLaL, hLbL, hM⟩) (fun L_ h_ hL_ ⟨hLaL, hLbL, c257, c251, c203, c202⟩ hs_ => ⟨⟨c203, c202⟩, (Go.Wk.at_nil _ _)⟩)
 ·
  rintro f_31 h_102 ⟨F_31, vl_1, vall_1, vout_1, e2, e3, e4, e5, e6, e7, hK, hS, hLaL, hLbL, hM⟩
  unfold ref32_Changed_j1 at hM
  refine HW.fr [(2, .pointer (some ⟨b_1, 0, none⟩)), (3, .pointer (some ⟨b_2, 0, none⟩)), (4, .slice none 0 0), (5, vl_1), (6, vall_1), (7, vout_1)] ⟨e2, e3, e4, e5, e6, e7, trivial⟩ ?_
  refine HW.seq ?_
  refine HW.seq ?_
  refine HW.region ?_
  refine oA (.int .i64 0) rfl rfl ?_
  refine HO.nil (tqn (?_))
  refine HW.block ?_
  obtain ⟨I_1, m_1, hI_1, hR_1⟩ := hM
  refine HW.loop (S := List Int × Int) (fun s f h => match s with | (all_1, i_1) => ∃ (F' : Fz) (vall_2 : Value), f 2 = .pointer (some ⟨b_1, 0, none⟩) ∧ f 3 = .pointer (some ⟨b_2, 0, none⟩) ∧ f 4 = .slice none 0 0 ∧ f 5 = vl_1 ∧ f 6 = vall_2 ∧ f 7 = vout_1 ∧ f 8 = .int .i64 i_1 ∧ Kp F h0 F' h ∧ St F' (Ow.box b_1 31 #[.int .i64 a_Root, va_Links] :: Ow.box b_2 31 #[.int .i64 b_Root, vb_Links] :: Ow.own 52 2 eB vl_1 ((([] : List TB) ++ a_Links) ++ b_Links) :: Ow.own 3 1 encI vall_2 all_1 :: Ow.own 3 1 encI vout_1 ([] : List Int) :: fr) h ∧ (SliceF F' h 2 eB va_Links a_Links) ∧ (SliceF F' h 2 eB vb_Links b_Links) ∧ I_1 (all_1, i_1)) m_1 ([], 0) ⟨F_31, vall_1, rfl, rfl, rfl, rfl, rfl, rfl, rfl, hK, hS, hLaL, hLbL, hI_1⟩ ?_
  rintro ⟨all_1, i_1⟩ f_32 h_103 ⟨F_32, vall_2, e2, e3, e4, e5, e6, e7, e8, hK, hS, hLaL, hLbL, hI0⟩
  obtain ⟨K_1, hKe_1⟩ : ∃ K : (List Int) → Int → Prop, K = fun all_1' i_1' => I_1 (all_1', i_1') ∧ m_1 (all_1', i_1') < m_1 (all_1, i_1) := ⟨_, rfl⟩
  have hM : ref32_Changed_l1 a_Root a_Links b_Root b_Links Q K_1 all_1 i_1 := by rw [hKe_1]; exact hR_1 (all_1, i_1) hI0
  unfold ref32_Changed_l1 at hM
  refine HW.fr [(2, .pointer (some ⟨b_1, 0, none⟩)), (3, .pointer (some ⟨b_2, 0, none⟩)), (4, .slice none 0 0), (5, vl_1), (6, vall_2), (7, vout_1), (8, .int .i64 i_1)] ⟨e2, e3, e4, e5, e6, e7, e8, trivial⟩ ?_
  refine HW.seq ?_
  refine HW.seq ?_
  refine HW.region ?_
  refine oM (.int .i64 i_1) rfl rfl ?_
  refine oM (vl_1) rfl rfl ?_
  refine oV (.int .i64 (((([] : List TB) ++ a_Links) ++ b_Links).length : Int)) (q_len ts_29 (shp (hS.own 2 rfl).slice) rfl rfl) rfl ?_
  refine oV (.bool (decide (i_1 < (((([] : List TB) ++ a_Links) ++ b_Links).length : Int)))) (q_lss rfl rfl) rfl ?_
  refine HO.nil (tqn (?_))
  refine HW.cond (decide (i_1 < (((([] : List TB) ++ a_Links) ++ b_Links).length : Int))) rfl (fun c_1 => ?_) (fun c_1 => ?_)
  ·
   replace hM := hM.1 (of_decide_eq_true c_1)
   refine HW.skip (tqn (?_))
   refine HW.seq ?_
   refine HW.block ?_
   refine HW.region ?_
   refine oM (vall_2) rfl rfl ?_
   refine oM (vl_1) rfl rfl ?_
   refine oM (.int .i64 i_1) rfl rfl ?_
   obtain ⟨ho_3, hM⟩ := hM
   refine oV (elemPtr 2 vl_1 (i_1).toNat) (q_idx ts_29 (hS.own 2 rfl).slice rfl rfl ho_3) rfl ?_
   refine oV (fieldPtr 2 vl_1 (i_1).toNat 0) (q_fldElem fa_52_0 (hS.own 2 rfl).slice rfl ho_3) rfl ?_
   refine oV (.int .i64 ((gi ((([] : List TB) ++ a_Links) ++ b_Links) i_1).1)) (q_ldField to_3 (hS.own 2 rfl).slice rfl ho_3 (by decide) rfl) rfl ?_
   replace hS : St F_32 (Ow.own 3 1 encI vall_2 all_1 :: Ow.box b_1 31 #[.int .i64 a_Root, va_Links] :: Ow.box b_2 31 #[.int .i64 b_Root, vb_Links] :: Ow.own 52 2 eB vl_1 ((([] : List TB) ++ a_Links) ++ b_Links) :: Ow.own 3 1 encI vout_1 ([] : List Int) :: fr) h_103 := hS.perm2 [3, 0, 1, 2, 4] 5 rfl rfl
   refine HO.call (wn) rfl (ec en_17 rfl rfl) (ref32_Add_walk (fr := (Ow.box b_1 31 #[.int .i64 a_Root, va_Links] :: Ow.box b_2 31 #[.int .i64 b_Root, vb_Links] :: Ow.own 52 2 eB vl_1 ((([] : List TB) ++ a_Links) ++ b_Links) :: Ow.own 3 1 encI vout_1 ([] : List Int) :: fr)) all_1 ((gi ((([] : List TB) ++ a_Links) ++ b_Links) i_1).1) vall_2 hS hM) ?_
   rintro vr_2 h_104 ⟨F_33, r_2, _, rfl, hk, hS, hM⟩
   replace hK := hK.trans hk
   replace hLaL := hLaL.kp hk
   replace hLbL := hLbL.kp hk
   refine oA (vr_2) rfl rfl ?_
   refine HO.nil (blockQ_normal (tqn (?_)))
   refine HW.region ?_
   refine oM (.int .i64 i_1) rfl rfl ?_
   obtain ⟨ho_4, hM⟩ := hM
   refine oV (.int .i64 (i_1 + 1)) (q_addN _ rfl rfl rfl ho_4.1 ho_4.2) rfl ?_
   refine oA (.int .i64 (i_1 + 1)) rfl rfl ?_
   refine HO.nil (tqn (?_))
   replace hS : St F_33 (Ow.box b_1 31 #[.int .i64 a_Root, va_Links] :: Ow.box b_2 31 #[.int .i64 b_Root, vb_Links] :: Ow.own 52 2 eB vl_1 ((([] : List TB) ++ a_Links) ++ b_Links) :: Ow.own 3 1 encI vr_2 r_2 :: Ow.own 3 1 encI vout_1 ([] : List Int) :: fr) h_104 := hS.perm2 [1, 2, 3, 0, 4] 5 rfl rfl
   rw [hKe_1] at hM
   exact ⟨(r_2, i_1 + 1), ⟨F_33, vr_2, rfl, rfl, rfl, rfl, rfl, rfl, rfl, hK, hS, hLaL, hLbL, hM.1⟩, hM.2⟩
  ·
   replace hM := hM.2 (of_decide_eq_false c_1)
   refine HW.exit (thenQ_exit (thenQ_exit (blockQ_exit (tqn (?_)))))
   refine HW.seq ?_
   refine HW.seq ?_
   refine HW.region ?_
   refine oA (.int .i64 0) rfl rfl ?_
   refine HO.nil (tqn (?_))
   refine HW.block ?_
   obtain ⟨I_2, m_2, hI_2, hR_2⟩ := hM
   replace hS : St F_32 (Ow.box b_1 31 #[.int .i64 a_Root, va_Links] :: Ow.box b_2 31 #[.int .i64 b_Root, vb_Links] :: Ow.own 3 1 encI vall_2 all_1 :: Ow.own 3 1 encI vout_1 ([] : List Int) :: fr) h_103 := hS.perm2 [0, 1, 3, 4] 5 rfl rfl
   refine HW.loop (S := List Int × Int) (fun s f h => match s with | (out_1, i_2) => ∃ (F' : Fz) (vout_2 : Value), f 2 = .pointer (some ⟨b_1, 0, none⟩) ∧ f 3 = .pointer (some ⟨b_2, 0, none⟩) ∧ f 4 = .slice none 0 0 ∧ f 6 = vall_2 ∧ f 7 = vout_2 ∧ f 9 = .int .i64 i_2 ∧ Kp F h0 F' h ∧ St F' (Ow.box b_1 31 #[.int .i64 a_Root, va_Links] :: Ow.box b_2 31 #[.int .i64 b_Root, vb_Links] :: Ow.own 3 1 encI vall_2 all_1 :: Ow.own 3 1 encI vout_2 out_1 :: fr) h ∧ (SliceF F' h 2 eB va_Links a_Links) ∧ (SliceF F' h 2 eB vb_Links b_Links) ∧ I_2 (out_1, i_2)) m_2 ([], 0) ⟨F_32, vout_1, rfl, rfl, rfl, rfl, rfl, rfl, hK, hS, hLaL, hLbL, hI_2⟩ ?_
   rintro ⟨out_1, i_2⟩ f_33 h_105 ⟨F_34, vout_2, e2, e3, e4, e6, e7, e9, hK, hS, hLaL, hLbL, hI0⟩
   obtain ⟨K_2, hKe_2⟩ : ∃ K : (List Int) → Int → Prop, K = fun out_1' i_2' => I_2 (out_1', i_2') ∧ m_2 (out_1', i_2') < m_2 (out_1, i_2) := ⟨_, rfl⟩
   have hM : ref32_Changed_l2 a_Root a_Links b_Root b_Links Q all_1 K_2 out_1 i_2 := by rw [hKe_2]; exact hR_2 (out_1, i_2) hI0
   unfold ref32_Changed_l2 at hM
   refine HW.fr [(2, .pointer (some ⟨b_1, 0, none⟩)), (3, .pointer (some ⟨b_2, 0, none⟩)), (4, .slice none 0 0), (6, vall_2), (7, vout_2), (9, .int .i64 i_2)] ⟨e2, e3, e4, e6, e7, e9, trivial⟩ ?_
   refine HW.seq ?_
   refine HW.seq ?_
   refine HW.region ?_
   refine oM (.int .i64 i_2) rfl rfl ?_
   refine oM (vall_2) rfl rfl ?_
   refine oV (.int .i64 (all_1.length : Int)) (q_len ts_22 (shp (hS.own 2 rfl).slice) rfl rfl) rfl ?_
   refine oV (.bool (decide (i_2 < (all_1.length : Int)))) (q_lss rfl rfl) rfl ?_
   refine HO.nil (tqn (?_))
   refine HW.cond (decide (i_2 < (all_1.length : Int))) rfl (fun c_2 => ?_) (fun c_2 => ?_)
   ·
    replace hM := hM.1 (of_decide_eq_true c_2)
    refine HW.skip (tqn (?_))
    refine HW.seq ?_
    refine HW.block ?_
    refine HW.seq ?_
    refine HW.regionA 14 mixed (fun h => (Blk h b_1 (.cells #[.int .i64 a_Root, va_Links] 31 (0, 0))) ∧ (Blk h b_2 (.cells #[.int .i64 b_Root, vb_Links] 31 (0, 0))) ∧ (OwnIs h 0 3 1 encI vall_2 all_1)) [] (by kernel_rfl) ?_
    refine HA.val (k := 0) (v := .agg #[.int .i64 a_Root, va_Links]) rfl rfl (by kernel_rfl) (by kernel_rfl) (wn) rfl (fun _ ⟨c414, c415, c416⟩ => q_loadAgg (cs := [.int .i64 a_Root, va_Links]) ta_31 rfl rfl (Blk.cells (k := 2) c414 rfl)) ?_
    refine HA.val (k := 1) (v := vall_2) rfl rfl (by kernel_rfl) (by kernel_rfl) (wn) rfl (fun _ ⟨c414, c415, c416⟩ => q_move rfl) ?_
    refine HA.val (k := 2) (v := .int .i64 i_2) rfl rfl (by kernel_rfl) (by kernel_rfl) (wn) rfl (fun _ ⟨c414, c415, c416⟩ => q_move rfl) ?_
    obtain ⟨ho_5, hM⟩ := hM
    refine HA.val (k := 3) (v := elemPtr 1 vall_2 (i_2).toNat) rfl rfl (by kernel_rfl) (by kernel_rfl) (wn) rfl (fun _ ⟨c414, c415, c416⟩ => q_idx ts_22 c416.slice rfl rfl ho_5) ?_
    refine HA.val (k := 4) (v := .int .i64 (gi all_1 i_2)) rfl rfl (by kernel_rfl) (by kernel_rfl) (wn) rfl (fun _ ⟨c414, c415, c416⟩ => q_ldElem to_3 c416.slice rfl ho_5 rfl) ?_
    refine HA.val (k := 6) (v := .agg #[.int .i64 b_Root, vb_Links]) rfl rfl (by kernel_rfl) (by kernel_rfl) (wn) rfl (fun _ ⟨c414, c415, c416⟩ => q_loadAgg (cs := [.int .i64 b_Root, vb_Links]) ta_31 rfl rfl (Blk.cells (k := 2) c415 rfl)) ?_
    refine HA.val (k := 7) (v := vall_2) rfl rfl (by kernel_rfl) (by kernel_rfl) (wn) rfl (fun _ ⟨c414, c415, c416⟩ => q_move rfl) ?_
    refine HA.val (k := 8) (v := .int .i64 i_2) rfl rfl (by kernel_rfl) (by kernel_rfl) (wn) rfl (fun _ ⟨c414, c415, c416⟩ => q_move rfl) ?_
    refine HA.val (k := 9) (v := elemPtr 1 vall_2 (i_2).toNat) rfl rfl (by kernel_rfl) (by kernel_rfl) (wn) rfl (fun _ ⟨c414, c415, c416⟩ => q_idx ts_22 c416.slice rfl rfl ho_5) ?_
    refine HA.val (k := 10) (v := .int .i64 (gi all_1 i_2)) rfl rfl (by kernel_rfl) (by kernel_rfl) (wn) rfl (fun _ ⟨c414, c415, c416⟩ => q_ldElem to_3 c416.slice rfl ho_5 rfl) ?_
    refine HA.one (k := 5) ⟨⟨(hS.box 0 rfl), (hS.box 1 rfl), (hS.own 2 rfl)⟩, (Go.Wk.at_nil _ _)⟩ (by kernel_rfl) ?_
    refine HS.call rfl (wn) rfl (ec en_35 rfl rfl) (ref32_Next_walk (fr := (Ow.box b_1 31 #[.int .i64 a_Root, va_Links] :: Ow.box b_2 31 #[.int .i64 b_Root, vb_Links] :: Ow.own 3 1 encI vall_2 all_1 :: Ow.own 3 1 encI vout_2 out_1 :: fr)) a_Root a_Links (gi all_1 i_2) va_Links hS hLaL hM) ?_
    rintro vr_3 h_106 ⟨F_35, r_3, _, rfl, hk, hS, _, hM⟩
    replace hK := hK.trans hk
    replace hLaL := hLaL.kp hk
    replace hLbL := hLbL.kp hk
    refine HA.one (k := 11) ⟨⟨(hS.box 1 rfl), (hS.box 2 rfl), (hS.own 3 rfl)⟩, (Go.Wk.at_nil _ _)⟩ (by kernel_rfl) ?_
    refine HS.call rfl (wn) rfl (ec en_35 rfl rfl) (ref32_Next_walk (fr := (Ow.own 3 1 encI vr_3 r_3 :: Ow.box b_1 31 #[.int .i64 a_Root, va_Links] :: Ow.box b_2 31 #[.int .i64 b_Root, vb_Links] :: Ow.own 3 1 encI vall_2 all_1 :: Ow.own 3 1 encI vout_2 out_1 :: fr)) b_Root b_Links (gi all_1 i_2) vb_Links hS hLbL hM) ?_
    rintro vr_4 h_107 ⟨F_36, r_4, _, rfl, hk, hS, _, hM⟩
    replace hK := hK.trans hk
    replace hLaL := hLaL.kp hk
    replace hLbL := hLbL.kp hk
    refine HA.one (k := 12) ⟨⟨(hS.box 2 rfl), (hS.box 3 rfl), (hS.own 4 rfl)⟩, (Go.Wk.at_nil _ _)⟩ (by kernel_rfl) ?_
    replace hS : St F_36 (Ow.own 3 1 encI vr_3 r_3 :: Ow.own 3 1 encI vr_4 r_4 :: Ow.box b_1 31 #[.int .i64 a_Root, va_Links] :: Ow.box b_2 31 #[.int .i64 b_Root, vb_Links] :: Ow.own 3 1 encI vall_2 all_1 :: Ow.own 3 1 encI vout_2 out_1 :: fr) h_107 := hS.perm2 [1, 0, 2, 3, 4, 5] 6 rfl rfl
    have hZ_1 := hS
    have hkz_1 := (hS.freeze).2
    replace hS := hS.freeze.1
    have hL_1 : SliceF (fun bz_ => F_36 bz_ ∨ (Ow.own 3 1 encI vr_3 r_3).foot bz_) h_107 1 encI vr_3 r_3 := ⟨(hZ_1.own 0 rfl).slice, fun _ b hb => .inr hb⟩
    replace hS : St (fun bz_ => F_36 bz_ ∨ (Ow.own 3 1 encI vr_3 r_3).foot bz_) (Ow.own 3 1 encI vr_4 r_4 :: Ow.box b_1 31 #[.int .i64 a_Root, va_Links] :: Ow.box b_2 31 #[.int .i64 b_Root, vb_Links] :: Ow.own 3 1 encI vall_2 all_1 :: Ow.own 3 1 encI vout_2 out_1 :: fr) h_107 := hS
    have hZ_2 := hS
    have hkz_2 := (hS.freeze).2
    replace hS := hS.freeze.1
    have hL_2 : SliceF (fun bz_ => (fun bz_ => F_36 bz_ ∨ (Ow.own 3 1 encI vr_3 r_3).foot bz_) bz_ ∨ (Ow.own 3 1 encI vr_4 r_4).foot bz_) h_107 1 encI vr_4 r_4 := ⟨(hZ_2.own 0 rfl).slice, fun _ b hb => .inr hb⟩
    refine HS.call rfl (wn) rfl (ec en_40 rfl rfl) (ref32_SameInts_walk (fr := (Ow.box b_1 31 #[.int .i64 a_Root, va_Links] :: Ow.box b_2 31 #[.int .i64 b_Root, vb_Links] :: Ow.own 3 1 encI vall_2 all_1 :: Ow.own 3 1 encI vout_2 out_1 :: fr)) r_3 r_4 vr_3 vr_4 hS (hL_1.kp hkz_2) hL_2 hM) ?_
    rintro _ h_108 ⟨F_37, r_5, rfl, hk, hS, _, _, hM⟩
    obtain ⟨hS, hk⟩ := hZ_2.back hk hS
    obtain ⟨hS, hk⟩ := hZ_1.back hk hS
    generalize (fun bz_ => (fun bz_ => F_37 bz_ ∧ ¬ (Ow.own 3 1 encI vr_4 r_4).foot bz_) bz_ ∧ ¬ (Ow.own 3 1 encI vr_3 r_3).foot bz_) = F_38 at hS hk
    replace hK := hK.trans hk
    replace hLaL := hLaL.kp hk
    replace hLbL := hLbL.kp hk
    refine HA.val (k := 13) (v := .bool (!r_5)) rfl rfl (by kernel_rfl) (by kernel_rfl) (wn) rfl (fun _ ⟨c414, c415, c416⟩ => q_not rfl) ?_
    refine HA.nil ⟨⟨(hS.box 2 rfl), (hS.box 3 rfl), (hS.own 4 rfl)⟩, (Go.Wk.at_nil _ _)⟩ (by kernel_rfl) (tqn (?_))
    refine HW.cond (!r_5) rfl (fun c_3 => ?_) (fun c_3 => ?_)
    ·
     replace hM := hM.1 c_3
     refine HW.region ?_
     refine oM (vout_2) rfl rfl ?_
     refine oM (vall_2) rfl rfl ?_
     refine oM (.int .i64 i_2) rfl rfl ?_
     refine oV (elemPtr 1 vall_2 (i_2).toNat) (q_idx ts_22 (hS.own 4 rfl).slice rfl rfl ho_5) rfl ?_
     refine oV (.int .i64 (gi all_1 i_2)) (q_ldElem to_3 (hS.own 4 rfl).slice rfl ho_5 rfl) rfl ?_
     refine HO.eff (wn) rfl (st_lit (enc := encI) (cells := #[.int .i64 (gi all_1 i_2)]) #[.int .i64 0] ([(gi all_1 i_2)] : List Int) hS tl_22 (by decide) (by decide) (by kernel_rfl) (by kernel_rfl) rfl (by intro x hx; rfl) rfl) ?_
     rintro _ h_109 ⟨b_50, rfl, hS, hk⟩
     replace hK := hK.trans hk
     replace hLaL := hLaL.kp hk
     replace hLbL := hLbL.kp hk
     obtain ⟨ho_6, hM⟩ := hM
     refine HO.eff (wn) rfl (st_append te_22 hS (i := 6) rfl (hS.own 0 rfl).slice rfl rfl rfl (by intro a _ u hu; simp [encI, encI, encN, encB, encT] at hu; subst hu; rfl) ho_6 (by omega)) ?_
     rintro v_46 h_110 ⟨hS, hk⟩
     replace hK := hK.trans hk
     replace hLaL := hLaL.kp hk
     replace hLbL := hLbL.kp hk
     refine oA (v_46) rfl rfl ?_
     refine HO.nil (blockQ_normal (tqn (?_)))
     refine HW.region ?_
     refine oM (.int .i64 i_2) rfl rfl ?_
     obtain ⟨ho_7, hM⟩ := hM
     refine oV (.int .i64 (i_2 + 1)) (q_addN _ rfl rfl rfl ho_7.1 ho_7.2) rfl ?_
     refine oA (.int .i64 (i_2 + 1)) rfl rfl ?_
     refine HO.nil (tqn (?_))
     replace hS : St F_38 (Ow.box b_1 31 #[.int .i64 a_Root, va_Links] :: Ow.box b_2 31 #[.int .i64 b_Root, vb_Links] :: Ow.own 3 1 encI vall_2 all_1 :: Ow.own 3 1 encI v_46 (out_1 ++ ([(gi all_1 i_2)] : List Int)) :: fr) h_110 := hS.perm2 [3, 4, 5, 6] 7 rfl rfl
     rw [hKe_2] at hM
     exact ⟨(out_1 ++ ([(gi all_1 i_2)] : List Int), i_2 + 1), ⟨F_38, v_46, rfl, rfl, rfl, rfl, rfl, rfl, hK, hS, hLaL, hLbL, hM.1⟩, hM.2⟩
    ·
     replace hM := hM.2 c_3
     refine HW.skip (blockQ_normal (tqn (?_)))
     refine HW.region ?_
     refine oM (.int .i64 i_2) rfl rfl ?_
     obtain ⟨ho_8, hM⟩ := hM
     refine oV (.int .i64 (i_2 + 1)) (q_addN _ rfl rfl rfl ho_8.1 ho_8.2) rfl ?_
     refine oA (.int .i64 (i_2 + 1)) rfl rfl ?_
     refine HO.nil (tqn (?_))
     replace hS : St F_38 (Ow.box b_1 31 #[.int .i64 a_Root, va_Links] :: Ow.box b_2 31 #[.int .i64 b_Root, vb_Links] :: Ow.own 3 1 encI vall_2 all_1 :: Ow.own 3 1 encI vout_2 out_1 :: fr) h_108 := hS.perm2 [2, 3, 4, 5] 6 rfl rfl
     rw [hKe_2] at hM
     exact ⟨(out_1, i_2 + 1), ⟨F_38, vout_2, rfl, rfl, rfl, rfl, rfl, rfl, hK, hS, hLaL, hLbL, hM.1⟩, hM.2⟩
   ·
    replace hM := hM.2 (of_decide_eq_false c_2)
    refine HW.exit (thenQ_exit (thenQ_exit (blockQ_exit (tqn (?_)))))
    refine HW.seq ?_
    refine HW.region ?_
    refine oM (vout_2) rfl rfl ?_
    refine oA (vout_2) rfl rfl ?_
    refine HO.nil (tqn (?_))
    refine HW.ret (?_)
    refine ⟨.inr rfl, vout_2, res1 rfl (rt rfl), ?_⟩
    replace hS : St F_34 (Ow.own 3 1 encI vout_2 out_1 :: fr) h_105 := hS.perm2 [3] 4 rfl rfl
    exact ⟨F_34, out_1, vout_2, rfl, hK, hS, hLaL, hLbL, hM⟩
def law34_within_l1 (l : List Int) (path : List Int) (Q : Bool → Prop) (K_1 : Int → Prop) (i_1 : Int) : Prop :=
 (i_1 < (l.length : Int) → ((path.length : Int) = 0 → Q false) ∧ (¬ ((path.length : Int) = 0) → (I64 ((path.length : Int) - 1)) ∧ (((0 : Int) ≤ (path.length : Int) - 1 ∧ (path.length : Int) - 1 ≤ (path.length : Int)) ∧ (((0 : Int) ≤ i_1 ∧ i_1 < (l.length : Int)) ∧ (ref32_Has_W (cut path 0 ((path.length : Int) - 1)) (gi l i_1) (fun r_2 => ((!r_2) = true → Q false) ∧ ((!r_2) = false → (I64 (i_1 + 1)) ∧ (K_1 (i_1 + 1))))))))) ∧ (¬ (i_1 < (l.length : Int)) → Q true)
def law34_within_W (l : List Int) (path : List Int) (Q : Bool → Prop) : Prop :=
 loopW (fun (K_1 : Int → Prop) (s : Int) => law34_within_l1 l path Q K_1 s) 0
theorem law34_within_walk {F : Fz} {fr : List Ow} {h0 : Heap} (l : List Int) (path : List Int) (vl : Value) (vpath : Value) (hS : St F (fr) h0) (hL_l : SliceF F h0 1 encI vl l) (hL_path : SliceF F h0 1 encI vpath path) {Q : Bool → Prop} (hM : law34_within_W l path Q) :
  HC Tryz.prog 22 #[vl, vpath] h0 fun u h' => ∃ (F' : Fz) (r_1 : Bool), u = .bool r_1 ∧ Kp F h0 F' h' ∧ St F' (fr) h' ∧ (SliceF F' h' 1 encI vl l) ∧ (SliceF F' h' 1 encI vpath path) ∧ Q r_1 := by
 unfold law34_within_W at hM
 have hK := Kp.refl F h0
 refine HC.of_HW (n := 28) Tryz.func22 rfl rfl (Nat.le_of_ble_eq_true rfl) ?_
 refine HW.seq ?_
 refine HW.region ?_
 refine oA (.bool false) rfl rfl ?_
 refine HO.nil (tqn (?_))
 refine HW.seq ?_
 refine HW.seq ?_
 refine HW.region ?_
 refine oA (.int .i64 0) rfl rfl ?_
 refine HO.nil (tqn (?_))
 refine HW.block ?_
 obtain ⟨I_1, m_1, hI_1, hR_1⟩ := hM
 refine HW.loop (S := Int) (fun i_1 f h => ∃ (F' : Fz), f 0 = vl ∧ f 1 = vpath ∧ f 4 = .bool false ∧ f 5 = .int .i64 i_1 ∧ Kp F h0 F' h ∧ St F' (fr) h ∧ (SliceF F' h 1 encI vl l) ∧ (SliceF F' h 1 encI vpath path) ∧ I_1 i_1) m_1 0 ⟨F, rfl, rfl, rfl, rfl, hK, hS, hL_l, hL_path, hI_1⟩ ?_
 rintro i_1 f_1 h_1 ⟨F_1, e0, e1, e4, e5, hK, hS, hL_l, hL_path, hI0⟩
 obtain ⟨K_1, hKe_1⟩ : ∃ K : Int → Prop, K = fun i_1' => I_1 i_1' ∧ m_1 i_1' < m_1 i_1 := ⟨_, rfl⟩
 have hM : law34_within_l1 l path Q K_1 i_1 := by rw [hKe_1]; exact hR_1 i_1 hI0
 unfold law34_within_l1 at hM
 refine HW.fr [(0, vl), (1, vpath), (4, .bool false), (5, .int .i64 i_1)] ⟨e0, e1, e4, e5, trivial⟩ ?_
 refine HW.seq ?_
 refine HW.seq ?_
 refine HW.region ?_
 refine oM (.int .i64 i_1) rfl rfl ?_
 refine oM (vl) rfl rfl ?_
 refine oV (.int .i64 (l.length : Int)) (q_len ts_22 (shp hL_l.is) rfl rfl) rfl ?_
 refine oV (.bool (decide (i_1 < (l.length : Int)))) (q_lss rfl rfl) rfl ?_
 refine HO.nil (tqn (?_))
 refine HW.cond (decide (i_1 < (l.length : Int))) rfl (fun c_1 => ?_) (fun c_1 => ?_)
 ·
  replace hM := hM.1 (of_decide_eq_true c_1)
  refine HW.skip (tqn (?_))
  refine HW.seq ?_
  refine HW.block ?_
  refine HW.seq ?_
  refine HW.regionA 16 mixed (fun h => (SliceIs h 1 encI vl l) ∧ (SliceIs h 1 encI vpath path)) [] (by kernel_rfl) ?_
  refine HA.val (k := 0) (v := vpath) rfl rfl (by kernel_rfl) (by kernel_rfl) (wn) rfl (fun _ ⟨hL_l, hL_path⟩ => q_move rfl) ?_
  refine HA.val (k := 1) (v := .int .i64 (path.length : Int)) rfl rfl (by kernel_rfl) (by kernel_rfl) (wn) rfl (fun _ ⟨hL_l, hL_path⟩ => q_len ts_22 (shp hL_path) rfl rfl) ?_
  refine HA.val (k := 2) (v := .bool (decide ((path.length : Int) = 0))) rfl rfl (by kernel_rfl) (by kernel_rfl) (wn) rfl (fun _ ⟨hL_l, hL_path⟩ => q_eql rfl rfl) ?_
  refine HA.val (k := 3) (v := .bool (decide ((path.length : Int) = 0))) rfl rfl (by kernel_rfl) (by kernel_rfl) (wn) rfl (fun _ ⟨hL_l, hL_path⟩ => q_move rfl) ?_
  rcases Bool.eq_false_or_eq_true (decide ((path.length : Int) = 0)) with c_2 | c_2
  ·
   replace hM := hM.1 (of_decide_eq_true c_2)
   refine HA.past (k := 4) rfl rfl (by kernel_rfl) (by kernel_rfl) (pby rfl rfl c_2) rfl ?_
   refine HA.past (k := 5) rfl rfl (by kernel_rfl) (by kernel_rfl) (pby rfl rfl c_2) rfl ?_
   refine HA.past (k := 6) rfl rfl (by kernel_rfl) (by kernel_rfl) (pby rfl rfl c_2) rfl ?_
   refine HA.past (k := 7) rfl rfl (by kernel_rfl) (by kernel_rfl) (pby rfl rfl c_2) rfl ?_
   refine HA.past (k := 8) rfl rfl (by kernel_rfl) (by kernel_rfl) (pby rfl rfl c_2) rfl ?_
   refine HA.past (k := 9) rfl rfl (by kernel_rfl) (by kernel_rfl) (pby rfl rfl c_2) rfl ?_
   refine HA.past (k := 10) rfl rfl (by kernel_rfl) (by kernel_rfl) (pby rfl rfl c_2) rfl ?_
   refine HA.past (k := 11) rfl rfl (by kernel_rfl) (by kernel_rfl) (pby rfl rfl c_2) rfl ?_
   refine HA.past (k := 12) rfl rfl (by kernel_rfl) (by kernel_rfl) (pby rfl rfl c_2) rfl ?_
   refine HA.one (k := 13) ⟨⟨hL_l.is, hL_path.is⟩, (Go.Wk.at_nil _ _)⟩ (by kernel_rfl) ?_
   refine HS.past rfl (pby rfl rfl c_2) rfl ?_
   refine HA.past (k := 14) rfl rfl (by kernel_rfl) (by kernel_rfl) (pby rfl rfl c_2) rfl ?_
   refine HA.val (k := 15) (v := .bool true) rfl rfl (by kernel_rfl) (by kernel_rfl) (wn) rfl (fun _ ⟨hL_l, hL_path⟩ => q_pickK true rfl c_2 rfl) ?_
   refine HA.nil ⟨⟨hL_l.is, hL_path.is⟩, (Go.Wk.at_nil _ _)⟩ (by kernel_rfl) (tqn (?_))
   refine HW.condT rfl ?_
   refine HW.seq ?_
   refine HW.region ?_
   refine oA (.bool false) rfl rfl ?_
   refine HO.nil (tqn (?_))
   refine HW.ret (blockQ_ret (thenQ_ret (thenQ_ret (blockQ_ret (thenQ_ret (?_))))))
   refine ⟨.inr rfl, .bool false, res1 rfl (rt rfl), ?_⟩
   exact ⟨F_1, false, rfl, hK, hS, hL_l, hL_path, hM⟩
  ·
   replace hM := hM.2 (of_decide_eq_false c_2)
   refine HA.val (k := 4) (v := vpath) rfl rfl (by kernel_rfl) (by kernel_rfl) (wby rfl rfl c_2) rfl (fun _ ⟨hL_l, hL_path⟩ => q_move rfl) ?_
   refine HA.val (k := 5) (v := vpath) rfl rfl (by kernel_rfl) (by kernel_rfl) (wby rfl rfl c_2) rfl (fun _ ⟨hL_l, hL_path⟩ => q_move rfl) ?_
   refine HA.val (k := 6) (v := .int .i64 (path.length : Int)) rfl rfl (by kernel_rfl) (by kernel_rfl) (wby rfl rfl c_2) rfl (fun _ ⟨hL_l, hL_path⟩ => q_len ts_22 (shp hL_path) rfl rfl) ?_
   obtain ⟨ho_1, hM⟩ := hM
   refine HA.val (k := 7) (v := .int .i64 ((path.length : Int) - 1)) rfl rfl (by kernel_rfl) (by kernel_rfl) (wby rfl rfl c_2) rfl (fun _ ⟨hL_l, hL_path⟩ => q_subN _ rfl rfl rfl ho_1.1 ho_1.2) ?_
   obtain ⟨ho_2, hM⟩ := hM
   refine HA.val (k := 8) (v := cutV 1 vpath (0 : Int).toNat ((path.length : Int) - 1).toNat) rfl rfl (by kernel_rfl) (by kernel_rfl) (wby rfl rfl c_2) rfl (fun _ ⟨hL_l, hL_path⟩ => q_slH ts_22 hL_path rfl rfl ho_2) ?_
   refine HA.val (k := 9) (v := vl) rfl rfl (by kernel_rfl) (by kernel_rfl) (wby rfl rfl c_2) rfl (fun _ ⟨hL_l, hL_path⟩ => q_move rfl) ?_
   refine HA.val (k := 10) (v := .int .i64 i_1) rfl rfl (by kernel_rfl) (by kernel_rfl) (wby rfl rfl c_2) rfl (fun _ ⟨hL_l, hL_path⟩ => q_move rfl) ?_
   obtain ⟨ho_3, hM⟩ := hM
   refine HA.val (k := 11) (v := elemPtr 1 vl (i_1).toNat) rfl rfl (by kernel_rfl) (by kernel_rfl) (wby rfl rfl c_2) rfl (fun _ ⟨hL_l, hL_path⟩ => q_idx ts_22 hL_l rfl rfl ho_3) ?_
   refine HA.val (k := 12) (v := .int .i64 (gi l i_1)) rfl rfl (by kernel_rfl) (by kernel_rfl) (wby rfl rfl c_2) rfl (fun _ ⟨hL_l, hL_path⟩ => q_ldElem to_3 hL_l rfl ho_3 rfl) ?_
   refine HA.one (k := 13) ⟨⟨hL_l.is, hL_path.is⟩, (Go.Wk.at_nil _ _)⟩ (by kernel_rfl) ?_
   refine HS.call rfl (wby rfl rfl c_2) rfl (ec en_8 rfl rfl) (ref32_Has_walk (fr := (fr)) (cut path 0 ((path.length : Int) - 1)) (gi l i_1) (cutV 1 vpath (0 : Int).toNat ((path.length : Int) - 1).toNat) hS (cutF hL_path 0 ((path.length : Int) - 1) (Int.le_refl _) ho_2.1 ho_2.2) hM) ?_
   rintro _ h_2 ⟨F_2, r_2, rfl, hk, hS, _, hM⟩
   replace hK := hK.trans hk
   replace hL_l := hL_l.kp hk
   replace hL_path := hL_path.kp hk
   refine HA.val (k := 14) (v := .bool (!r_2)) rfl rfl (by kernel_rfl) (by kernel_rfl) (wby rfl rfl c_2) rfl (fun _ ⟨hL_l, hL_path⟩ => q_not rfl) ?_
   refine HA.val (k := 15) (v := .bool (!r_2)) rfl rfl (by kernel_rfl) (by kernel_rfl) (wn) rfl (fun _ ⟨hL_l, hL_path⟩ => q_pickK false rfl c_2 rfl) ?_
   refine HA.nil ⟨⟨hL_l.is, hL_path.is⟩, (Go.Wk.at_nil _ _)⟩ (by kernel_rfl) (tqn (?_))
   refine HW.cond (!r_2) rfl (fun c_3 => ?_) (fun c_3 => ?_)
   ·
    replace hM := hM.1 c_3
    refine HW.seq ?_
    refine HW.region ?_
    refine oA (.bool false) rfl rfl ?_
    refine HO.nil (tqn (?_))
    refine HW.ret (blockQ_ret (thenQ_ret (thenQ_ret (blockQ_ret (thenQ_ret (?_))))))
    refine ⟨.inr rfl, .bool false, res1 rfl (rt rfl), ?_⟩
    exact ⟨F_2, false, rfl, hK, hS, hL_l, hL_path, hM⟩
   ·
    replace hM := hM.2 c_3
    refine HW.skip (blockQ_normal (tqn (?_)))
    refine HW.region ?_
    refine oM (.int .i64 i_1) rfl rfl ?_
    obtain ⟨ho_4, hM⟩ := hM
    refine oV (.int .i64 (i_1 + 1)) (q_addN _ rfl rfl rfl ho_4.1 ho_4.2) rfl ?_
    refine oA (.int .i64 (i_1 + 1)) rfl rfl ?_
    refine HO.nil (tqn (?_))
    rw [hKe_1] at hM
    exact ⟨i_1 + 1, ⟨F_2, rfl, rfl, rfl, rfl, hK, hS, hL_l, hL_path, hM.1⟩, hM.2⟩
 ·
  replace hM := hM.2 (of_decide_eq_false c_1)
  refine HW.exit (thenQ_exit (thenQ_exit (blockQ_exit (tqn (?_)))))
  refine HW.seq ?_
  refine HW.region ?_
  refine oA (.bool true) rfl rfl ?_
  refine HO.nil (tqn (?_))
  refine HW.ret (?_)
  refine ⟨.inr rfl, .bool true, res1 rfl (rt rfl), ?_⟩
  exact ⟨F_1, true, rfl, hK, hS, hL_l, hL_path, hM⟩
def law34_RepairPlays_j4 (Q : Bool → Prop) (i_1 : Int) (K_1 : Int → (List TB) → (List Int) → Int → Prop) (l_3 : List Int) (x_0_1 : Int) (x_1_1 : List TB) (b_8 : Bool) : Prop :=
 (b_8 = true → Q false) ∧ (b_8 = false → (I64 (i_1 + 1)) ∧ (K_1 x_0_1 x_1_1 l_3 (i_1 + 1)))
def law34_RepairPlays_j3 (Q : Bool → Prop) (r3_1 : Int) (t_0_1 : Int) (t_1_1 : List TB) (i_1 : Int) (K_1 : Int → (List TB) → (List Int) → Int → Prop) (l_3 : List Int) (x_0_1 : Int) (x_1_1 : List TB) (path_1 : List Int) (b_7 : Bool) : Prop :=
 (b_7 = true → Q false) ∧ (b_7 = false → ref34_Star_W t_0_1 t_1_1 r3_1 (fun r_15 => ((!r_15) = true → ref34_Star_W x_0_1 x_1_1 r3_1 (fun r_16 => ((!r_16) = true → ref32_Changed_W t_0_1 t_1_1 x_0_1 x_1_1 (fun r_17 => law34_within_W r_17 path_1 (fun r_18 => law34_RepairPlays_j4 Q i_1 K_1 l_3 x_0_1 x_1_1 (!r_18)))) ∧ ((!r_16) = false → law34_RepairPlays_j4 Q i_1 K_1 l_3 x_0_1 x_1_1 false))) ∧ ((!r_15) = false → law34_RepairPlays_j4 Q i_1 K_1 l_3 x_0_1 x_1_1 false)))
def law34_RepairPlays_j2 (Q : Bool → Prop) (r0_1 : Int) (r2_1 : List Int) (r3_1 : Int) (t_0_1 : Int) (t_1_1 : List TB) (i_1 : Int) (K_1 : Int → (List TB) → (List Int) → Int → Prop) (l_3 : List Int) (x_0_1 : Int) (x_1_1 : List TB) (path_1 : List Int) : Prop :=
 ref33_Valid_W x_0_1 x_1_1 r0_1 l_3 r2_1 r3_1 (fun r_12 => ((!r_12) = true → law34_RepairPlays_j3 Q r3_1 t_0_1 t_1_1 i_1 K_1 l_3 x_0_1 x_1_1 path_1 true) ∧ ((!r_12) = false → law34_own_W x_0_1 x_1_1 (fun r_0_8 r_1_8 => repair_Star_W r_0_8 r_1_8 r3_1 (fun r_13 => ref34_Star_W x_0_1 x_1_1 r3_1 (fun r_14 => law34_RepairPlays_j3 Q r3_1 t_0_1 t_1_1 i_1 K_1 l_3 x_0_1 x_1_1 path_1 (!(r_13 == r_14)))))))
def law34_RepairPlays_j1 (moves : List UInt8) (Q : Bool → Prop) (r0_1 : Int) (r1_1 : List Int) (r2_1 : List Int) (r3_1 : Int) (r_2 : List Int) (t_0_1 : Int) (t_1_1 : List TB) (l_1 : List Int) (i_1 : Int) (K_1 : Int → (List TB) → (List Int) → Int → Prop) (b_4 : Bool) : Prop :=
 (b_4 = true → ((0 : Int) ≤ i_1 ∧ i_1 < (moves.length : Int)) ∧ ((I64 ((gi moves i_1).toNat : Int)) ∧ (((r1_1.length : Int) ≠ 0) ∧ (((0 : Int) ≤ ((gi moves i_1).toNat : Int).tmod (r1_1.length : Int) ∧ ((gi moves i_1).toNat : Int).tmod (r1_1.length : Int) < (r1_1.length : Int)) ∧ (ref32_Has_W l_1 (gi r1_1 (((gi moves i_1).toNat : Int).tmod (r1_1.length : Int))) (fun r_3 => (r_3 = true → law34_own_W t_0_1 t_1_1 (fun r_0_2 r_1_2 => law34_copied_W r_2 (fun r_4 => repair_Leave_W r_0_2 r_1_2 (gi r1_1 (((gi moves i_1).toNat : Int).tmod (r1_1.length : Int))) r_4 r3_1 (fun r_0_3 r_1_3 => law34_cut_W l_1 (gi r1_1 (((gi moves i_1).toNat : Int).tmod (r1_1.length : Int))) (fun r_5 => ref32_Path_W t_0_1 t_1_1 (gi r1_1 (((gi moves i_1).toNat : Int).tmod (r1_1.length : Int))) (fun r_6 => ref34_Leave_W t_0_1 t_1_1 (gi r1_1 (((gi moves i_1).toNat : Int).tmod (r1_1.length : Int))) r_2 r3_1 (fun r_0_4 r_1_4 => ref32_Same_W r_0_3 r_1_3 r_0_4 r_1_4 (fun r_7 => ((!r_7) = true → Q false) ∧ ((!r_7) = false → law34_RepairPlays_j2 Q r0_1 r2_1 r3_1 t_0_1 t_1_1 i_1 K_1 r_5 r_0_3 r_1_3 r_6))))))))) ∧ (r_3 = false → law34_own_W t_0_1 t_1_1 (fun r_0_5 r_1_5 => law34_copied_W r_2 (fun r_8 => repair_Join_W r_0_5 r_1_5 (gi r1_1 (((gi moves i_1).toNat : Int).tmod (r1_1.length : Int))) r_8 r3_1 (fun r_0_6 r_1_6 => ref32_Add_W l_1 (gi r1_1 (((gi moves i_1).toNat : Int).tmod (r1_1.length : Int))) (fun r_9 => ref34_Join_W t_0_1 t_1_1 (gi r1_1 (((gi moves i_1).toNat : Int).tmod (r1_1.length : Int))) r_2 r3_1 (fun r_0_7 r_1_7 => ref32_Same_W r_0_6 r_1_6 r_0_7 r_1_7 (fun r_10 => ((!r_10) = true → Q false) ∧ ((!r_10) = false → ref32_Path_W r_0_6 r_1_6 (gi r1_1 (((gi moves i_1).toNat : Int).tmod (r1_1.length : Int))) (fun r_11 => law34_RepairPlays_j2 Q r0_1 r2_1 r3_1 t_0_1 t_1_1 i_1 K_1 r_9 r_0_6 r_1_6 r_11))))))))))))))) ∧ (b_4 = false → law34_lives_W  (fun r_19 => Q r_19))
def law34_RepairPlays_l2 (moves : List UInt8) (Q : Bool → Prop) (r0_1 : Int) (r1_1 : List Int) (r2_1 : List Int) (r3_1 : Int) (r_2 : List Int) (K_1 : Int → (List TB) → (List Int) → Int → Prop) (t_0_1 : Int) (t_1_1 : List TB) (l_1 : List Int) (i_1 : Int) : Prop :=
 (i_1 < (moves.length : Int) → (i_1 < 30 → law34_RepairPlays_j1 moves Q r0_1 r1_1 r2_1 r3_1 r_2 t_0_1 t_1_1 l_1 i_1 K_1 (decide (0 < (r1_1.length : Int)))) ∧ (¬ (i_1 < 30) → law34_RepairPlays_j1 moves Q r0_1 r1_1 r2_1 r3_1 r_2 t_0_1 t_1_1 l_1 i_1 K_1 false)) ∧ (¬ (i_1 < (moves.length : Int)) → law34_RepairPlays_j1 moves Q r0_1 r1_1 r2_1 r3_1 r_2 t_0_1 t_1_1 l_1 i_1 K_1 false)
def law34_RepairPlays_W (a_Root : Int) (a_Members : List Int) (a_Services : List Int) (a_Fan : Int) (moves : List UInt8) (Q : Bool → Prop) : Prop :=
 law33_Ask_Own_W a_Root a_Members a_Services a_Fan (fun r0_1 r1_1 r2_1 r3_1 => law34_turned_W r2_1 a_Fan (fun r_2 => ref33_Make_W r0_1 [] r_2 r3_1 (fun r_0_1 r_1_1 => loopW (fun (K_1 : (Int × List TB × List Int × Int) → Prop) (s : Int × List TB × List Int × Int) => law34_RepairPlays_l2 moves Q r0_1 r1_1 r2_1 r3_1 r_2 (fun t_0_1 t_1_1 l_1 i_1 => K_1 (t_0_1, t_1_1, l_1, i_1)) s.1 s.2.1 s.2.2.1 s.2.2.2) (r_0_1, r_1_1, [], 0))))
theorem law34_RepairPlays_walk {F : Fz} {fr : List Ow} {h0 : Heap} (a_Root : Int) (a_Members : List Int) (a_Services : List Int) (a_Fan : Int) (moves : List UInt8) (va_Members : Value) (va_Services : Value) (vmoves : Value) (hS : St F (fr) h0) (hLaM : SliceF F h0 1 encI va_Members a_Members) (hLaS : SliceF F h0 1 encI va_Services a_Services) (hLmv : SliceF F h0 1 enc8 vmoves moves) (hD : DM.on = false) {Q : Bool → Prop} (hM : law34_RepairPlays_W a_Root a_Members a_Services a_Fan moves Q) :
  HC Tryz.prog 3 #[.agg #[.int .i64 a_Root, va_Members, va_Services, .int .u8 a_Fan], vmoves] h0 fun u h' => ∃ (F' : Fz) (r_1 : Bool), u = .bool r_1 ∧ Kp F h0 F' h' ∧ St F' (fr) h' ∧ (SliceF F' h' 1 encI va_Members a_Members) ∧ (SliceF F' h' 1 encI va_Services a_Services) ∧ (SliceF F' h' 1 enc8 vmoves moves) ∧ Q r_1 := by
 unfold law34_RepairPlays_W at hM
 have hK := Kp.refl F h0
 refine HC.of_HW (n := 142) Tryz.func3 rfl rfl (Nat.le_of_ble_eq_true rfl) ?_
 refine HW.seq ?_
 refine HW.region ?_
 refine HO.eff (wn) rfl (st_box (c := #[.int .i64 a_Root, va_Members, va_Services, .int .u8 a_Fan]) (k' := 4) hS rfl rfl) ?_
 rintro _ h_1 ⟨b_1, rfl, hS, hk⟩
 replace hK := hK.trans hk
 replace hLaM := hLaM.kp hk
 replace hLaS := hLaS.kp hk
 replace hLmv := hLmv.kp hk
 refine oA (.bool false) rfl rfl ?_
 refine HO.nil (tqn (?_))
 refine HW.seq ?_
 refine HW.region ?_
 refine oV (.agg #[.int .i64 a_Root, va_Members, va_Services, .int .u8 a_Fan]) (q_loadAgg (cs := [.int .i64 a_Root, va_Members, va_Services, .int .u8 a_Fan]) ta_24 rfl rfl (Blk.cells (k := 4) (hS.box 0 rfl) rfl)) rfl ?_
 refine HO.call (wn) rfl (ec en_5 rfl rfl) (law33_Ask_Own_walk (fr := (Ow.box b_1 24 #[.int .i64 a_Root, va_Members, va_Services, .int .u8 a_Fan] :: fr)) a_Root a_Members a_Services a_Fan va_Members va_Services hS hLaM hLaS hM) ?_
 rintro _ h_2 ⟨F_1, r0_1, r1_1, r2_1, r3_1, vr1_1, vr2_1, rfl, hk, hS, _, _, hM⟩
 replace hK := hK.trans hk
 replace hLaM := hLaM.kp hk
 replace hLaS := hLaS.kp hk
 replace hLmv := hLmv.kp hk
 refine oM (.tuple #[.int .i64 r0_1, vr1_1, vr2_1, .int .i64 r3_1]) rfl rfl ?_
 refine oV (.int .i64 r0_1) (q_extract rfl rfl) rfl ?_
 refine oV (vr1_1) (q_extract rfl rfl) rfl ?_
 refine oV (vr2_1) (q_extract rfl rfl) rfl ?_
 refine oV (.int .i64 r3_1) (q_extract rfl rfl) rfl ?_
 refine oA (.int .i64 r0_1) rfl rfl ?_
 refine oA (vr1_1) rfl rfl ?_
 refine oA (vr2_1) rfl rfl ?_
 refine oA (.int .i64 r3_1) rfl rfl ?_
 refine HO.nil (tqn (?_))
 refine HW.seq ?_
 refine HW.region ?_
 refine oM (vr2_1) rfl rfl ?_
 refine oV (.pointer (some ⟨b_1, 3, none⟩)) (qfA fa_24_3 rfl rfl) rfl ?_
 refine oV (.int .u8 a_Fan) (q_load to_5 rfl (Blk.cell (hS.box 2 rfl) rfl)) rfl ?_
 replace hS : St F_1 (Ow.own 3 1 encI vr2_1 r2_1 :: Ow.own 3 1 encI vr1_1 r1_1 :: Ow.box b_1 24 #[.int .i64 a_Root, va_Members, va_Services, .int .u8 a_Fan] :: fr) h_2 := hS.perm2 [1, 0, 2] 3 rfl rfl
 have hZ_1 := hS
 have hkz_1 := (hS.freeze).2
 replace hS := hS.freeze.1
 have hL_1 : SliceF (fun bz_ => F_1 bz_ ∨ (Ow.own 3 1 encI vr2_1 r2_1).foot bz_) h_2 1 encI vr2_1 r2_1 := ⟨(hZ_1.own 0 rfl).slice, fun _ b hb => .inr hb⟩
 refine HO.call (wn) rfl (ec en_6 rfl rfl) (law34_turned_walk (fr := (Ow.own 3 1 encI vr1_1 r1_1 :: Ow.box b_1 24 #[.int .i64 a_Root, va_Members, va_Services, .int .u8 a_Fan] :: fr)) r2_1 a_Fan vr2_1 hS hL_1 hM) ?_
 rintro vr_1 h_3 ⟨F_2, r_2, _, rfl, hk, hS, _, hM⟩
 obtain ⟨hS, hk⟩ := hZ_1.back hk hS
 generalize (fun bz_ => F_2 bz_ ∧ ¬ (Ow.own 3 1 encI vr2_1 r2_1).foot bz_) = F_3 at hS hk
 replace hK := hK.trans hk
 replace hLaM := hLaM.kp hk
 replace hLaS := hLaS.kp hk
 replace hLmv := hLmv.kp hk
 refine oA (vr_1) rfl rfl ?_
 refine HO.nil (tqn (?_))
 refine HW.seq ?_
 refine HW.region ?_
 refine oM (.int .i64 r0_1) rfl rfl ?_
 refine oM (vr_1) rfl rfl ?_
 refine oM (.int .i64 r3_1) rfl rfl ?_
 replace hS : St F_3 (Ow.own 3 1 encI vr_1 r_2 :: Ow.own 3 1 encI vr2_1 r2_1 :: Ow.own 3 1 encI vr1_1 r1_1 :: Ow.box b_1 24 #[.int .i64 a_Root, va_Members, va_Services, .int .u8 a_Fan] :: fr) h_3 := hS.perm2 [1, 0, 2, 3] 4 rfl rfl
 have hZ_2 := hS
 have hkz_2 := (hS.freeze).2
 replace hS := hS.freeze.1
 have hL_2 : SliceF (fun bz_ => F_3 bz_ ∨ (Ow.own 3 1 encI vr_1 r_2).foot bz_) h_3 1 encI vr_1 r_2 := ⟨(hZ_2.own 0 rfl).slice, fun _ b hb => .inr hb⟩
 refine HO.call (wn) rfl (ec en_7 rfl rfl) (ref33_Make_walk (fr := (Ow.own 3 1 encI vr2_1 r2_1 :: Ow.own 3 1 encI vr1_1 r1_1 :: Ow.box b_1 24 #[.int .i64 a_Root, va_Members, va_Services, .int .u8 a_Fan] :: fr)) r0_1 [] r_2 r3_1 (.slice none 0 0) vr_1 hS (SliceF.nil _ _ _ _) hL_2 hM) ?_
 rintro _ h_4 ⟨F_4, r_0_1, r_1_1, vr_1_1, rfl, hk, hS, _, _, hM⟩
 obtain ⟨hS, hk⟩ := hZ_2.back hk hS
 generalize (fun bz_ => F_4 bz_ ∧ ¬ (Ow.own 3 1 encI vr_1 r_2).foot bz_) = F_5 at hS hk
 replace hK := hK.trans hk
 replace hLaM := hLaM.kp hk
 replace hLaS := hLaS.kp hk
 replace hLmv := hLmv.kp hk
 refine HO.eff (wn) rfl (st_litEmpty (α := Int) encI hS tl_22) ?_
 rintro _ h_5 ⟨b_2, rfl, hS, hk⟩
 replace hK := hK.trans hk
 replace hLaM := hLaM.kp hk
 replace hLaS := hLaS.kp hk
 replace hLmv := hLmv.kp hk
 refine HO.eff (wn) rfl (st_alloc (c := #[.int .i64 0, .slice none 0 0]) hS tz_31 rfl) ?_
 rintro _ h_6 ⟨b_3, rfl, hS, hk⟩
 replace hK := hK.trans hk
 replace hLaM := hLaM.kp hk
 replace hLaS := hLaS.kp hk
 replace hLmv := hLmv.kp hk
 refine HO.sto (wn) rfl (st_storeAgg (c' := #[.int .i64 r_0_1, vr_1_1]) hS (i := 0) rfl ta_31 rfl rfl rfl (List.forall_mem_cons.2 ⟨rfl, (List.forall_mem_cons.2 ⟨(shp (hS.own 3 rfl).slice).one, (fun _ h => by cases h)⟩)⟩) (Nat.le_of_ble_eq_true rfl) rfl) ?_
 rintro h_7 ⟨hS, hk⟩
 replace hK := hK.trans hk
 replace hLaM := hLaM.kp hk
 replace hLaS := hLaS.kp hk
 replace hLmv := hLmv.kp hk
 refine oA (.slice (some ⟨b_2, 0, none⟩) 0 0) rfl rfl ?_
 refine HO.nil (tqn (?_))
 refine HW.seq ?_
 refine HW.seq ?_
 refine HW.region ?_
 refine oA (.int .i64 0) rfl rfl ?_
 refine HO.nil (tqn (?_))
 refine HW.block ?_
 obtain ⟨I_1, m_1, hI_1, hR_1⟩ := hM
 replace hS : St F_5 (Ow.own 3 1 encI vr1_1 r1_1 :: Ow.own 3 1 encI vr2_1 r2_1 :: Ow.own 3 1 encI vr_1 r_2 :: Ow.box b_3 31 #[.int .i64 r_0_1, vr_1_1] :: Ow.own 52 2 eB vr_1_1 r_1_1 :: Ow.own 3 1 encI (.slice (some ⟨b_2, 0, none⟩) 0 0) ([] : List Int) :: fr) h_7 := hS.perm2 [5, 4, 2, 0, 3, 1] 7 rfl rfl
 refine HW.loop (S := Int × List TB × List Int × Int) (fun s f h => match s with | (t_0_1, t_1_1, l_1, i_1) => ∃ (F' : Fz) (vt_1_1 : Value) (v_1 : Value), f 1 = vmoves ∧ f 4 = .bool false ∧ f 5 = .int .i64 r0_1 ∧ f 6 = vr1_1 ∧ f 7 = vr2_1 ∧ f 8 = .int .i64 r3_1 ∧ f 9 = vr_1 ∧ f 10 = .pointer (some ⟨b_3, 0, none⟩) ∧ f 11 = v_1 ∧ f 12 = .int .i64 i_1 ∧ Kp F h0 F' h ∧ St F' (Ow.own 3 1 encI vr1_1 r1_1 :: Ow.own 3 1 encI vr2_1 r2_1 :: Ow.own 3 1 encI vr_1 r_2 :: Ow.box b_3 31 #[.int .i64 t_0_1, vt_1_1] :: Ow.own 52 2 eB vt_1_1 t_1_1 :: Ow.own 3 1 encI v_1 l_1 :: fr) h ∧ (SliceF F' h 1 encI va_Members a_Members) ∧ (SliceF F' h 1 encI va_Services a_Services) ∧ (SliceF F' h 1 enc8 vmoves moves) ∧ I_1 (t_0_1, t_1_1, l_1, i_1)) m_1 (r_0_1, r_1_1, [], 0) ⟨F_5, vr_1_1, .slice (some ⟨b_2, 0, none⟩) 0 0, rfl, rfl, rfl, rfl, rfl, rfl, rfl, rfl, rfl, rfl, hK, hS, hLaM, hLaS, hLmv, hI_1⟩ ?_
 rintro ⟨t_0_1, t_1_1, l_1, i_1⟩ f_1 h_8 ⟨F_6, vt_1_1, v_1, e1, e4, e5, e6, e7, e8, e9, e10, e11, e12, hK, hS, hLaM, hLaS, hLmv, hI0⟩
 obtain ⟨K_1, hKe_1⟩ : ∃ K : Int → (List TB) → (List Int) → Int → Prop, K = fun t_0_1' t_1_1' l_1' i_1' => I_1 (t_0_1', t_1_1', l_1', i_1') ∧ m_1 (t_0_1', t_1_1', l_1', i_1') < m_1 (t_0_1, t_1_1, l_1, i_1) := ⟨_, rfl⟩
 have hM : law34_RepairPlays_l2 moves Q r0_1 r1_1 r2_1 r3_1 r_2 K_1 t_0_1 t_1_1 l_1 i_1 := by rw [hKe_1]; exact hR_1 (t_0_1, t_1_1, l_1, i_1) hI0
 unfold law34_RepairPlays_l2 at hM
 refine HW.fr [(1, vmoves), (4, .bool false), (5, .int .i64 r0_1), (6, vr1_1), (7, vr2_1), (8, .int .i64 r3_1), (9, vr_1), (10, .pointer (some ⟨b_3, 0, none⟩)), (11, v_1), (12, .int .i64 i_1)] ⟨e1, e4, e5, e6, e7, e8, e9, e10, e11, e12, trivial⟩ ?_
 refine HW.seq ?_
 refine HW.seq_mid (fun f h => ∃ (F' : Fz) (b_4 : Bool), f 1 = vmoves ∧ f 4 = .bool false ∧ f 5 = .int .i64 r0_1 ∧ f 6 = vr1_1 ∧ f 7 = vr2_1 ∧ f 8 = .int .i64 r3_1 ∧ f 9 = vr_1 ∧ f 10 = .pointer (some ⟨b_3, 0, none⟩) ∧ f 11 = v_1 ∧ f 12 = .int .i64 i_1 ∧ f 44 = .bool b_4 ∧ Kp F h0 F' h ∧ St F' (Ow.own 3 1 encI vr1_1 r1_1 :: Ow.own 3 1 encI vr2_1 r2_1 :: Ow.own 3 1 encI vr_1 r_2 :: Ow.box b_3 31 #[.int .i64 t_0_1, vt_1_1] :: Ow.own 52 2 eB vt_1_1 t_1_1 :: Ow.own 3 1 encI v_1 l_1 :: fr) h ∧ (SliceF F' h 1 encI va_Members a_Members) ∧ (SliceF F' h 1 encI va_Services a_Services) ∧ (SliceF F' h 1 enc8 vmoves moves) ∧ law34_RepairPlays_j1 moves Q r0_1 r1_1 r2_1 r3_1 r_2 t_0_1 t_1_1 l_1 i_1 K_1 b_4) ?_ ?_
 ·
  refine HW.region ?_
  refine oM (.int .i64 i_1) rfl rfl ?_
  refine oM (vmoves) rfl rfl ?_
  refine oV (.int .i64 (moves.length : Int)) (q_len ts_25 (shp hLmv.is) rfl rfl) rfl ?_
  refine oV (.bool (decide (i_1 < (moves.length : Int)))) (q_lss rfl rfl) rfl ?_
  refine oM (.bool (decide (i_1 < (moves.length : Int)))) rfl rfl ?_
  rcases Bool.eq_false_or_eq_true (decide (i_1 < (moves.length : Int))) with c_1 | c_1
  ·
   replace hM := hM.1 (of_decide_eq_true c_1)
   refine HO.val (v := .int .i64 i_1) (wby rfl rfl c_1) rfl (q_move rfl) ?_
   refine HO.val (v := .bool (decide (i_1 < 30))) (wby rfl rfl c_1) rfl (q_lss rfl rfl) ?_
   refine oV (.bool (decide (i_1 < 30))) (q_pickK true rfl c_1 rfl) rfl ?_
   refine oM (.bool (decide (i_1 < 30))) rfl rfl ?_
   rcases Bool.eq_false_or_eq_true (decide (i_1 < 30)) with c_2 | c_2
   ·
    replace hM := hM.1 (of_decide_eq_true c_2)
    refine HO.val (v := vr1_1) (wby rfl rfl c_2) rfl (q_move rfl) ?_
    refine HO.val (v := .int .i64 (r1_1.length : Int)) (wby rfl rfl c_2) rfl (q_len ts_22 (shp (hS.own 0 rfl).slice) rfl rfl) ?_
    refine HO.val (v := .bool (decide (0 < (r1_1.length : Int)))) (wby rfl rfl c_2) rfl (q_gtr rfl rfl) ?_
    refine oV (.bool (decide (0 < (r1_1.length : Int)))) (q_pickK true rfl c_2 rfl) rfl ?_
    refine HO.nil (tqn (?_))
    exact ⟨F_6, decide (0 < (r1_1.length : Int)), rfl, rfl, rfl, rfl, rfl, rfl, rfl, rfl, rfl, rfl, rfl, hK, hS, hLaM, hLaS, hLmv, hM⟩
   ·
    replace hM := hM.2 (of_decide_eq_false c_2)
    refine HO.past (pby rfl rfl c_2) rfl ?_
    refine HO.past (pby rfl rfl c_2) rfl ?_
    refine HO.past (pby rfl rfl c_2) rfl ?_
    refine oV (.bool false) (q_pickK false rfl c_2 rfl) rfl ?_
    refine HO.nil (tqn (?_))
    exact ⟨F_6, false, rfl, rfl, rfl, rfl, rfl, rfl, rfl, rfl, rfl, rfl, rfl, hK, hS, hLaM, hLaS, hLmv, hM⟩
  ·
   replace hM := hM.2 (of_decide_eq_false c_1)
   refine HO.past (pby rfl rfl c_1) rfl ?_
   refine HO.past (pby rfl rfl c_1) rfl ?_
   refine oV (.bool false) (q_pickK false rfl c_1 rfl) rfl ?_
   refine oM (.bool false) rfl rfl ?_
   refine HO.past (past_some rfl rfl) rfl ?_
   refine HO.past (past_some rfl rfl) rfl ?_
   refine HO.past (past_some rfl rfl) rfl ?_
   refine oV (.bool false) (q_pick rfl rfl) rfl ?_
   refine HO.nil (tqn (?_))
   exact ⟨F_6, false, rfl, rfl, rfl, rfl, rfl, rfl, rfl, rfl, rfl, rfl, rfl, hK, hS, hLaM, hLaS, hLmv, hM⟩
 ·
  rintro f_2 h_9 ⟨F_7, b_4, e1, e4, e5, e6, e7, e8, e9, e10, e11, e12, e44, hK, hS, hLaM, hLaS, hLmv, hM⟩
  unfold law34_RepairPlays_j1 at hM
  refine HW.fr [(1, vmoves), (4, .bool false), (5, .int .i64 r0_1), (6, vr1_1), (7, vr2_1), (8, .int .i64 r3_1), (9, vr_1), (10, .pointer (some ⟨b_3, 0, none⟩)), (11, v_1), (12, .int .i64 i_1), (44, .bool b_4)] ⟨e1, e4, e5, e6, e7, e8, e9, e10, e11, e12, e44, trivial⟩ ?_
  refine HW.cond b_4 rfl (fun c_3 => ?_) (fun c_3 => ?_)
  ·
   replace hM := hM.1 c_3
   refine HW.skip (tqn (?_))
   refine HW.seq ?_
   refine HW.block ?_
   refine HW.seq ?_
   refine HW.region ?_
   refine oM (vr1_1) rfl rfl ?_
   refine oM (vmoves) rfl rfl ?_
   refine oM (.int .i64 i_1) rfl rfl ?_
   obtain ⟨ho_1, hM⟩ := hM
   refine oV (elemPtr 1 vmoves (i_1).toNat) (q_idx ts_25 hLmv.is rfl rfl ho_1) rfl ?_
   refine oV (.int .u8 ((gi moves i_1).toNat : Int)) (q_ldElem to_5 hLmv.is rfl ho_1 rfl) rfl ?_
   obtain ⟨ho_2, hM⟩ := hM
   refine oV (.int .i64 ((gi moves i_1).toNat : Int)) (q_convInt Tryz.underlying5 Tryz.underlying3 rfl (wrap_i64 ho_2.1 ho_2.2)) rfl ?_
   refine oM (vr1_1) rfl rfl ?_
   refine oV (.int .i64 (r1_1.length : Int)) (q_len ts_22 (shp (hS.own 0 rfl).slice) rfl rfl) rfl ?_
   obtain ⟨ho_3, hM⟩ := hM
   refine oV (.int .i64 (((gi moves i_1).toNat : Int).tmod (r1_1.length : Int))) (q_rem rfl rfl ho_3) rfl ?_
   obtain ⟨ho_4, hM⟩ := hM
   refine oV (elemPtr 1 vr1_1 (((gi moves i_1).toNat : Int).tmod (r1_1.length : Int)).toNat) (q_idx ts_22 (hS.own 0 rfl).slice rfl rfl ho_4) rfl ?_
   refine oV (.int .i64 (gi r1_1 (((gi moves i_1).toNat : Int).tmod (r1_1.length : Int)))) (q_ldElem to_3 (hS.own 0 rfl).slice rfl ho_4 rfl) rfl ?_
   refine oV (.agg #[.int .i64 0, .slice none 0 0]) (q_build tp_31 rfl) rfl ?_
   refine HO.eff (wn) rfl (st_alloc (c := #[.int .i64 0, .slice none 0 0]) hS tz_31 rfl) ?_
   rintro _ h_10 ⟨b_5, rfl, hS, hk⟩
   replace hK := hK.trans hk
   replace hLaM := hLaM.kp hk
   replace hLaS := hLaS.kp hk
   replace hLmv := hLmv.kp hk
   refine oA (.int .i64 (gi r1_1 (((gi moves i_1).toNat : Int).tmod (r1_1.length : Int)))) rfl rfl ?_
   refine HO.sto (wn) rfl (st_storeAgg (c' := #[.int .i64 0, .slice none 0 0]) hS (i := 0) rfl ta_31 rfl rfl rfl (by simp [Value.oneCell']) (Nat.le_of_ble_eq_true rfl) rfl) ?_
   rintro h_11 ⟨hS, hk⟩
   replace hK := hK.trans hk
   replace hLaM := hLaM.kp hk
   replace hLaS := hLaS.kp hk
   replace hLmv := hLmv.kp hk
   refine HO.nil (tqn (?_))
   refine HW.seq ?_
   refine HW.region ?_
   refine HO.eff (wn) rfl (st_litEmpty (α := Int) encI hS tl_22) ?_
   rintro _ h_12 ⟨b_6, rfl, hS, hk⟩
   replace hK := hK.trans hk
   replace hLaM := hLaM.kp hk
   replace hLaS := hLaS.kp hk
   replace hLmv := hLmv.kp hk
   refine oA (.slice (some ⟨b_6, 0, none⟩) 0 0) rfl rfl ?_
   refine HO.nil (tqn (?_))
   refine HW.seq_mid (fun f h => ∃ (F' : Fz) (l_3 : List Int) (x_0_1 : Int) (x_1_1 : List TB) (path_1 : List Int) (v_2 : Value) (vx_1_1 : Value) (vpath_1 : Value), f 1 = vmoves ∧ f 4 = .bool false ∧ f 5 = .int .i64 r0_1 ∧ f 6 = vr1_1 ∧ f 7 = vr2_1 ∧ f 8 = .int .i64 r3_1 ∧ f 9 = vr_1 ∧ f 10 = .pointer (some ⟨b_3, 0, none⟩) ∧ f 11 = v_2 ∧ f 12 = .int .i64 i_1 ∧ f 14 = .pointer (some ⟨b_5, 0, none⟩) ∧ f 15 = vpath_1 ∧ Kp F h0 F' h ∧ St F' (Ow.own 3 1 encI vr1_1 r1_1 :: Ow.own 3 1 encI vr2_1 r2_1 :: Ow.own 3 1 encI vr_1 r_2 :: Ow.box b_3 31 #[.int .i64 t_0_1, vt_1_1] :: Ow.own 52 2 eB vt_1_1 t_1_1 :: Ow.own 3 1 encI v_2 l_3 :: Ow.box b_5 31 #[.int .i64 x_0_1, vx_1_1] :: Ow.own 52 2 eB vx_1_1 x_1_1 :: Ow.own 3 1 encI vpath_1 path_1 :: fr) h ∧ (SliceF F' h 1 encI va_Members a_Members) ∧ (SliceF F' h 1 encI va_Services a_Services) ∧ (SliceF F' h 1 enc8 vmoves moves) ∧ law34_RepairPlays_j2 Q r0_1 r2_1 r3_1 t_0_1 t_1_1 i_1 K_1 l_3 x_0_1 x_1_1 path_1) ?_ ?_
   ·
    refine HW.seq ?_
    refine HW.region ?_
    refine oM (v_1) rfl rfl ?_
    refine oM (.int .i64 (gi r1_1 (((gi moves i_1).toNat : Int).tmod (r1_1.length : Int)))) rfl rfl ?_
    replace hS : St F_7 (Ow.own 3 1 encI v_1 l_1 :: Ow.own 3 1 encI (.slice (some ⟨b_6, 0, none⟩) 0 0) ([] : List Int) :: Ow.box b_5 31 #[.int .i64 0, .slice none 0 0] :: Ow.own 3 1 encI vr1_1 r1_1 :: Ow.own 3 1 encI vr2_1 r2_1 :: Ow.own 3 1 encI vr_1 r_2 :: Ow.box b_3 31 #[.int .i64 t_0_1, vt_1_1] :: Ow.own 52 2 eB vt_1_1 t_1_1 :: fr) h_12 := hS.perm2 [7, 0, 1, 2, 3, 4, 5, 6] 8 rfl rfl
    have hZ_3 := hS
    have hkz_3 := (hS.freeze).2
    replace hS := hS.freeze.1
    have hL_3 : SliceF (fun bz_ => F_7 bz_ ∨ (Ow.own 3 1 encI v_1 l_1).foot bz_) h_12 1 encI v_1 l_1 := ⟨(hZ_3.own 0 rfl).slice, fun _ b hb => .inr hb⟩
    refine HO.call (wn) rfl (ec en_8 rfl rfl) (ref32_Has_walk (fr := (Ow.own 3 1 encI (.slice (some ⟨b_6, 0, none⟩) 0 0) ([] : List Int) :: Ow.box b_5 31 #[.int .i64 0, .slice none 0 0] :: Ow.own 3 1 encI vr1_1 r1_1 :: Ow.own 3 1 encI vr2_1 r2_1 :: Ow.own 3 1 encI vr_1 r_2 :: Ow.box b_3 31 #[.int .i64 t_0_1, vt_1_1] :: Ow.own 52 2 eB vt_1_1 t_1_1 :: fr)) l_1 (gi r1_1 (((gi moves i_1).toNat : Int).tmod (r1_1.length : Int))) v_1 hS hL_3 hM) ?_
    rintro _ h_13 ⟨F_8, r_3, rfl, hk, hS, _, hM⟩
    obtain ⟨hS, hk⟩ := hZ_3.back hk hS
    generalize (fun bz_ => F_8 bz_ ∧ ¬ (Ow.own 3 1 encI v_1 l_1).foot bz_) = F_9 at hS hk
    replace hK := hK.trans hk
    replace hLaM := hLaM.kp hk
    replace hLaS := hLaS.kp hk
    replace hLmv := hLmv.kp hk
    refine HO.nil (tqn (?_))
    refine HW.cond r_3 rfl (fun c_4 => ?_) (fun c_4 => ?_)
    ·
     replace hM := hM.1 c_4
     refine HW.seq ?_
     refine HW.region ?_
     refine oV (.agg #[.int .i64 t_0_1, vt_1_1]) (q_loadAgg (cs := [.int .i64 t_0_1, vt_1_1]) ta_31 rfl rfl (Blk.cells (k := 2) (hS.box 6 rfl) rfl)) rfl ?_
     replace hS : St F_9 (Ow.own 52 2 eB vt_1_1 t_1_1 :: Ow.own 3 1 encI v_1 l_1 :: Ow.own 3 1 encI (.slice (some ⟨b_6, 0, none⟩) 0 0) ([] : List Int) :: Ow.box b_5 31 #[.int .i64 0, .slice none 0 0] :: Ow.own 3 1 encI vr1_1 r1_1 :: Ow.own 3 1 encI vr2_1 r2_1 :: Ow.own 3 1 encI vr_1 r_2 :: Ow.box b_3 31 #[.int .i64 t_0_1, vt_1_1] :: fr) h_13 := hS.perm2 [7, 0, 1, 2, 3, 4, 5, 6] 8 rfl rfl
     have hZ_4 := hS
     have hkz_4 := (hS.freeze).2
     replace hS := hS.freeze.1
     have hL_4 : SliceF (fun bz_ => F_9 bz_ ∨ (Ow.own 52 2 eB vt_1_1 t_1_1).foot bz_) h_13 2 eB vt_1_1 t_1_1 := ⟨(hZ_4.own 0 rfl).slice, fun _ b hb => .inr hb⟩
     refine HO.call (wn) rfl (ec en_10 rfl rfl) (law34_own_walk (fr := (Ow.own 3 1 encI v_1 l_1 :: Ow.own 3 1 encI (.slice (some ⟨b_6, 0, none⟩) 0 0) ([] : List Int) :: Ow.box b_5 31 #[.int .i64 0, .slice none 0 0] :: Ow.own 3 1 encI vr1_1 r1_1 :: Ow.own 3 1 encI vr2_1 r2_1 :: Ow.own 3 1 encI vr_1 r_2 :: Ow.box b_3 31 #[.int .i64 t_0_1, vt_1_1] :: fr)) t_0_1 t_1_1 vt_1_1 hS hL_4 hM) ?_
     rintro _ h_14 ⟨F_10, r_0_2, r_1_2, vr_1_2, rfl, hk, hS, _, hM⟩
     obtain ⟨hS, hk⟩ := hZ_4.back hk hS
     generalize (fun bz_ => F_10 bz_ ∧ ¬ (Ow.own 52 2 eB vt_1_1 t_1_1).foot bz_) = F_11 at hS hk
     replace hK := hK.trans hk
     replace hLaM := hLaM.kp hk
     replace hLaS := hLaS.kp hk
     replace hLmv := hLmv.kp hk
     refine oM (.int .i64 (gi r1_1 (((gi moves i_1).toNat : Int).tmod (r1_1.length : Int)))) rfl rfl ?_
     refine oM (vr_1) rfl rfl ?_
     replace hS : St F_11 (Ow.own 3 1 encI vr_1 r_2 :: Ow.own 52 2 eB vt_1_1 t_1_1 :: Ow.own 52 2 eB vr_1_2 r_1_2 :: Ow.own 3 1 encI v_1 l_1 :: Ow.own 3 1 encI (.slice (some ⟨b_6, 0, none⟩) 0 0) ([] : List Int) :: Ow.box b_5 31 #[.int .i64 0, .slice none 0 0] :: Ow.own 3 1 encI vr1_1 r1_1 :: Ow.own 3 1 encI vr2_1 r2_1 :: Ow.box b_3 31 #[.int .i64 t_0_1, vt_1_1] :: fr) h_14 := hS.perm2 [7, 0, 1, 2, 3, 4, 5, 6, 8] 9 rfl rfl
     have hZ_5 := hS
     have hkz_5 := (hS.freeze).2
     replace hS := hS.freeze.1
     have hL_5 : SliceF (fun bz_ => F_11 bz_ ∨ (Ow.own 3 1 encI vr_1 r_2).foot bz_) h_14 1 encI vr_1 r_2 := ⟨(hZ_5.own 0 rfl).slice, fun _ b hb => .inr hb⟩
     refine HO.call (wn) rfl (ec en_11 rfl rfl) (law34_copied_walk (fr := (Ow.own 52 2 eB vt_1_1 t_1_1 :: Ow.own 52 2 eB vr_1_2 r_1_2 :: Ow.own 3 1 encI v_1 l_1 :: Ow.own 3 1 encI (.slice (some ⟨b_6, 0, none⟩) 0 0) ([] : List Int) :: Ow.box b_5 31 #[.int .i64 0, .slice none 0 0] :: Ow.own 3 1 encI vr1_1 r1_1 :: Ow.own 3 1 encI vr2_1 r2_1 :: Ow.box b_3 31 #[.int .i64 t_0_1, vt_1_1] :: fr)) r_2 vr_1 hS hL_5 hM) ?_
     rintro vr_2 h_15 ⟨F_12, r_4, _, rfl, hk, hS, _, hM⟩
     obtain ⟨hS, hk⟩ := hZ_5.back hk hS
     generalize (fun bz_ => F_12 bz_ ∧ ¬ (Ow.own 3 1 encI vr_1 r_2).foot bz_) = F_13 at hS hk
     replace hK := hK.trans hk
     replace hLaM := hLaM.kp hk
     replace hLaS := hLaS.kp hk
     replace hLmv := hLmv.kp hk
     refine oM (.int .i64 r3_1) rfl rfl ?_
     replace hS : St F_13 (Ow.own 52 2 eB vr_1_2 r_1_2 :: Ow.own 3 1 encI vr_1 r_2 :: Ow.own 3 1 encI vr_2 r_4 :: Ow.own 52 2 eB vt_1_1 t_1_1 :: Ow.own 3 1 encI v_1 l_1 :: Ow.own 3 1 encI (.slice (some ⟨b_6, 0, none⟩) 0 0) ([] : List Int) :: Ow.box b_5 31 #[.int .i64 0, .slice none 0 0] :: Ow.own 3 1 encI vr1_1 r1_1 :: Ow.own 3 1 encI vr2_1 r2_1 :: Ow.box b_3 31 #[.int .i64 t_0_1, vt_1_1] :: fr) h_15 := hS.perm2 [3, 0, 1, 2, 4, 5, 6, 7, 8, 9] 10 rfl rfl
     have hZ_6 := hS
     have hkz_6 := (hS.freeze).2
     replace hS := hS.freeze.1
     have hL_6 : SliceF (fun bz_ => F_13 bz_ ∨ (Ow.own 52 2 eB vr_1_2 r_1_2).foot bz_) h_15 2 eB vr_1_2 r_1_2 := ⟨(hZ_6.own 0 rfl).slice, fun _ b hb => .inr hb⟩
     replace hS : St (fun bz_ => F_13 bz_ ∨ (Ow.own 52 2 eB vr_1_2 r_1_2).foot bz_) (Ow.own 3 1 encI vr_2 r_4 :: Ow.own 3 1 encI vr_1 r_2 :: Ow.own 52 2 eB vt_1_1 t_1_1 :: Ow.own 3 1 encI v_1 l_1 :: Ow.own 3 1 encI (.slice (some ⟨b_6, 0, none⟩) 0 0) ([] : List Int) :: Ow.box b_5 31 #[.int .i64 0, .slice none 0 0] :: Ow.own 3 1 encI vr1_1 r1_1 :: Ow.own 3 1 encI vr2_1 r2_1 :: Ow.box b_3 31 #[.int .i64 t_0_1, vt_1_1] :: fr) h_15 := hS.perm2 [1, 0, 2, 3, 4, 5, 6, 7, 8] 9 rfl rfl
     have hZ_7 := hS
     have hkz_7 := (hS.freeze).2
     replace hS := hS.freeze.1
     have hL_7 : SliceF (fun bz_ => (fun bz_ => F_13 bz_ ∨ (Ow.own 52 2 eB vr_1_2 r_1_2).foot bz_) bz_ ∨ (Ow.own 3 1 encI vr_2 r_4).foot bz_) h_15 1 encI vr_2 r_4 := ⟨(hZ_7.own 0 rfl).slice, fun _ b hb => .inr hb⟩
     refine HO.call (wn) rfl (ec en_9 rfl rfl) (repair_Leave_walk (fr := (Ow.own 3 1 encI vr_1 r_2 :: Ow.own 52 2 eB vt_1_1 t_1_1 :: Ow.own 3 1 encI v_1 l_1 :: Ow.own 3 1 encI (.slice (some ⟨b_6, 0, none⟩) 0 0) ([] : List Int) :: Ow.box b_5 31 #[.int .i64 0, .slice none 0 0] :: Ow.own 3 1 encI vr1_1 r1_1 :: Ow.own 3 1 encI vr2_1 r2_1 :: Ow.box b_3 31 #[.int .i64 t_0_1, vt_1_1] :: fr)) r_0_2 r_1_2 (gi r1_1 (((gi moves i_1).toNat : Int).tmod (r1_1.length : Int))) r_4 r3_1 vr_1_2 vr_2 hS (hL_6.kp hkz_7) hL_7 hD hM) ?_
     rintro _ h_16 ⟨F_14, r_0_3, r_1_3, vr_1_3, rfl, hk, hS, _, _, hM⟩
     obtain ⟨hS, hk⟩ := hZ_7.back hk hS
     obtain ⟨hS, hk⟩ := hZ_6.back hk hS
     generalize (fun bz_ => (fun bz_ => F_14 bz_ ∧ ¬ (Ow.own 3 1 encI vr_2 r_4).foot bz_) bz_ ∧ ¬ (Ow.own 52 2 eB vr_1_2 r_1_2).foot bz_) = F_15 at hS hk
     replace hK := hK.trans hk
     replace hLaM := hLaM.kp hk
     replace hLaS := hLaS.kp hk
     replace hLmv := hLmv.kp hk
     refine HO.sto (wn) rfl (st_storeAgg (c' := #[.int .i64 r_0_3, vr_1_3]) hS (i := 7) rfl ta_31 rfl rfl rfl (List.forall_mem_cons.2 ⟨rfl, (List.forall_mem_cons.2 ⟨(shp (hS.own 2 rfl).slice).one, (fun _ h => by cases h)⟩)⟩) (Nat.le_of_ble_eq_true rfl) rfl) ?_
     rintro h_17 ⟨hS, hk⟩
     replace hK := hK.trans hk
     replace hLaM := hLaM.kp hk
     replace hLaS := hLaS.kp hk
     replace hLmv := hLmv.kp hk
     refine HO.nil (tqn (?_))
     refine HW.seq ?_
     refine HW.regionA 8 mixed (fun h => (Blk h b_3 (.cells #[.int .i64 t_0_1, vt_1_1] 31 (0, 0)))) [] (by kernel_rfl) ?_
     refine HA.val (k := 0) (v := v_1) rfl rfl (by kernel_rfl) (by kernel_rfl) (wn) rfl (fun _ c367 => q_move rfl) ?_
     refine HA.val (k := 1) (v := .int .i64 (gi r1_1 (((gi moves i_1).toNat : Int).tmod (r1_1.length : Int)))) rfl rfl (by kernel_rfl) (by kernel_rfl) (wn) rfl (fun _ c367 => q_move rfl) ?_
     refine HA.val (k := 3) (v := .agg #[.int .i64 t_0_1, vt_1_1]) rfl rfl (by kernel_rfl) (by kernel_rfl) (wn) rfl (fun _ c367 => q_loadAgg (cs := [.int .i64 t_0_1, vt_1_1]) ta_31 rfl rfl (Blk.cells (k := 2) c367 rfl)) ?_
     refine HA.val (k := 4) (v := .int .i64 (gi r1_1 (((gi moves i_1).toNat : Int).tmod (r1_1.length : Int)))) rfl rfl (by kernel_rfl) (by kernel_rfl) (wn) rfl (fun _ c367 => q_move rfl) ?_
     refine HA.one (k := 2) ⟨(hS.box 10 rfl), (Go.Wk.at_nil _ _)⟩ (by kernel_rfl) ?_
     replace hS : St F_15 (Ow.own 3 1 encI v_1 l_1 :: Ow.own 52 2 eB vr_1_2 r_1_2 :: Ow.own 3 1 encI vr_2 r_4 :: Ow.own 52 2 eB vr_1_3 r_1_3 :: Ow.own 3 1 encI vr_1 r_2 :: Ow.own 52 2 eB vt_1_1 t_1_1 :: Ow.own 3 1 encI (.slice (some ⟨b_6, 0, none⟩) 0 0) ([] : List Int) :: Ow.box b_5 31 #[.int .i64 r_0_3, vr_1_3] :: Ow.own 3 1 encI vr1_1 r1_1 :: Ow.own 3 1 encI vr2_1 r2_1 :: Ow.box b_3 31 #[.int .i64 t_0_1, vt_1_1] :: fr) h_17 := hS.perm2 [5, 0, 1, 2, 3, 4, 6, 7, 8, 9, 10] 11 rfl rfl
     have hZ_8 := hS
     have hkz_8 := (hS.freeze).2
     replace hS := hS.freeze.1
     have hL_8 : SliceF (fun bz_ => F_15 bz_ ∨ (Ow.own 3 1 encI v_1 l_1).foot bz_) h_17 1 encI v_1 l_1 := ⟨(hZ_8.own 0 rfl).slice, fun _ b hb => .inr hb⟩
     refine HS.call rfl (wn) rfl (ec en_12 rfl rfl) (law34_cut_walk (fr := (Ow.own 52 2 eB vr_1_2 r_1_2 :: Ow.own 3 1 encI vr_2 r_4 :: Ow.own 52 2 eB vr_1_3 r_1_3 :: Ow.own 3 1 encI vr_1 r_2 :: Ow.own 52 2 eB vt_1_1 t_1_1 :: Ow.own 3 1 encI (.slice (some ⟨b_6, 0, none⟩) 0 0) ([] : List Int) :: Ow.box b_5 31 #[.int .i64 r_0_3, vr_1_3] :: Ow.own 3 1 encI vr1_1 r1_1 :: Ow.own 3 1 encI vr2_1 r2_1 :: Ow.box b_3 31 #[.int .i64 t_0_1, vt_1_1] :: fr)) l_1 (gi r1_1 (((gi moves i_1).toNat : Int).tmod (r1_1.length : Int))) v_1 hS hL_8 hM) ?_
     rintro vr_3 h_18 ⟨F_16, r_5, _, rfl, hk, hS, _, hM⟩
     obtain ⟨hS, hk⟩ := hZ_8.back hk hS
     generalize (fun bz_ => F_16 bz_ ∧ ¬ (Ow.own 3 1 encI v_1 l_1).foot bz_) = F_17 at hS hk
     replace hK := hK.trans hk
     replace hLaM := hLaM.kp hk
     replace hLaS := hLaS.kp hk
     replace hLmv := hLmv.kp hk
     refine HA.one (k := 5) ⟨(hS.box 11 rfl), (Go.Wk.at_nil _ _)⟩ (by kernel_rfl) ?_
     replace hS : St F_17 (Ow.own 52 2 eB vt_1_1 t_1_1 :: Ow.own 3 1 encI v_1 l_1 :: Ow.own 3 1 encI vr_3 r_5 :: Ow.own 52 2 eB vr_1_2 r_1_2 :: Ow.own 3 1 encI vr_2 r_4 :: Ow.own 52 2 eB vr_1_3 r_1_3 :: Ow.own 3 1 encI vr_1 r_2 :: Ow.own 3 1 encI (.slice (some ⟨b_6, 0, none⟩) 0 0) ([] : List Int) :: Ow.box b_5 31 #[.int .i64 r_0_3, vr_1_3] :: Ow.own 3 1 encI vr1_1 r1_1 :: Ow.own 3 1 encI vr2_1 r2_1 :: Ow.box b_3 31 #[.int .i64 t_0_1, vt_1_1] :: fr) h_18 := hS.perm2 [6, 0, 1, 2, 3, 4, 5, 7, 8, 9, 10, 11] 12 rfl rfl
     have hZ_9 := hS
     have hkz_9 := (hS.freeze).2
     replace hS := hS.freeze.1
     have hL_9 : SliceF (fun bz_ => F_17 bz_ ∨ (Ow.own 52 2 eB vt_1_1 t_1_1).foot bz_) h_18 2 eB vt_1_1 t_1_1 := ⟨(hZ_9.own 0 rfl).slice, fun _ b hb => .inr hb⟩
     refine HS.call rfl (wn) rfl (ec en_13 rfl rfl) (ref32_Path_walk (fr := (Ow.own 3 1 encI v_1 l_1 :: Ow.own 3 1 encI vr_3 r_5 :: Ow.own 52 2 eB vr_1_2 r_1_2 :: Ow.own 3 1 encI vr_2 r_4 :: Ow.own 52 2 eB vr_1_3 r_1_3 :: Ow.own 3 1 encI vr_1 r_2 :: Ow.own 3 1 encI (.slice (some ⟨b_6, 0, none⟩) 0 0) ([] : List Int) :: Ow.box b_5 31 #[.int .i64 r_0_3, vr_1_3] :: Ow.own 3 1 encI vr1_1 r1_1 :: Ow.own 3 1 encI vr2_1 r2_1 :: Ow.box b_3 31 #[.int .i64 t_0_1, vt_1_1] :: fr)) t_0_1 t_1_1 (gi r1_1 (((gi moves i_1).toNat : Int).tmod (r1_1.length : Int))) vt_1_1 hS hL_9 hM) ?_
     rintro vr_4 h_19 ⟨F_18, r_6, _, rfl, hk, hS, _, hM⟩
     obtain ⟨hS, hk⟩ := hZ_9.back hk hS
     generalize (fun bz_ => F_18 bz_ ∧ ¬ (Ow.own 52 2 eB vt_1_1 t_1_1).foot bz_) = F_19 at hS hk
     replace hK := hK.trans hk
     replace hLaM := hLaM.kp hk
     replace hLaS := hLaS.kp hk
     replace hLmv := hLmv.kp hk
     refine HA.val (k := 6) (v := vr_3) rfl rfl (by kernel_rfl) (by kernel_rfl) (wn) rfl (fun _ c367 => q_assign rfl) ?_
     refine HA.val (k := 7) (v := vr_4) rfl rfl (by kernel_rfl) (by kernel_rfl) (wn) rfl (fun _ c367 => q_assign rfl) ?_
     refine HA.nil ⟨(hS.box 12 rfl), (Go.Wk.at_nil _ _)⟩ (by kernel_rfl) (tqn (?_))
     refine HW.seq ?_
     refine HW.regionA 8 mixed (fun h => (Blk h b_5 (.cells #[.int .i64 r_0_3, vr_1_3] 31 (0, 0))) ∧ (Blk h b_3 (.cells #[.int .i64 t_0_1, vt_1_1] 31 (0, 0)))) [] (by kernel_rfl) ?_
     refine HA.val (k := 0) (v := .agg #[.int .i64 r_0_3, vr_1_3]) rfl rfl (by kernel_rfl) (by kernel_rfl) (wn) rfl (fun _ ⟨c370, c367⟩ => q_loadAgg (cs := [.int .i64 r_0_3, vr_1_3]) ta_31 rfl rfl (Blk.cells (k := 2) c370 rfl)) ?_
     refine HA.val (k := 1) (v := .agg #[.int .i64 t_0_1, vt_1_1]) rfl rfl (by kernel_rfl) (by kernel_rfl) (wn) rfl (fun _ ⟨c370, c367⟩ => q_loadAgg (cs := [.int .i64 t_0_1, vt_1_1]) ta_31 rfl rfl (Blk.cells (k := 2) c367 rfl)) ?_
     refine HA.val (k := 2) (v := .int .i64 (gi r1_1 (((gi moves i_1).toNat : Int).tmod (r1_1.length : Int)))) rfl rfl (by kernel_rfl) (by kernel_rfl) (wn) rfl (fun _ ⟨c370, c367⟩ => q_move rfl) ?_
     refine HA.val (k := 3) (v := vr_1) rfl rfl (by kernel_rfl) (by kernel_rfl) (wn) rfl (fun _ ⟨c370, c367⟩ => q_move rfl) ?_
     refine HA.val (k := 4) (v := .int .i64 r3_1) rfl rfl (by kernel_rfl) (by kernel_rfl) (wn) rfl (fun _ ⟨c370, c367⟩ => q_move rfl) ?_
     refine HA.one (k := 5) ⟨⟨(hS.box 9 rfl), (hS.box 12 rfl)⟩, (Go.Wk.at_nil _ _)⟩ (by kernel_rfl) ?_
     replace hS : St F_19 (Ow.own 52 2 eB vt_1_1 t_1_1 :: Ow.own 3 1 encI vr_4 r_6 :: Ow.own 3 1 encI v_1 l_1 :: Ow.own 3 1 encI vr_3 r_5 :: Ow.own 52 2 eB vr_1_2 r_1_2 :: Ow.own 3 1 encI vr_2 r_4 :: Ow.own 52 2 eB vr_1_3 r_1_3 :: Ow.own 3 1 encI vr_1 r_2 :: Ow.own 3 1 encI (.slice (some ⟨b_6, 0, none⟩) 0 0) ([] : List Int) :: Ow.box b_5 31 #[.int .i64 r_0_3, vr_1_3] :: Ow.own 3 1 encI vr1_1 r1_1 :: Ow.own 3 1 encI vr2_1 r2_1 :: Ow.box b_3 31 #[.int .i64 t_0_1, vt_1_1] :: fr) h_19 := hS
     have hZ_10 := hS
     have hkz_10 := (hS.freeze).2
     replace hS := hS.freeze.1
     have hL_10 : SliceF (fun bz_ => F_19 bz_ ∨ (Ow.own 52 2 eB vt_1_1 t_1_1).foot bz_) h_19 2 eB vt_1_1 t_1_1 := ⟨(hZ_10.own 0 rfl).slice, fun _ b hb => .inr hb⟩
     replace hS : St (fun bz_ => F_19 bz_ ∨ (Ow.own 52 2 eB vt_1_1 t_1_1).foot bz_) (Ow.own 3 1 encI vr_1 r_2 :: Ow.own 3 1 encI vr_4 r_6 :: Ow.own 3 1 encI v_1 l_1 :: Ow.own 3 1 encI vr_3 r_5 :: Ow.own 52 2 eB vr_1_2 r_1_2 :: Ow.own 3 1 encI vr_2 r_4 :: Ow.own 52 2 eB vr_1_3 r_1_3 :: Ow.own 3 1 encI (.slice (some ⟨b_6, 0, none⟩) 0 0) ([] : List Int) :: Ow.box b_5 31 #[.int .i64 r_0_3, vr_1_3] :: Ow.own 3 1 encI vr1_1 r1_1 :: Ow.own 3 1 encI vr2_1 r2_1 :: Ow.box b_3 31 #[.int .i64 t_0_1, vt_1_1] :: fr) h_19 := hS.perm2 [6, 0, 1, 2, 3, 4, 5, 7, 8, 9, 10, 11] 12 rfl rfl
     have hZ_11 := hS
     have hkz_11 := (hS.freeze).2
     replace hS := hS.freeze.1
     have hL_11 : SliceF (fun bz_ => (fun bz_ => F_19 bz_ ∨ (Ow.own 52 2 eB vt_1_1 t_1_1).foot bz_) bz_ ∨ (Ow.own 3 1 encI vr_1 r_2).foot bz_) h_19 1 encI vr_1 r_2 := ⟨(hZ_11.own 0 rfl).slice, fun _ b hb => .inr hb⟩
     refine HS.call rfl (wn) rfl (ec en_15 rfl rfl) (ref34_Leave_walk (fr := (Ow.own 3 1 encI vr_4 r_6 :: Ow.own 3 1 encI v_1 l_1 :: Ow.own 3 1 encI vr_3 r_5 :: Ow.own 52 2 eB vr_1_2 r_1_2 :: Ow.own 3 1 encI vr_2 r_4 :: Ow.own 52 2 eB vr_1_3 r_1_3 :: Ow.own 3 1 encI (.slice (some ⟨b_6, 0, none⟩) 0 0) ([] : List Int) :: Ow.box b_5 31 #[.int .i64 r_0_3, vr_1_3] :: Ow.own 3 1 encI vr1_1 r1_1 :: Ow.own 3 1 encI vr2_1 r2_1 :: Ow.box b_3 31 #[.int .i64 t_0_1, vt_1_1] :: fr)) t_0_1 t_1_1 (gi r1_1 (((gi moves i_1).toNat : Int).tmod (r1_1.length : Int))) r_2 r3_1 vt_1_1 vr_1 hS (hL_10.kp hkz_11) hL_11 hM) ?_
     rintro _ h_20 ⟨F_20, r_0_4, r_1_4, vr_1_4, rfl, hk, hS, _, _, hM⟩
     obtain ⟨hS, hk⟩ := hZ_11.back hk hS
     obtain ⟨hS, hk⟩ := hZ_10.back hk hS
     generalize (fun bz_ => (fun bz_ => F_20 bz_ ∧ ¬ (Ow.own 3 1 encI vr_1 r_2).foot bz_) bz_ ∧ ¬ (Ow.own 52 2 eB vt_1_1 t_1_1).foot bz_) = F_21 at hS hk
     replace hK := hK.trans hk
     replace hLaM := hLaM.kp hk
     replace hLaS := hLaS.kp hk
     replace hLmv := hLmv.kp hk
     refine HA.one (k := 6) ⟨⟨(hS.box 10 rfl), (hS.box 13 rfl)⟩, (Go.Wk.at_nil _ _)⟩ (by kernel_rfl) ?_
     replace hS : St F_21 (Ow.own 52 2 eB vr_1_3 r_1_3 :: Ow.own 52 2 eB vt_1_1 t_1_1 :: Ow.own 3 1 encI vr_1 r_2 :: Ow.own 52 2 eB vr_1_4 r_1_4 :: Ow.own 3 1 encI vr_4 r_6 :: Ow.own 3 1 encI v_1 l_1 :: Ow.own 3 1 encI vr_3 r_5 :: Ow.own 52 2 eB vr_1_2 r_1_2 :: Ow.own 3 1 encI vr_2 r_4 :: Ow.own 3 1 encI (.slice (some ⟨b_6, 0, none⟩) 0 0) ([] : List Int) :: Ow.box b_5 31 #[.int .i64 r_0_3, vr_1_3] :: Ow.own 3 1 encI vr1_1 r1_1 :: Ow.own 3 1 encI vr2_1 r2_1 :: Ow.box b_3 31 #[.int .i64 t_0_1, vt_1_1] :: fr) h_20 := hS.perm2 [8, 0, 1, 2, 3, 4, 5, 6, 7, 9, 10, 11, 12, 13] 14 rfl rfl
     have hZ_12 := hS
     have hkz_12 := (hS.freeze).2
     replace hS := hS.freeze.1
     have hL_12 : SliceF (fun bz_ => F_21 bz_ ∨ (Ow.own 52 2 eB vr_1_3 r_1_3).foot bz_) h_20 2 eB vr_1_3 r_1_3 := ⟨(hZ_12.own 0 rfl).slice, fun _ b hb => .inr hb⟩
     replace hS : St (fun bz_ => F_21 bz_ ∨ (Ow.own 52 2 eB vr_1_3 r_1_3).foot bz_) (Ow.own 52 2 eB vr_1_4 r_1_4 :: Ow.own 52 2 eB vt_1_1 t_1_1 :: Ow.own 3 1 encI vr_1 r_2 :: Ow.own 3 1 encI vr_4 r_6 :: Ow.own 3 1 encI v_1 l_1 :: Ow.own 3 1 encI vr_3 r_5 :: Ow.own 52 2 eB vr_1_2 r_1_2 :: Ow.own 3 1 encI vr_2 r_4 :: Ow.own 3 1 encI (.slice (some ⟨b_6, 0, none⟩) 0 0) ([] : List Int) :: Ow.box b_5 31 #[.int .i64 r_0_3, vr_1_3] :: Ow.own 3 1 encI vr1_1 r1_1 :: Ow.own 3 1 encI vr2_1 r2_1 :: Ow.box b_3 31 #[.int .i64 t_0_1, vt_1_1] :: fr) h_20 := hS.perm2 [2, 0, 1, 3, 4, 5, 6, 7, 8, 9, 10, 11, 12] 13 rfl rfl
     have hZ_13 := hS
     have hkz_13 := (hS.freeze).2
     replace hS := hS.freeze.1
     have hL_13 : SliceF (fun bz_ => (fun bz_ => F_21 bz_ ∨ (Ow.own 52 2 eB vr_1_3 r_1_3).foot bz_) bz_ ∨ (Ow.own 52 2 eB vr_1_4 r_1_4).foot bz_) h_20 2 eB vr_1_4 r_1_4 := ⟨(hZ_13.own 0 rfl).slice, fun _ b hb => .inr hb⟩
     refine HS.call rfl (wn) rfl (ec en_14 rfl rfl) (ref32_Same_walk (fr := (Ow.own 52 2 eB vt_1_1 t_1_1 :: Ow.own 3 1 encI vr_1 r_2 :: Ow.own 3 1 encI vr_4 r_6 :: Ow.own 3 1 encI v_1 l_1 :: Ow.own 3 1 encI vr_3 r_5 :: Ow.own 52 2 eB vr_1_2 r_1_2 :: Ow.own 3 1 encI vr_2 r_4 :: Ow.own 3 1 encI (.slice (some ⟨b_6, 0, none⟩) 0 0) ([] : List Int) :: Ow.box b_5 31 #[.int .i64 r_0_3, vr_1_3] :: Ow.own 3 1 encI vr1_1 r1_1 :: Ow.own 3 1 encI vr2_1 r2_1 :: Ow.box b_3 31 #[.int .i64 t_0_1, vt_1_1] :: fr)) r_0_3 r_1_3 r_0_4 r_1_4 vr_1_3 vr_1_4 hS (hL_12.kp hkz_13) hL_13 hM) ?_
     rintro _ h_21 ⟨F_22, r_7, rfl, hk, hS, _, _, hM⟩
     obtain ⟨hS, hk⟩ := hZ_13.back hk hS
     obtain ⟨hS, hk⟩ := hZ_12.back hk hS
     generalize (fun bz_ => (fun bz_ => F_22 bz_ ∧ ¬ (Ow.own 52 2 eB vr_1_4 r_1_4).foot bz_) bz_ ∧ ¬ (Ow.own 52 2 eB vr_1_3 r_1_3).foot bz_) = F_23 at hS hk
     replace hK := hK.trans hk
     replace hLaM := hLaM.kp hk
     replace hLaS := hLaS.kp hk
     replace hLmv := hLmv.kp hk
     refine HA.val (k := 7) (v := .bool (!r_7)) rfl rfl (by kernel_rfl) (by kernel_rfl) (wn) rfl (fun _ ⟨c370, c367⟩ => q_not rfl) ?_
     refine HA.nil ⟨⟨(hS.box 10 rfl), (hS.box 13 rfl)⟩, (Go.Wk.at_nil _ _)⟩ (by kernel_rfl) (tqn (?_))
     refine HW.cond (!r_7) rfl (fun c_5 => ?_) (fun c_5 => ?_)
     ·
      replace hM := hM.1 c_5
      refine HW.seq ?_
      refine HW.region ?_
      refine oA (.bool false) rfl rfl ?_
      refine HO.nil (tqn (?_))
      refine HW.ret (thenQ_ret (blockQ_ret (thenQ_ret (thenQ_ret (blockQ_ret (thenQ_ret (?_)))))))
      refine ⟨.inr rfl, .bool false, res1 rfl (rt rfl), ?_⟩
      replace hS : St F_23 (fr) h_21 := hS.perm2 [] 14 rfl rfl
      exact ⟨F_23, false, rfl, hK, hS, hLaM, hLaS, hLmv, hM⟩
     ·
      replace hM := hM.2 c_5
      refine HW.skip (tqn (?_))
      replace hS : St F_23 (Ow.own 3 1 encI vr1_1 r1_1 :: Ow.own 3 1 encI vr2_1 r2_1 :: Ow.own 3 1 encI vr_1 r_2 :: Ow.box b_3 31 #[.int .i64 t_0_1, vt_1_1] :: Ow.own 52 2 eB vt_1_1 t_1_1 :: Ow.own 3 1 encI vr_3 r_5 :: Ow.box b_5 31 #[.int .i64 r_0_3, vr_1_3] :: Ow.own 52 2 eB vr_1_3 r_1_3 :: Ow.own 3 1 encI vr_4 r_6 :: fr) h_21 := hS.perm2 [11, 12, 3, 13, 2, 6, 10, 0, 4] 14 rfl rfl
      exact ⟨F_23, r_5, r_0_3, r_1_3, r_6, vr_3, vr_1_3, vr_4, rfl, rfl, rfl, rfl, rfl, rfl, rfl, rfl, rfl, rfl, rfl, rfl, hK, hS, hLaM, hLaS, hLmv, hM⟩
    ·
     replace hM := hM.2 c_4
     refine HW.seq ?_
     refine HW.region ?_
     refine oV (.agg #[.int .i64 t_0_1, vt_1_1]) (q_loadAgg (cs := [.int .i64 t_0_1, vt_1_1]) ta_31 rfl rfl (Blk.cells (k := 2) (hS.box 6 rfl) rfl)) rfl ?_
     replace hS : St F_9 (Ow.own 52 2 eB vt_1_1 t_1_1 :: Ow.own 3 1 encI v_1 l_1 :: Ow.own 3 1 encI (.slice (some ⟨b_6, 0, none⟩) 0 0) ([] : List Int) :: Ow.box b_5 31 #[.int .i64 0, .slice none 0 0] :: Ow.own 3 1 encI vr1_1 r1_1 :: Ow.own 3 1 encI vr2_1 r2_1 :: Ow.own 3 1 encI vr_1 r_2 :: Ow.box b_3 31 #[.int .i64 t_0_1, vt_1_1] :: fr) h_13 := hS.perm2 [7, 0, 1, 2, 3, 4, 5, 6] 8 rfl rfl
     have hZ_14 := hS
     have hkz_14 := (hS.freeze).2
     replace hS := hS.freeze.1
     have hL_14 : SliceF (fun bz_ => F_9 bz_ ∨ (Ow.own 52 2 eB vt_1_1 t_1_1).foot bz_) h_13 2 eB vt_1_1 t_1_1 := ⟨(hZ_14.own 0 rfl).slice, fun _ b hb => .inr hb⟩
     refine HO.call (wn) rfl (ec en_10 rfl rfl) (law34_own_walk (fr := (Ow.own 3 1 encI v_1 l_1 :: Ow.own 3 1 encI (.slice (some ⟨b_6, 0, none⟩) 0 0) ([] : List Int) :: Ow.box b_5 31 #[.int .i64 0, .slice none 0 0] :: Ow.own 3 1 encI vr1_1 r1_1 :: Ow.own 3 1 encI vr2_1 r2_1 :: Ow.own 3 1 encI vr_1 r_2 :: Ow.box b_3 31 #[.int .i64 t_0_1, vt_1_1] :: fr)) t_0_1 t_1_1 vt_1_1 hS hL_14 hM) ?_
     rintro _ h_22 ⟨F_24, r_0_5, r_1_5, vr_1_5, rfl, hk, hS, _, hM⟩
     obtain ⟨hS, hk⟩ := hZ_14.back hk hS
     generalize (fun bz_ => F_24 bz_ ∧ ¬ (Ow.own 52 2 eB vt_1_1 t_1_1).foot bz_) = F_25 at hS hk
     replace hK := hK.trans hk
     replace hLaM := hLaM.kp hk
     replace hLaS := hLaS.kp hk
     replace hLmv := hLmv.kp hk
     refine oM (.int .i64 (gi r1_1 (((gi moves i_1).toNat : Int).tmod (r1_1.length : Int)))) rfl rfl ?_
     refine oM (vr_1) rfl rfl ?_
     replace hS : St F_25 (Ow.own 3 1 encI vr_1 r_2 :: Ow.own 52 2 eB vt_1_1 t_1_1 :: Ow.own 52 2 eB vr_1_5 r_1_5 :: Ow.own 3 1 encI v_1 l_1 :: Ow.own 3 1 encI (.slice (some ⟨b_6, 0, none⟩) 0 0) ([] : List Int) :: Ow.box b_5 31 #[.int .i64 0, .slice none 0 0] :: Ow.own 3 1 encI vr1_1 r1_1 :: Ow.own 3 1 encI vr2_1 r2_1 :: Ow.box b_3 31 #[.int .i64 t_0_1, vt_1_1] :: fr) h_22 := hS.perm2 [7, 0, 1, 2, 3, 4, 5, 6, 8] 9 rfl rfl
     have hZ_15 := hS
     have hkz_15 := (hS.freeze).2
     replace hS := hS.freeze.1
     have hL_15 : SliceF (fun bz_ => F_25 bz_ ∨ (Ow.own 3 1 encI vr_1 r_2).foot bz_) h_22 1 encI vr_1 r_2 := ⟨(hZ_15.own 0 rfl).slice, fun _ b hb => .inr hb⟩
     refine HO.call (wn) rfl (ec en_11 rfl rfl) (law34_copied_walk (fr := (Ow.own 52 2 eB vt_1_1 t_1_1 :: Ow.own 52 2 eB vr_1_5 r_1_5 :: Ow.own 3 1 encI v_1 l_1 :: Ow.own 3 1 encI (.slice (some ⟨b_6, 0, none⟩) 0 0) ([] : List Int) :: Ow.box b_5 31 #[.int .i64 0, .slice none 0 0] :: Ow.own 3 1 encI vr1_1 r1_1 :: Ow.own 3 1 encI vr2_1 r2_1 :: Ow.box b_3 31 #[.int .i64 t_0_1, vt_1_1] :: fr)) r_2 vr_1 hS hL_15 hM) ?_
     rintro vr_5 h_23 ⟨F_26, r_8, _, rfl, hk, hS, _, hM⟩
     obtain ⟨hS, hk⟩ := hZ_15.back hk hS
     generalize (fun bz_ => F_26 bz_ ∧ ¬ (Ow.own 3 1 encI vr_1 r_2).foot bz_) = F_27 at hS hk
     replace hK := hK.trans hk
     replace hLaM := hLaM.kp hk
     replace hLaS := hLaS.kp hk
     replace hLmv := hLmv.kp hk
     refine oM (.int .i64 r3_1) rfl rfl ?_
     replace hS : St F_27 (Ow.own 52 2 eB vr_1_5 r_1_5 :: Ow.own 3 1 encI vr_1 r_2 :: Ow.own 3 1 encI vr_5 r_8 :: Ow.own 52 2 eB vt_1_1 t_1_1 :: Ow.own 3 1 encI v_1 l_1 :: Ow.own 3 1 encI (.slice (some ⟨b_6, 0, none⟩) 0 0) ([] : List Int) :: Ow.box b_5 31 #[.int .i64 0, .slice none 0 0] :: Ow.own 3 1 encI vr1_1 r1_1 :: Ow.own 3 1 encI vr2_1 r2_1 :: Ow.box b_3 31 #[.int .i64 t_0_1, vt_1_1] :: fr) h_23 := hS.perm2 [3, 0, 1, 2, 4, 5, 6, 7, 8, 9] 10 rfl rfl
     have hZ_16 := hS
     have hkz_16 := (hS.freeze).2
     replace hS := hS.freeze.1
     have hL_16 : SliceF (fun bz_ => F_27 bz_ ∨ (Ow.own 52 2 eB vr_1_5 r_1_5).foot bz_) h_23 2 eB vr_1_5 r_1_5 := ⟨(hZ_16.own 0 rfl).slice, fun _ b hb => .inr hb⟩
     replace hS : St (fun bz_ => F_27 bz_ ∨ (Ow.own 52 2 eB vr_1_5 r_1_5).foot bz_) (Ow.own 3 1 encI vr_5 r_8 :: Ow.own 3 1 encI vr_1 r_2 :: Ow.own 52 2 eB vt_1_1 t_1_1 :: Ow.own 3 1 encI v_1 l_1 :: Ow.own 3 1 encI (.slice (some ⟨b_6, 0, none⟩) 0 0) ([] : List Int) :: Ow.box b_5 31 #[.int .i64 0, .slice none 0 0] :: Ow.own 3 1 encI vr1_1 r1_1 :: Ow.own 3 1 encI vr2_1 r2_1 :: Ow.box b_3 31 #[.int .i64 t_0_1, vt_1_1] :: fr) h_23 := hS.perm2 [1, 0, 2, 3, 4, 5, 6, 7, 8] 9 rfl rfl
     have hZ_17 := hS
     have hkz_17 := (hS.freeze).2
     replace hS := hS.freeze.1
     have hL_17 : SliceF (fun bz_ => (fun bz_ => F_27 bz_ ∨ (Ow.own 52 2 eB vr_1_5 r_1_5).foot bz_) bz_ ∨ (Ow.own 3 1 encI vr_5 r_8).foot bz_) h_23 1 encI vr_5 r_8 := ⟨(hZ_17.own 0 rfl).slice, fun _ b hb => .inr hb⟩
     refine HO.call (wn) rfl (ec en_16 rfl rfl) (repair_Join_walk (fr := (Ow.own 3 1 encI vr_1 r_2 :: Ow.own 52 2 eB vt_1_1 t_1_1 :: Ow.own 3 1 encI v_1 l_1 :: Ow.own 3 1 encI (.slice (some ⟨b_6, 0, none⟩) 0 0) ([] : List Int) :: Ow.box b_5 31 #[.int .i64 0, .slice none 0 0] :: Ow.own 3 1 encI vr1_1 r1_1 :: Ow.own 3 1 encI vr2_1 r2_1 :: Ow.box b_3 31 #[.int .i64 t_0_1, vt_1_1] :: fr)) r_0_5 r_1_5 (gi r1_1 (((gi moves i_1).toNat : Int).tmod (r1_1.length : Int))) r_8 r3_1 vr_1_5 vr_5 hS (hL_16.kp hkz_17) hL_17 hD hM) ?_
     rintro _ h_24 ⟨F_28, r_0_6, r_1_6, vr_1_6, rfl, hk, hS, _, _, hM⟩
     obtain ⟨hS, hk⟩ := hZ_17.back hk hS
     obtain ⟨hS, hk⟩ := hZ_16.back hk hS
     generalize (fun bz_ => (fun bz_ => F_28 bz_ ∧ ¬ (Ow.own 3 1 encI vr_5 r_8).foot bz_) bz_ ∧ ¬ (Ow.own 52 2 eB vr_1_5 r_1_5).foot bz_) = F_29 at hS hk
     replace hK := hK.trans hk
     replace hLaM := hLaM.kp hk
     replace hLaS := hLaS.kp hk
     replace hLmv := hLmv.kp hk
     refine HO.sto (wn) rfl (st_storeAgg (c' := #[.int .i64 r_0_6, vr_1_6]) hS (i := 7) rfl ta_31 rfl rfl rfl (List.forall_mem_cons.2 ⟨rfl, (List.forall_mem_cons.2 ⟨(shp (hS.own 2 rfl).slice).one, (fun _ h => by cases h)⟩)⟩) (Nat.le_of_ble_eq_true rfl) rfl) ?_
     rintro h_25 ⟨hS, hk⟩
     replace hK := hK.trans hk
     replace hLaM := hLaM.kp hk
     replace hLaS := hLaS.kp hk
     replace hLmv := hLmv.kp hk
     refine HO.nil (tqn (?_))
     refine HW.seq ?_
     refine HW.region ?_
     refine oM (v_1) rfl rfl ?_
     refine oM (.int .i64 (gi r1_1 (((gi moves i_1).toNat : Int).tmod (r1_1.length : Int)))) rfl rfl ?_
     replace hS : St F_29 (Ow.own 3 1 encI v_1 l_1 :: Ow.own 52 2 eB vr_1_5 r_1_5 :: Ow.own 3 1 encI vr_5 r_8 :: Ow.own 52 2 eB vr_1_6 r_1_6 :: Ow.own 3 1 encI vr_1 r_2 :: Ow.own 52 2 eB vt_1_1 t_1_1 :: Ow.own 3 1 encI (.slice (some ⟨b_6, 0, none⟩) 0 0) ([] : List Int) :: Ow.box b_5 31 #[.int .i64 r_0_6, vr_1_6] :: Ow.own 3 1 encI vr1_1 r1_1 :: Ow.own 3 1 encI vr2_1 r2_1 :: Ow.box b_3 31 #[.int .i64 t_0_1, vt_1_1] :: fr) h_25 := hS.perm2 [5, 0, 1, 2, 3, 4, 6, 7, 8, 9, 10] 11 rfl rfl
     refine HO.call (wn) rfl (ec en_17 rfl rfl) (ref32_Add_walk (fr := (Ow.own 52 2 eB vr_1_5 r_1_5 :: Ow.own 3 1 encI vr_5 r_8 :: Ow.own 52 2 eB vr_1_6 r_1_6 :: Ow.own 3 1 encI vr_1 r_2 :: Ow.own 52 2 eB vt_1_1 t_1_1 :: Ow.own 3 1 encI (.slice (some ⟨b_6, 0, none⟩) 0 0) ([] : List Int) :: Ow.box b_5 31 #[.int .i64 r_0_6, vr_1_6] :: Ow.own 3 1 encI vr1_1 r1_1 :: Ow.own 3 1 encI vr2_1 r2_1 :: Ow.box b_3 31 #[.int .i64 t_0_1, vt_1_1] :: fr)) l_1 (gi r1_1 (((gi moves i_1).toNat : Int).tmod (r1_1.length : Int))) v_1 hS hM) ?_
     rintro vr_6 h_26 ⟨F_30, r_9, _, rfl, hk, hS, hM⟩
     replace hK := hK.trans hk
     replace hLaM := hLaM.kp hk
     replace hLaS := hLaS.kp hk
     replace hLmv := hLmv.kp hk
     refine oA (vr_6) rfl rfl ?_
     refine HO.nil (tqn (?_))
     refine HW.seq ?_
     refine HW.seq ?_
     refine HW.regionA 8 mixed (fun h => (Blk h b_5 (.cells #[.int .i64 r_0_6, vr_1_6] 31 (0, 0))) ∧ (Blk h b_3 (.cells #[.int .i64 t_0_1, vt_1_1] 31 (0, 0)))) [] (by kernel_rfl) ?_
     refine HA.val (k := 0) (v := .agg #[.int .i64 r_0_6, vr_1_6]) rfl rfl (by kernel_rfl) (by kernel_rfl) (wn) rfl (fun _ ⟨c370, c367⟩ => q_loadAgg (cs := [.int .i64 r_0_6, vr_1_6]) ta_31 rfl rfl (Blk.cells (k := 2) c370 rfl)) ?_
     refine HA.val (k := 1) (v := .agg #[.int .i64 t_0_1, vt_1_1]) rfl rfl (by kernel_rfl) (by kernel_rfl) (wn) rfl (fun _ ⟨c370, c367⟩ => q_loadAgg (cs := [.int .i64 t_0_1, vt_1_1]) ta_31 rfl rfl (Blk.cells (k := 2) c367 rfl)) ?_
     refine HA.val (k := 2) (v := .int .i64 (gi r1_1 (((gi moves i_1).toNat : Int).tmod (r1_1.length : Int)))) rfl rfl (by kernel_rfl) (by kernel_rfl) (wn) rfl (fun _ ⟨c370, c367⟩ => q_move rfl) ?_
     refine HA.val (k := 3) (v := vr_1) rfl rfl (by kernel_rfl) (by kernel_rfl) (wn) rfl (fun _ ⟨c370, c367⟩ => q_move rfl) ?_
     refine HA.val (k := 4) (v := .int .i64 r3_1) rfl rfl (by kernel_rfl) (by kernel_rfl) (wn) rfl (fun _ ⟨c370, c367⟩ => q_move rfl) ?_
     refine HA.one (k := 5) ⟨⟨(hS.box 7 rfl), (hS.box 10 rfl)⟩, (Go.Wk.at_nil _ _)⟩ (by kernel_rfl) ?_
     replace hS : St F_30 (Ow.own 52 2 eB vt_1_1 t_1_1 :: Ow.own 3 1 encI vr_6 r_9 :: Ow.own 52 2 eB vr_1_5 r_1_5 :: Ow.own 3 1 encI vr_5 r_8 :: Ow.own 52 2 eB vr_1_6 r_1_6 :: Ow.own 3 1 encI vr_1 r_2 :: Ow.own 3 1 encI (.slice (some ⟨b_6, 0, none⟩) 0 0) ([] : List Int) :: Ow.box b_5 31 #[.int .i64 r_0_6, vr_1_6] :: Ow.own 3 1 encI vr1_1 r1_1 :: Ow.own 3 1 encI vr2_1 r2_1 :: Ow.box b_3 31 #[.int .i64 t_0_1, vt_1_1] :: fr) h_26 := hS.perm2 [5, 0, 1, 2, 3, 4, 6, 7, 8, 9, 10] 11 rfl rfl
     have hZ_18 := hS
     have hkz_18 := (hS.freeze).2
     replace hS := hS.freeze.1
     have hL_18 : SliceF (fun bz_ => F_30 bz_ ∨ (Ow.own 52 2 eB vt_1_1 t_1_1).foot bz_) h_26 2 eB vt_1_1 t_1_1 := ⟨(hZ_18.own 0 rfl).slice, fun _ b hb => .inr hb⟩
     replace hS : St (fun bz_ => F_30 bz_ ∨ (Ow.own 52 2 eB vt_1_1 t_1_1).foot bz_) (Ow.own 3 1 encI vr_1 r_2 :: Ow.own 3 1 encI vr_6 r_9 :: Ow.own 52 2 eB vr_1_5 r_1_5 :: Ow.own 3 1 encI vr_5 r_8 :: Ow.own 52 2 eB vr_1_6 r_1_6 :: Ow.own 3 1 encI (.slice (some ⟨b_6, 0, none⟩) 0 0) ([] : List Int) :: Ow.box b_5 31 #[.int .i64 r_0_6, vr_1_6] :: Ow.own 3 1 encI vr1_1 r1_1 :: Ow.own 3 1 encI vr2_1 r2_1 :: Ow.box b_3 31 #[.int .i64 t_0_1, vt_1_1] :: fr) h_26 := hS.perm2 [4, 0, 1, 2, 3, 5, 6, 7, 8, 9] 10 rfl rfl
     have hZ_19 := hS
     have hkz_19 := (hS.freeze).2
     replace hS := hS.freeze.1
     have hL_19 : SliceF (fun bz_ => (fun bz_ => F_30 bz_ ∨ (Ow.own 52 2 eB vt_1_1 t_1_1).foot bz_) bz_ ∨ (Ow.own 3 1 encI vr_1 r_2).foot bz_) h_26 1 encI vr_1 r_2 := ⟨(hZ_19.own 0 rfl).slice, fun _ b hb => .inr hb⟩
     refine HS.call rfl (wn) rfl (ec en_18 rfl rfl) (ref34_Join_walk (fr := (Ow.own 3 1 encI vr_6 r_9 :: Ow.own 52 2 eB vr_1_5 r_1_5 :: Ow.own 3 1 encI vr_5 r_8 :: Ow.own 52 2 eB vr_1_6 r_1_6 :: Ow.own 3 1 encI (.slice (some ⟨b_6, 0, none⟩) 0 0) ([] : List Int) :: Ow.box b_5 31 #[.int .i64 r_0_6, vr_1_6] :: Ow.own 3 1 encI vr1_1 r1_1 :: Ow.own 3 1 encI vr2_1 r2_1 :: Ow.box b_3 31 #[.int .i64 t_0_1, vt_1_1] :: fr)) t_0_1 t_1_1 (gi r1_1 (((gi moves i_1).toNat : Int).tmod (r1_1.length : Int))) r_2 r3_1 vt_1_1 vr_1 hS (hL_18.kp hkz_19) hL_19 hM) ?_
     rintro _ h_27 ⟨F_31, r_0_7, r_1_7, vr_1_7, rfl, hk, hS, _, _, hM⟩
     obtain ⟨hS, hk⟩ := hZ_19.back hk hS
     obtain ⟨hS, hk⟩ := hZ_18.back hk hS
     generalize (fun bz_ => (fun bz_ => F_31 bz_ ∧ ¬ (Ow.own 3 1 encI vr_1 r_2).foot bz_) bz_ ∧ ¬ (Ow.own 52 2 eB vt_1_1 t_1_1).foot bz_) = F_32 at hS hk
     replace hK := hK.trans hk
     replace hLaM := hLaM.kp hk
     replace hLaS := hLaS.kp hk
     replace hLmv := hLmv.kp hk
     refine HA.one (k := 6) ⟨⟨(hS.box 8 rfl), (hS.box 11 rfl)⟩, (Go.Wk.at_nil _ _)⟩ (by kernel_rfl) ?_
     replace hS : St F_32 (Ow.own 52 2 eB vr_1_6 r_1_6 :: Ow.own 52 2 eB vt_1_1 t_1_1 :: Ow.own 3 1 encI vr_1 r_2 :: Ow.own 52 2 eB vr_1_7 r_1_7 :: Ow.own 3 1 encI vr_6 r_9 :: Ow.own 52 2 eB vr_1_5 r_1_5 :: Ow.own 3 1 encI vr_5 r_8 :: Ow.own 3 1 encI (.slice (some ⟨b_6, 0, none⟩) 0 0) ([] : List Int) :: Ow.box b_5 31 #[.int .i64 r_0_6, vr_1_6] :: Ow.own 3 1 encI vr1_1 r1_1 :: Ow.own 3 1 encI vr2_1 r2_1 :: Ow.box b_3 31 #[.int .i64 t_0_1, vt_1_1] :: fr) h_27 := hS.perm2 [6, 0, 1, 2, 3, 4, 5, 7, 8, 9, 10, 11] 12 rfl rfl
     have hZ_20 := hS
     have hkz_20 := (hS.freeze).2
     replace hS := hS.freeze.1
     have hL_20 : SliceF (fun bz_ => F_32 bz_ ∨ (Ow.own 52 2 eB vr_1_6 r_1_6).foot bz_) h_27 2 eB vr_1_6 r_1_6 := ⟨(hZ_20.own 0 rfl).slice, fun _ b hb => .inr hb⟩
     replace hS : St (fun bz_ => F_32 bz_ ∨ (Ow.own 52 2 eB vr_1_6 r_1_6).foot bz_) (Ow.own 52 2 eB vr_1_7 r_1_7 :: Ow.own 52 2 eB vt_1_1 t_1_1 :: Ow.own 3 1 encI vr_1 r_2 :: Ow.own 3 1 encI vr_6 r_9 :: Ow.own 52 2 eB vr_1_5 r_1_5 :: Ow.own 3 1 encI vr_5 r_8 :: Ow.own 3 1 encI (.slice (some ⟨b_6, 0, none⟩) 0 0) ([] : List Int) :: Ow.box b_5 31 #[.int .i64 r_0_6, vr_1_6] :: Ow.own 3 1 encI vr1_1 r1_1 :: Ow.own 3 1 encI vr2_1 r2_1 :: Ow.box b_3 31 #[.int .i64 t_0_1, vt_1_1] :: fr) h_27 := hS.perm2 [2, 0, 1, 3, 4, 5, 6, 7, 8, 9, 10] 11 rfl rfl
     have hZ_21 := hS
     have hkz_21 := (hS.freeze).2
     replace hS := hS.freeze.1
     have hL_21 : SliceF (fun bz_ => (fun bz_ => F_32 bz_ ∨ (Ow.own 52 2 eB vr_1_6 r_1_6).foot bz_) bz_ ∨ (Ow.own 52 2 eB vr_1_7 r_1_7).foot bz_) h_27 2 eB vr_1_7 r_1_7 := ⟨(hZ_21.own 0 rfl).slice, fun _ b hb => .inr hb⟩
     refine HS.call rfl (wn) rfl (ec en_14 rfl rfl) (ref32_Same_walk (fr := (Ow.own 52 2 eB vt_1_1 t_1_1 :: Ow.own 3 1 encI vr_1 r_2 :: Ow.own 3 1 encI vr_6 r_9 :: Ow.own 52 2 eB vr_1_5 r_1_5 :: Ow.own 3 1 encI vr_5 r_8 :: Ow.own 3 1 encI (.slice (some ⟨b_6, 0, none⟩) 0 0) ([] : List Int) :: Ow.box b_5 31 #[.int .i64 r_0_6, vr_1_6] :: Ow.own 3 1 encI vr1_1 r1_1 :: Ow.own 3 1 encI vr2_1 r2_1 :: Ow.box b_3 31 #[.int .i64 t_0_1, vt_1_1] :: fr)) r_0_6 r_1_6 r_0_7 r_1_7 vr_1_6 vr_1_7 hS (hL_20.kp hkz_21) hL_21 hM) ?_
     rintro _ h_28 ⟨F_33, r_10, rfl, hk, hS, _, _, hM⟩
     obtain ⟨hS, hk⟩ := hZ_21.back hk hS
     obtain ⟨hS, hk⟩ := hZ_20.back hk hS
     generalize (fun bz_ => (fun bz_ => F_33 bz_ ∧ ¬ (Ow.own 52 2 eB vr_1_7 r_1_7).foot bz_) bz_ ∧ ¬ (Ow.own 52 2 eB vr_1_6 r_1_6).foot bz_) = F_34 at hS hk
     replace hK := hK.trans hk
     replace hLaM := hLaM.kp hk
     replace hLaS := hLaS.kp hk
     replace hLmv := hLmv.kp hk
     refine HA.val (k := 7) (v := .bool (!r_10)) rfl rfl (by kernel_rfl) (by kernel_rfl) (wn) rfl (fun _ ⟨c370, c367⟩ => q_not rfl) ?_
     refine HA.nil ⟨⟨(hS.box 8 rfl), (hS.box 11 rfl)⟩, (Go.Wk.at_nil _ _)⟩ (by kernel_rfl) (tqn (?_))
     refine HW.cond (!r_10) rfl (fun c_6 => ?_) (fun c_6 => ?_)
     ·
      replace hM := hM.1 c_6
      refine HW.seq ?_
      refine HW.region ?_
      refine oA (.bool false) rfl rfl ?_
      refine HO.nil (tqn (?_))
      refine HW.ret (thenQ_ret (thenQ_ret (blockQ_ret (thenQ_ret (thenQ_ret (blockQ_ret (thenQ_ret (?_))))))))
      refine ⟨.inr rfl, .bool false, res1 rfl (rt rfl), ?_⟩
      replace hS : St F_34 (fr) h_28 := hS.perm2 [] 12 rfl rfl
      exact ⟨F_34, false, rfl, hK, hS, hLaM, hLaS, hLmv, hM⟩
     ·
      replace hM := hM.2 c_6
      refine HW.skip (tqn (?_))
      refine HW.region ?_
      refine oV (.agg #[.int .i64 r_0_6, vr_1_6]) (q_loadAgg (cs := [.int .i64 r_0_6, vr_1_6]) ta_31 rfl rfl (Blk.cells (k := 2) (hS.box 8 rfl) rfl)) rfl ?_
      refine oM (.int .i64 (gi r1_1 (((gi moves i_1).toNat : Int).tmod (r1_1.length : Int)))) rfl rfl ?_
      replace hS : St F_34 (Ow.own 52 2 eB vr_1_6 r_1_6 :: Ow.own 52 2 eB vr_1_7 r_1_7 :: Ow.own 52 2 eB vt_1_1 t_1_1 :: Ow.own 3 1 encI vr_1 r_2 :: Ow.own 3 1 encI vr_6 r_9 :: Ow.own 52 2 eB vr_1_5 r_1_5 :: Ow.own 3 1 encI vr_5 r_8 :: Ow.own 3 1 encI (.slice (some ⟨b_6, 0, none⟩) 0 0) ([] : List Int) :: Ow.box b_5 31 #[.int .i64 r_0_6, vr_1_6] :: Ow.own 3 1 encI vr1_1 r1_1 :: Ow.own 3 1 encI vr2_1 r2_1 :: Ow.box b_3 31 #[.int .i64 t_0_1, vt_1_1] :: fr) h_28 := hS
      have hZ_22 := hS
      have hkz_22 := (hS.freeze).2
      replace hS := hS.freeze.1
      have hL_22 : SliceF (fun bz_ => F_34 bz_ ∨ (Ow.own 52 2 eB vr_1_6 r_1_6).foot bz_) h_28 2 eB vr_1_6 r_1_6 := ⟨(hZ_22.own 0 rfl).slice, fun _ b hb => .inr hb⟩
      refine HO.call (wn) rfl (ec en_13 rfl rfl) (ref32_Path_walk (fr := (Ow.own 52 2 eB vr_1_7 r_1_7 :: Ow.own 52 2 eB vt_1_1 t_1_1 :: Ow.own 3 1 encI vr_1 r_2 :: Ow.own 3 1 encI vr_6 r_9 :: Ow.own 52 2 eB vr_1_5 r_1_5 :: Ow.own 3 1 encI vr_5 r_8 :: Ow.own 3 1 encI (.slice (some ⟨b_6, 0, none⟩) 0 0) ([] : List Int) :: Ow.box b_5 31 #[.int .i64 r_0_6, vr_1_6] :: Ow.own 3 1 encI vr1_1 r1_1 :: Ow.own 3 1 encI vr2_1 r2_1 :: Ow.box b_3 31 #[.int .i64 t_0_1, vt_1_1] :: fr)) r_0_6 r_1_6 (gi r1_1 (((gi moves i_1).toNat : Int).tmod (r1_1.length : Int))) vr_1_6 hS hL_22 hM) ?_
      rintro vr_7 h_29 ⟨F_35, r_11, _, rfl, hk, hS, _, hM⟩
      obtain ⟨hS, hk⟩ := hZ_22.back hk hS
      generalize (fun bz_ => F_35 bz_ ∧ ¬ (Ow.own 52 2 eB vr_1_6 r_1_6).foot bz_) = F_36 at hS hk
      replace hK := hK.trans hk
      replace hLaM := hLaM.kp hk
      replace hLaS := hLaS.kp hk
      replace hLmv := hLmv.kp hk
      refine oA (vr_7) rfl rfl ?_
      refine HO.nil (tqn (?_))
      replace hS : St F_36 (Ow.own 3 1 encI vr1_1 r1_1 :: Ow.own 3 1 encI vr2_1 r2_1 :: Ow.own 3 1 encI vr_1 r_2 :: Ow.box b_3 31 #[.int .i64 t_0_1, vt_1_1] :: Ow.own 52 2 eB vt_1_1 t_1_1 :: Ow.own 3 1 encI vr_6 r_9 :: Ow.box b_5 31 #[.int .i64 r_0_6, vr_1_6] :: Ow.own 52 2 eB vr_1_6 r_1_6 :: Ow.own 3 1 encI vr_7 r_11 :: fr) h_29 := hS.perm2 [10, 11, 4, 12, 3, 5, 9, 0, 1] 13 rfl rfl
      exact ⟨F_36, r_9, r_0_6, r_1_6, r_11, vr_6, vr_1_6, vr_7, rfl, rfl, rfl, rfl, rfl, rfl, rfl, rfl, rfl, rfl, rfl, rfl, hK, hS, hLaM, hLaS, hLmv, hM⟩
   ·
    rintro f_3 h_30 ⟨F_37, l_3, x_0_1, x_1_1, path_1, v_2, vx_1_1, vpath_1, e1, e4, e5, e6, e7, e8, e9, e10, e11, e12, e14, e15, hK, hS, hLaM, hLaS, hLmv, hM⟩
    unfold law34_RepairPlays_j2 at hM
    refine HW.fr [(1, vmoves), (4, .bool false), (5, .int .i64 r0_1), (6, vr1_1), (7, vr2_1), (8, .int .i64 r3_1), (9, vr_1), (10, .pointer (some ⟨b_3, 0, none⟩)), (11, v_2), (12, .int .i64 i_1), (14, .pointer (some ⟨b_5, 0, none⟩)), (15, vpath_1)] ⟨e1, e4, e5, e6, e7, e8, e9, e10, e11, e12, e14, e15, trivial⟩ ?_
    refine HW.seq ?_
    refine HW.seq_mid (fun f h => ∃ (F' : Fz) (b_7 : Bool), f 1 = vmoves ∧ f 4 = .bool false ∧ f 5 = .int .i64 r0_1 ∧ f 6 = vr1_1 ∧ f 7 = vr2_1 ∧ f 8 = .int .i64 r3_1 ∧ f 9 = vr_1 ∧ f 10 = .pointer (some ⟨b_3, 0, none⟩) ∧ f 11 = v_2 ∧ f 12 = .int .i64 i_1 ∧ f 14 = .pointer (some ⟨b_5, 0, none⟩) ∧ f 15 = vpath_1 ∧ f 121 = .bool b_7 ∧ Kp F h0 F' h ∧ St F' (Ow.own 3 1 encI vr1_1 r1_1 :: Ow.own 3 1 encI vr2_1 r2_1 :: Ow.own 3 1 encI vr_1 r_2 :: Ow.box b_3 31 #[.int .i64 t_0_1, vt_1_1] :: Ow.own 52 2 eB vt_1_1 t_1_1 :: Ow.own 3 1 encI v_2 l_3 :: Ow.box b_5 31 #[.int .i64 x_0_1, vx_1_1] :: Ow.own 52 2 eB vx_1_1 x_1_1 :: Ow.own 3 1 encI vpath_1 path_1 :: fr) h ∧ (SliceF F' h 1 encI va_Members a_Members) ∧ (SliceF F' h 1 encI va_Services a_Services) ∧ (SliceF F' h 1 enc8 vmoves moves) ∧ law34_RepairPlays_j3 Q r3_1 t_0_1 t_1_1 i_1 K_1 l_3 x_0_1 x_1_1 path_1 b_7) ?_ ?_
    ·
     refine HW.regionA 17 mixed (fun h => (Blk h b_5 (.cells #[.int .i64 x_0_1, vx_1_1] 31 (0, 0)))) [] (by kernel_rfl) ?_
     refine HA.val (k := 0) (v := .agg #[.int .i64 x_0_1, vx_1_1]) rfl rfl (by kernel_rfl) (by kernel_rfl) (wn) rfl (fun _ c378 => q_loadAgg (cs := [.int .i64 x_0_1, vx_1_1]) ta_31 rfl rfl (Blk.cells (k := 2) c378 rfl)) ?_
     refine HA.val (k := 1) (v := .int .i64 r0_1) rfl rfl (by kernel_rfl) (by kernel_rfl) (wn) rfl (fun _ c378 => q_move rfl) ?_
     refine HA.val (k := 2) (v := v_2) rfl rfl (by kernel_rfl) (by kernel_rfl) (wn) rfl (fun _ c378 => q_move rfl) ?_
     refine HA.val (k := 3) (v := vr2_1) rfl rfl (by kernel_rfl) (by kernel_rfl) (wn) rfl (fun _ c378 => q_move rfl) ?_
     refine HA.val (k := 4) (v := .int .i64 r3_1) rfl rfl (by kernel_rfl) (by kernel_rfl) (wn) rfl (fun _ c378 => q_move rfl) ?_
     refine HA.one (k := 5) ⟨(hS.box 6 rfl), (Go.Wk.at_nil _ _)⟩ (by kernel_rfl) ?_
     replace hS : St F_37 (Ow.own 52 2 eB vx_1_1 x_1_1 :: Ow.own 3 1 encI vr1_1 r1_1 :: Ow.own 3 1 encI vr2_1 r2_1 :: Ow.own 3 1 encI vr_1 r_2 :: Ow.box b_3 31 #[.int .i64 t_0_1, vt_1_1] :: Ow.own 52 2 eB vt_1_1 t_1_1 :: Ow.own 3 1 encI v_2 l_3 :: Ow.box b_5 31 #[.int .i64 x_0_1, vx_1_1] :: Ow.own 3 1 encI vpath_1 path_1 :: fr) h_30 := hS.perm2 [7, 0, 1, 2, 3, 4, 5, 6, 8] 9 rfl rfl
     have hZ_23 := hS
     have hkz_23 := (hS.freeze).2
     replace hS := hS.freeze.1
     have hL_23 : SliceF (fun bz_ => F_37 bz_ ∨ (Ow.own 52 2 eB vx_1_1 x_1_1).foot bz_) h_30 2 eB vx_1_1 x_1_1 := ⟨(hZ_23.own 0 rfl).slice, fun _ b hb => .inr hb⟩
     replace hS : St (fun bz_ => F_37 bz_ ∨ (Ow.own 52 2 eB vx_1_1 x_1_1).foot bz_) (Ow.own 3 1 encI v_2 l_3 :: Ow.own 3 1 encI vr1_1 r1_1 :: Ow.own 3 1 encI vr2_1 r2_1 :: Ow.own 3 1 encI vr_1 r_2 :: Ow.box b_3 31 #[.int .i64 t_0_1, vt_1_1] :: Ow.own 52 2 eB vt_1_1 t_1_1 :: Ow.box b_5 31 #[.int .i64 x_0_1, vx_1_1] :: Ow.own 3 1 encI vpath_1 path_1 :: fr) h_30 := hS.perm2 [5, 0, 1, 2, 3, 4, 6, 7] 8 rfl rfl
     have hZ_24 := hS
     have hkz_24 := (hS.freeze).2
     replace hS := hS.freeze.1
     have hL_24 : SliceF (fun bz_ => (fun bz_ => F_37 bz_ ∨ (Ow.own 52 2 eB vx_1_1 x_1_1).foot bz_) bz_ ∨ (Ow.own 3 1 encI v_2 l_3).foot bz_) h_30 1 encI v_2 l_3 := ⟨(hZ_24.own 0 rfl).slice, fun _ b hb => .inr hb⟩
     replace hS : St (fun bz_ => (fun bz_ => F_37 bz_ ∨ (Ow.own 52 2 eB vx_1_1 x_1_1).foot bz_) bz_ ∨ (Ow.own 3 1 encI v_2 l_3).foot bz_) (Ow.own 3 1 encI vr2_1 r2_1 :: Ow.own 3 1 encI vr1_1 r1_1 :: Ow.own 3 1 encI vr_1 r_2 :: Ow.box b_3 31 #[.int .i64 t_0_1, vt_1_1] :: Ow.own 52 2 eB vt_1_1 t_1_1 :: Ow.box b_5 31 #[.int .i64 x_0_1, vx_1_1] :: Ow.own 3 1 encI vpath_1 path_1 :: fr) h_30 := hS.perm2 [1, 0, 2, 3, 4, 5, 6] 7 rfl rfl
     have hZ_25 := hS
     have hkz_25 := (hS.freeze).2
     replace hS := hS.freeze.1
     have hL_25 : SliceF (fun bz_ => (fun bz_ => (fun bz_ => F_37 bz_ ∨ (Ow.own 52 2 eB vx_1_1 x_1_1).foot bz_) bz_ ∨ (Ow.own 3 1 encI v_2 l_3).foot bz_) bz_ ∨ (Ow.own 3 1 encI vr2_1 r2_1).foot bz_) h_30 1 encI vr2_1 r2_1 := ⟨(hZ_25.own 0 rfl).slice, fun _ b hb => .inr hb⟩
     refine HS.call rfl (wn) rfl (ec en_19 rfl rfl) (ref33_Valid_walk (fr := (Ow.own 3 1 encI vr1_1 r1_1 :: Ow.own 3 1 encI vr_1 r_2 :: Ow.box b_3 31 #[.int .i64 t_0_1, vt_1_1] :: Ow.own 52 2 eB vt_1_1 t_1_1 :: Ow.box b_5 31 #[.int .i64 x_0_1, vx_1_1] :: Ow.own 3 1 encI vpath_1 path_1 :: fr)) x_0_1 x_1_1 r0_1 l_3 r2_1 r3_1 vx_1_1 v_2 vr2_1 hS ((hL_23.kp hkz_24).kp hkz_25) (hL_24.kp hkz_25) hL_25 hM) ?_
     rintro _ h_31 ⟨F_38, r_12, rfl, hk, hS, _, _, _, hM⟩
     obtain ⟨hS, hk⟩ := hZ_25.back hk hS
     obtain ⟨hS, hk⟩ := hZ_24.back hk hS
     obtain ⟨hS, hk⟩ := hZ_23.back hk hS
     generalize (fun bz_ => (fun bz_ => (fun bz_ => F_38 bz_ ∧ ¬ (Ow.own 3 1 encI vr2_1 r2_1).foot bz_) bz_ ∧ ¬ (Ow.own 3 1 encI v_2 l_3).foot bz_) bz_ ∧ ¬ (Ow.own 52 2 eB vx_1_1 x_1_1).foot bz_) = F_39 at hS hk
     replace hK := hK.trans hk
     replace hLaM := hLaM.kp hk
     replace hLaS := hLaS.kp hk
     replace hLmv := hLmv.kp hk
     refine HA.val (k := 6) (v := .bool (!r_12)) rfl rfl (by kernel_rfl) (by kernel_rfl) (wn) rfl (fun _ c378 => q_not rfl) ?_
     refine HA.val (k := 7) (v := .bool (!r_12)) rfl rfl (by kernel_rfl) (by kernel_rfl) (wn) rfl (fun _ c378 => q_move rfl) ?_
     rcases Bool.eq_false_or_eq_true (!r_12) with c_7 | c_7
     ·
      replace hM := hM.1 c_7
      refine HA.past (k := 8) rfl rfl (by kernel_rfl) (by kernel_rfl) (pby rfl rfl c_7) rfl ?_
      refine HA.past (k := 10) rfl rfl (by kernel_rfl) (by kernel_rfl) (pby rfl rfl c_7) rfl ?_
      refine HA.past (k := 12) rfl rfl (by kernel_rfl) (by kernel_rfl) (pby rfl rfl c_7) rfl ?_
      refine HA.past (k := 13) rfl rfl (by kernel_rfl) (by kernel_rfl) (pby rfl rfl c_7) rfl ?_
      refine HA.one (k := 9) ⟨(hS.box 7 rfl), (Go.Wk.at_nil _ _)⟩ (by kernel_rfl) ?_
      refine HS.past rfl (pby rfl rfl c_7) rfl ?_
      refine HA.one (k := 11) ⟨(hS.box 7 rfl), (Go.Wk.at_nil _ _)⟩ (by kernel_rfl) ?_
      refine HS.past rfl (pby rfl rfl c_7) rfl ?_
      refine HA.one (k := 14) ⟨(hS.box 7 rfl), (Go.Wk.at_nil _ _)⟩ (by kernel_rfl) ?_
      refine HS.past rfl (pby rfl rfl c_7) rfl ?_
      refine HA.past (k := 15) rfl rfl (by kernel_rfl) (by kernel_rfl) (pby rfl rfl c_7) rfl ?_
      refine HA.val (k := 16) (v := .bool true) rfl rfl (by kernel_rfl) (by kernel_rfl) (wn) rfl (fun _ c378 => q_pickK true rfl c_7 rfl) ?_
      refine HA.nil ⟨(hS.box 7 rfl), (Go.Wk.at_nil _ _)⟩ (by kernel_rfl) (tqn (?_))
      replace hS : St F_39 (Ow.own 3 1 encI vr1_1 r1_1 :: Ow.own 3 1 encI vr2_1 r2_1 :: Ow.own 3 1 encI vr_1 r_2 :: Ow.box b_3 31 #[.int .i64 t_0_1, vt_1_1] :: Ow.own 52 2 eB vt_1_1 t_1_1 :: Ow.own 3 1 encI v_2 l_3 :: Ow.box b_5 31 #[.int .i64 x_0_1, vx_1_1] :: Ow.own 52 2 eB vx_1_1 x_1_1 :: Ow.own 3 1 encI vpath_1 path_1 :: fr) h_31 := hS.perm2 [3, 2, 4, 5, 6, 1, 7, 0, 8] 9 rfl rfl
      exact ⟨F_39, true, rfl, rfl, rfl, rfl, rfl, rfl, rfl, rfl, rfl, rfl, rfl, rfl, rfl, hK, hS, hLaM, hLaS, hLmv, hM⟩
     ·
      replace hM := hM.2 c_7
      refine HA.val (k := 8) (v := .agg #[.int .i64 x_0_1, vx_1_1]) rfl rfl (by kernel_rfl) (by kernel_rfl) (wby rfl rfl c_7) rfl (fun _ c378 => q_loadAgg (cs := [.int .i64 x_0_1, vx_1_1]) ta_31 rfl rfl (Blk.cells (k := 2) c378 rfl)) ?_
      refine HA.val (k := 10) (v := .int .i64 r3_1) rfl rfl (by kernel_rfl) (by kernel_rfl) (wby rfl rfl c_7) rfl (fun _ c378 => q_move rfl) ?_
      refine HA.val (k := 12) (v := .agg #[.int .i64 x_0_1, vx_1_1]) rfl rfl (by kernel_rfl) (by kernel_rfl) (wby rfl rfl c_7) rfl (fun _ c378 => q_loadAgg (cs := [.int .i64 x_0_1, vx_1_1]) ta_31 rfl rfl (Blk.cells (k := 2) c378 rfl)) ?_
      refine HA.val (k := 13) (v := .int .i64 r3_1) rfl rfl (by kernel_rfl) (by kernel_rfl) (wby rfl rfl c_7) rfl (fun _ c378 => q_move rfl) ?_
      refine HA.one (k := 9) ⟨(hS.box 7 rfl), (Go.Wk.at_nil _ _)⟩ (by kernel_rfl) ?_
      replace hS : St F_39 (Ow.own 52 2 eB vx_1_1 x_1_1 :: Ow.own 3 1 encI v_2 l_3 :: Ow.own 3 1 encI vr2_1 r2_1 :: Ow.own 3 1 encI vr1_1 r1_1 :: Ow.own 3 1 encI vr_1 r_2 :: Ow.box b_3 31 #[.int .i64 t_0_1, vt_1_1] :: Ow.own 52 2 eB vt_1_1 t_1_1 :: Ow.box b_5 31 #[.int .i64 x_0_1, vx_1_1] :: Ow.own 3 1 encI vpath_1 path_1 :: fr) h_31 := hS
      have hZ_26 := hS
      have hkz_26 := (hS.freeze).2
      replace hS := hS.freeze.1
      have hL_26 : SliceF (fun bz_ => F_39 bz_ ∨ (Ow.own 52 2 eB vx_1_1 x_1_1).foot bz_) h_31 2 eB vx_1_1 x_1_1 := ⟨(hZ_26.own 0 rfl).slice, fun _ b hb => .inr hb⟩
      refine HS.call rfl (wby rfl rfl c_7) rfl (ec en_10 rfl rfl) (law34_own_walk (fr := (Ow.own 3 1 encI v_2 l_3 :: Ow.own 3 1 encI vr2_1 r2_1 :: Ow.own 3 1 encI vr1_1 r1_1 :: Ow.own 3 1 encI vr_1 r_2 :: Ow.box b_3 31 #[.int .i64 t_0_1, vt_1_1] :: Ow.own 52 2 eB vt_1_1 t_1_1 :: Ow.box b_5 31 #[.int .i64 x_0_1, vx_1_1] :: Ow.own 3 1 encI vpath_1 path_1 :: fr)) x_0_1 x_1_1 vx_1_1 hS hL_26 hM) ?_
      rintro _ h_32 ⟨F_40, r_0_8, r_1_8, vr_1_8, rfl, hk, hS, _, hM⟩
      obtain ⟨hS, hk⟩ := hZ_26.back hk hS
      generalize (fun bz_ => F_40 bz_ ∧ ¬ (Ow.own 52 2 eB vx_1_1 x_1_1).foot bz_) = F_41 at hS hk
      replace hK := hK.trans hk
      replace hLaM := hLaM.kp hk
      replace hLaS := hLaS.kp hk
      replace hLmv := hLmv.kp hk
      refine HA.one (k := 11) ⟨(hS.box 8 rfl), (Go.Wk.at_nil _ _)⟩ (by kernel_rfl) ?_
      replace hS : St F_41 (Ow.own 52 2 eB vr_1_8 r_1_8 :: Ow.own 52 2 eB vx_1_1 x_1_1 :: Ow.own 3 1 encI v_2 l_3 :: Ow.own 3 1 encI vr2_1 r2_1 :: Ow.own 3 1 encI vr1_1 r1_1 :: Ow.own 3 1 encI vr_1 r_2 :: Ow.box b_3 31 #[.int .i64 t_0_1, vt_1_1] :: Ow.own 52 2 eB vt_1_1 t_1_1 :: Ow.box b_5 31 #[.int .i64 x_0_1, vx_1_1] :: Ow.own 3 1 encI vpath_1 path_1 :: fr) h_32 := hS.perm2 [1, 0, 2, 3, 4, 5, 6, 7, 8, 9] 10 rfl rfl
      have hZ_27 := hS
      have hkz_27 := (hS.freeze).2
      replace hS := hS.freeze.1
      have hL_27 : SliceF (fun bz_ => F_41 bz_ ∨ (Ow.own 52 2 eB vr_1_8 r_1_8).foot bz_) h_32 2 eB vr_1_8 r_1_8 := ⟨(hZ_27.own 0 rfl).slice, fun _ b hb => .inr hb⟩
      refine HS.call rfl (wby rfl rfl c_7) rfl (ec en_20 rfl rfl) (repair_Star_walk (fr := (Ow.own 52 2 eB vx_1_1 x_1_1 :: Ow.own 3 1 encI v_2 l_3 :: Ow.own 3 1 encI vr2_1 r2_1 :: Ow.own 3 1 encI vr1_1 r1_1 :: Ow.own 3 1 encI vr_1 r_2 :: Ow.box b_3 31 #[.int .i64 t_0_1, vt_1_1] :: Ow.own 52 2 eB vt_1_1 t_1_1 :: Ow.box b_5 31 #[.int .i64 x_0_1, vx_1_1] :: Ow.own 3 1 encI vpath_1 path_1 :: fr)) r_0_8 r_1_8 r3_1 vr_1_8 hS hL_27 hM) ?_
      rintro _ h_33 ⟨F_42, r_13, rfl, hk, hS, _, hM⟩
      obtain ⟨hS, hk⟩ := hZ_27.back hk hS
      generalize (fun bz_ => F_42 bz_ ∧ ¬ (Ow.own 52 2 eB vr_1_8 r_1_8).foot bz_) = F_43 at hS hk
      replace hK := hK.trans hk
      replace hLaM := hLaM.kp hk
      replace hLaS := hLaS.kp hk
      replace hLmv := hLmv.kp hk
      refine HA.one (k := 14) ⟨(hS.box 8 rfl), (Go.Wk.at_nil _ _)⟩ (by kernel_rfl) ?_
      replace hS : St F_43 (Ow.own 52 2 eB vx_1_1 x_1_1 :: Ow.own 52 2 eB vr_1_8 r_1_8 :: Ow.own 3 1 encI v_2 l_3 :: Ow.own 3 1 encI vr2_1 r2_1 :: Ow.own 3 1 encI vr1_1 r1_1 :: Ow.own 3 1 encI vr_1 r_2 :: Ow.box b_3 31 #[.int .i64 t_0_1, vt_1_1] :: Ow.own 52 2 eB vt_1_1 t_1_1 :: Ow.box b_5 31 #[.int .i64 x_0_1, vx_1_1] :: Ow.own 3 1 encI vpath_1 path_1 :: fr) h_33 := hS.perm2 [1, 0, 2, 3, 4, 5, 6, 7, 8, 9] 10 rfl rfl
      have hZ_28 := hS
      have hkz_28 := (hS.freeze).2
      replace hS := hS.freeze.1
      have hL_28 : SliceF (fun bz_ => F_43 bz_ ∨ (Ow.own 52 2 eB vx_1_1 x_1_1).foot bz_) h_33 2 eB vx_1_1 x_1_1 := ⟨(hZ_28.own 0 rfl).slice, fun _ b hb => .inr hb⟩
      refine HS.call rfl (wby rfl rfl c_7) rfl (ec en_21 rfl rfl) (ref34_Star_walk (fr := (Ow.own 52 2 eB vr_1_8 r_1_8 :: Ow.own 3 1 encI v_2 l_3 :: Ow.own 3 1 encI vr2_1 r2_1 :: Ow.own 3 1 encI vr1_1 r1_1 :: Ow.own 3 1 encI vr_1 r_2 :: Ow.box b_3 31 #[.int .i64 t_0_1, vt_1_1] :: Ow.own 52 2 eB vt_1_1 t_1_1 :: Ow.box b_5 31 #[.int .i64 x_0_1, vx_1_1] :: Ow.own 3 1 encI vpath_1 path_1 :: fr)) x_0_1 x_1_1 r3_1 vx_1_1 hS hL_28 hM) ?_
      rintro _ h_34 ⟨F_44, r_14, rfl, hk, hS, _, hM⟩
      obtain ⟨hS, hk⟩ := hZ_28.back hk hS
      generalize (fun bz_ => F_44 bz_ ∧ ¬ (Ow.own 52 2 eB vx_1_1 x_1_1).foot bz_) = F_45 at hS hk
      replace hK := hK.trans hk
      replace hLaM := hLaM.kp hk
      replace hLaS := hLaS.kp hk
      replace hLmv := hLmv.kp hk
      refine HA.val (k := 15) (v := .bool (!(r_13 == r_14))) rfl rfl (by kernel_rfl) (by kernel_rfl) (wby rfl rfl c_7) rfl (fun _ c378 => q_neqB Tryz.underlying4 rfl rfl) ?_
      refine HA.val (k := 16) (v := .bool (!(r_13 == r_14))) rfl rfl (by kernel_rfl) (by kernel_rfl) (wn) rfl (fun _ c378 => q_pickK false rfl c_7 rfl) ?_
      refine HA.nil ⟨(hS.box 8 rfl), (Go.Wk.at_nil _ _)⟩ (by kernel_rfl) (tqn (?_))
      replace hS : St F_45 (Ow.own 3 1 encI vr1_1 r1_1 :: Ow.own 3 1 encI vr2_1 r2_1 :: Ow.own 3 1 encI vr_1 r_2 :: Ow.box b_3 31 #[.int .i64 t_0_1, vt_1_1] :: Ow.own 52 2 eB vt_1_1 t_1_1 :: Ow.own 3 1 encI v_2 l_3 :: Ow.box b_5 31 #[.int .i64 x_0_1, vx_1_1] :: Ow.own 52 2 eB vx_1_1 x_1_1 :: Ow.own 3 1 encI vpath_1 path_1 :: fr) h_34 := hS.perm2 [4, 3, 5, 6, 7, 2, 8, 0, 9] 10 rfl rfl
      exact ⟨F_45, !(r_13 == r_14), rfl, rfl, rfl, rfl, rfl, rfl, rfl, rfl, rfl, rfl, rfl, rfl, rfl, hK, hS, hLaM, hLaS, hLmv, hM⟩
    ·
     rintro f_4 h_35 ⟨F_46, b_7, e1, e4, e5, e6, e7, e8, e9, e10, e11, e12, e14, e15, e121, hK, hS, hLaM, hLaS, hLmv, hM⟩
     unfold law34_RepairPlays_j3 at hM
     refine HW.fr [(1, vmoves), (4, .bool false), (5, .int .i64 r0_1), (6, vr1_1), (7, vr2_1), (8, .int .i64 r3_1), (9, vr_1), (10, .pointer (some ⟨b_3, 0, none⟩)), (11, v_2), (12, .int .i64 i_1), (14, .pointer (some ⟨b_5, 0, none⟩)), (15, vpath_1), (121, .bool b_7)] ⟨e1, e4, e5, e6, e7, e8, e9, e10, e11, e12, e14, e15, e121, trivial⟩ ?_
     refine HW.cond b_7 rfl (fun c_8 => ?_) (fun c_8 => ?_)
     ·
      replace hM := hM.1 c_8
      refine HW.seq ?_
      refine HW.region ?_
      refine oA (.bool false) rfl rfl ?_
      refine HO.nil (tqn (?_))
      refine HW.ret (thenQ_ret (blockQ_ret (thenQ_ret (thenQ_ret (blockQ_ret (thenQ_ret (?_)))))))
      refine ⟨.inr rfl, .bool false, res1 rfl (rt rfl), ?_⟩
      replace hS : St F_46 (fr) h_35 := hS.perm2 [] 9 rfl rfl
      exact ⟨F_46, false, rfl, hK, hS, hLaM, hLaS, hLmv, hM⟩
     ·
      replace hM := hM.2 c_8
      refine HW.skip (tqn (?_))
      refine HW.seq ?_
      refine HW.seq_mid (fun f h => ∃ (F' : Fz) (b_8 : Bool), f 1 = vmoves ∧ f 4 = .bool false ∧ f 5 = .int .i64 r0_1 ∧ f 6 = vr1_1 ∧ f 7 = vr2_1 ∧ f 8 = .int .i64 r3_1 ∧ f 9 = vr_1 ∧ f 10 = .pointer (some ⟨b_3, 0, none⟩) ∧ f 11 = v_2 ∧ f 12 = .int .i64 i_1 ∧ f 14 = .pointer (some ⟨b_5, 0, none⟩) ∧ f 139 = .bool b_8 ∧ Kp F h0 F' h ∧ St F' (Ow.own 3 1 encI vr1_1 r1_1 :: Ow.own 3 1 encI vr2_1 r2_1 :: Ow.own 3 1 encI vr_1 r_2 :: Ow.box b_3 31 #[.int .i64 t_0_1, vt_1_1] :: Ow.own 52 2 eB vt_1_1 t_1_1 :: Ow.own 3 1 encI v_2 l_3 :: Ow.box b_5 31 #[.int .i64 x_0_1, vx_1_1] :: Ow.own 52 2 eB vx_1_1 x_1_1 :: fr) h ∧ (SliceF F' h 1 encI va_Members a_Members) ∧ (SliceF F' h 1 encI va_Services a_Services) ∧ (SliceF F' h 1 enc8 vmoves moves) ∧ law34_RepairPlays_j4 Q i_1 K_1 l_3 x_0_1 x_1_1 b_8) ?_ ?_
      ·
       refine HW.region ?_
       refine oV (.agg #[.int .i64 t_0_1, vt_1_1]) (q_loadAgg (cs := [.int .i64 t_0_1, vt_1_1]) ta_31 rfl rfl (Blk.cells (k := 2) (hS.box 3 rfl) rfl)) rfl ?_
       refine oM (.int .i64 r3_1) rfl rfl ?_
       replace hS : St F_46 (Ow.own 52 2 eB vt_1_1 t_1_1 :: Ow.own 3 1 encI vr1_1 r1_1 :: Ow.own 3 1 encI vr2_1 r2_1 :: Ow.own 3 1 encI vr_1 r_2 :: Ow.box b_3 31 #[.int .i64 t_0_1, vt_1_1] :: Ow.own 3 1 encI v_2 l_3 :: Ow.box b_5 31 #[.int .i64 x_0_1, vx_1_1] :: Ow.own 52 2 eB vx_1_1 x_1_1 :: Ow.own 3 1 encI vpath_1 path_1 :: fr) h_35 := hS.perm2 [4, 0, 1, 2, 3, 5, 6, 7, 8] 9 rfl rfl
       have hZ_29 := hS
       have hkz_29 := (hS.freeze).2
       replace hS := hS.freeze.1
       have hL_29 : SliceF (fun bz_ => F_46 bz_ ∨ (Ow.own 52 2 eB vt_1_1 t_1_1).foot bz_) h_35 2 eB vt_1_1 t_1_1 := ⟨(hZ_29.own 0 rfl).slice, fun _ b hb => .inr hb⟩
       refine HO.call (wn) rfl (ec en_21 rfl rfl) (ref34_Star_walk (fr := (Ow.own 3 1 encI vr1_1 r1_1 :: Ow.own 3 1 encI vr2_1 r2_1 :: Ow.own 3 1 encI vr_1 r_2 :: Ow.box b_3 31 #[.int .i64 t_0_1, vt_1_1] :: Ow.own 3 1 encI v_2 l_3 :: Ow.box b_5 31 #[.int .i64 x_0_1, vx_1_1] :: Ow.own 52 2 eB vx_1_1 x_1_1 :: Ow.own 3 1 encI vpath_1 path_1 :: fr)) t_0_1 t_1_1 r3_1 vt_1_1 hS hL_29 hM) ?_
       rintro _ h_36 ⟨F_47, r_15, rfl, hk, hS, _, hM⟩
       obtain ⟨hS, hk⟩ := hZ_29.back hk hS
       generalize (fun bz_ => F_47 bz_ ∧ ¬ (Ow.own 52 2 eB vt_1_1 t_1_1).foot bz_) = F_48 at hS hk
       replace hK := hK.trans hk
       replace hLaM := hLaM.kp hk
       replace hLaS := hLaS.kp hk
       replace hLmv := hLmv.kp hk
       refine oV (.bool (!r_15)) (q_not rfl) rfl ?_
       refine oM (.bool (!r_15)) rfl rfl ?_
       rcases Bool.eq_false_or_eq_true (!r_15) with c_9 | c_9
       ·
        replace hM := hM.1 c_9
        refine HO.val (v := .agg #[.int .i64 x_0_1, vx_1_1]) (wby rfl rfl c_9) rfl (q_loadAgg (cs := [.int .i64 x_0_1, vx_1_1]) ta_31 rfl rfl (Blk.cells (k := 2) (hS.box 6 rfl) rfl)) ?_
        refine HO.val (v := .int .i64 r3_1) (wby rfl rfl c_9) rfl (q_move rfl) ?_
        replace hS : St F_48 (Ow.own 52 2 eB vx_1_1 x_1_1 :: Ow.own 52 2 eB vt_1_1 t_1_1 :: Ow.own 3 1 encI vr1_1 r1_1 :: Ow.own 3 1 encI vr2_1 r2_1 :: Ow.own 3 1 encI vr_1 r_2 :: Ow.box b_3 31 #[.int .i64 t_0_1, vt_1_1] :: Ow.own 3 1 encI v_2 l_3 :: Ow.box b_5 31 #[.int .i64 x_0_1, vx_1_1] :: Ow.own 3 1 encI vpath_1 path_1 :: fr) h_36 := hS.perm2 [7, 0, 1, 2, 3, 4, 5, 6, 8] 9 rfl rfl
        have hZ_30 := hS
        have hkz_30 := (hS.freeze).2
        replace hS := hS.freeze.1
        have hL_30 : SliceF (fun bz_ => F_48 bz_ ∨ (Ow.own 52 2 eB vx_1_1 x_1_1).foot bz_) h_36 2 eB vx_1_1 x_1_1 := ⟨(hZ_30.own 0 rfl).slice, fun _ b hb => .inr hb⟩
        refine HO.call (wby rfl rfl c_9) rfl (ec en_21 rfl rfl) (ref34_Star_walk (fr := (Ow.own 52 2 eB vt_1_1 t_1_1 :: Ow.own 3 1 encI vr1_1 r1_1 :: Ow.own 3 1 encI vr2_1 r2_1 :: Ow.own 3 1 encI vr_1 r_2 :: Ow.box b_3 31 #[.int .i64 t_0_1, vt_1_1] :: Ow.own 3 1 encI v_2 l_3 :: Ow.box b_5 31 #[.int .i64 x_0_1, vx_1_1] :: Ow.own 3 1 encI vpath_1 path_1 :: fr)) x_0_1 x_1_1 r3_1 vx_1_1 hS hL_30 hM) ?_
        rintro _ h_37 ⟨F_49, r_16, rfl, hk, hS, _, hM⟩
        obtain ⟨hS, hk⟩ := hZ_30.back hk hS
        generalize (fun bz_ => F_49 bz_ ∧ ¬ (Ow.own 52 2 eB vx_1_1 x_1_1).foot bz_) = F_50 at hS hk
        replace hK := hK.trans hk
        replace hLaM := hLaM.kp hk
        replace hLaS := hLaS.kp hk
        replace hLmv := hLmv.kp hk
        refine HO.val (v := .bool (!r_16)) (wby rfl rfl c_9) rfl (q_not rfl) ?_
        refine oV (.bool (!r_16)) (q_pickK true rfl c_9 rfl) rfl ?_
        refine oM (.bool (!r_16)) rfl rfl ?_
        rcases Bool.eq_false_or_eq_true (!r_16) with c_10 | c_10
        ·
         replace hM := hM.1 c_10
         refine HO.val (v := .agg #[.int .i64 t_0_1, vt_1_1]) (wby rfl rfl c_10) rfl (q_loadAgg (cs := [.int .i64 t_0_1, vt_1_1]) ta_31 rfl rfl (Blk.cells (k := 2) (hS.box 5 rfl) rfl)) ?_
         refine HO.val (v := .agg #[.int .i64 x_0_1, vx_1_1]) (wby rfl rfl c_10) rfl (q_loadAgg (cs := [.int .i64 x_0_1, vx_1_1]) ta_31 rfl rfl (Blk.cells (k := 2) (hS.box 7 rfl) rfl)) ?_
         replace hS : St F_50 (Ow.own 52 2 eB vt_1_1 t_1_1 :: Ow.own 52 2 eB vx_1_1 x_1_1 :: Ow.own 3 1 encI vr1_1 r1_1 :: Ow.own 3 1 encI vr2_1 r2_1 :: Ow.own 3 1 encI vr_1 r_2 :: Ow.box b_3 31 #[.int .i64 t_0_1, vt_1_1] :: Ow.own 3 1 encI v_2 l_3 :: Ow.box b_5 31 #[.int .i64 x_0_1, vx_1_1] :: Ow.own 3 1 encI vpath_1 path_1 :: fr) h_37 := hS.perm2 [1, 0, 2, 3, 4, 5, 6, 7, 8] 9 rfl rfl
         have hZ_31 := hS
         have hkz_31 := (hS.freeze).2
         replace hS := hS.freeze.1
         have hL_31 : SliceF (fun bz_ => F_50 bz_ ∨ (Ow.own 52 2 eB vt_1_1 t_1_1).foot bz_) h_37 2 eB vt_1_1 t_1_1 := ⟨(hZ_31.own 0 rfl).slice, fun _ b hb => .inr hb⟩
         replace hS : St (fun bz_ => F_50 bz_ ∨ (Ow.own 52 2 eB vt_1_1 t_1_1).foot bz_) (Ow.own 52 2 eB vx_1_1 x_1_1 :: Ow.own 3 1 encI vr1_1 r1_1 :: Ow.own 3 1 encI vr2_1 r2_1 :: Ow.own 3 1 encI vr_1 r_2 :: Ow.box b_3 31 #[.int .i64 t_0_1, vt_1_1] :: Ow.own 3 1 encI v_2 l_3 :: Ow.box b_5 31 #[.int .i64 x_0_1, vx_1_1] :: Ow.own 3 1 encI vpath_1 path_1 :: fr) h_37 := hS
         have hZ_32 := hS
         have hkz_32 := (hS.freeze).2
         replace hS := hS.freeze.1
         have hL_32 : SliceF (fun bz_ => (fun bz_ => F_50 bz_ ∨ (Ow.own 52 2 eB vt_1_1 t_1_1).foot bz_) bz_ ∨ (Ow.own 52 2 eB vx_1_1 x_1_1).foot bz_) h_37 2 eB vx_1_1 x_1_1 := ⟨(hZ_32.own 0 rfl).slice, fun _ b hb => .inr hb⟩
         refine HO.call (wby rfl rfl c_10) rfl (ec en_23 rfl rfl) (ref32_Changed_walk (fr := (Ow.own 3 1 encI vr1_1 r1_1 :: Ow.own 3 1 encI vr2_1 r2_1 :: Ow.own 3 1 encI vr_1 r_2 :: Ow.box b_3 31 #[.int .i64 t_0_1, vt_1_1] :: Ow.own 3 1 encI v_2 l_3 :: Ow.box b_5 31 #[.int .i64 x_0_1, vx_1_1] :: Ow.own 3 1 encI vpath_1 path_1 :: fr)) t_0_1 t_1_1 x_0_1 x_1_1 vt_1_1 vx_1_1 hS (hL_31.kp hkz_32) hL_32 hM) ?_
         rintro vr_8 h_38 ⟨F_51, r_17, _, rfl, hk, hS, _, _, hM⟩
         obtain ⟨hS, hk⟩ := hZ_32.back hk hS
         obtain ⟨hS, hk⟩ := hZ_31.back hk hS
         generalize (fun bz_ => (fun bz_ => F_51 bz_ ∧ ¬ (Ow.own 52 2 eB vx_1_1 x_1_1).foot bz_) bz_ ∧ ¬ (Ow.own 52 2 eB vt_1_1 t_1_1).foot bz_) = F_52 at hS hk
         replace hK := hK.trans hk
         replace hLaM := hLaM.kp hk
         replace hLaS := hLaS.kp hk
         replace hLmv := hLmv.kp hk
         refine HO.val (v := vpath_1) (wby rfl rfl c_10) rfl (q_move rfl) ?_
         replace hS : St F_52 (Ow.own 3 1 encI vr_8 r_17 :: Ow.own 52 2 eB vt_1_1 t_1_1 :: Ow.own 52 2 eB vx_1_1 x_1_1 :: Ow.own 3 1 encI vr1_1 r1_1 :: Ow.own 3 1 encI vr2_1 r2_1 :: Ow.own 3 1 encI vr_1 r_2 :: Ow.box b_3 31 #[.int .i64 t_0_1, vt_1_1] :: Ow.own 3 1 encI v_2 l_3 :: Ow.box b_5 31 #[.int .i64 x_0_1, vx_1_1] :: Ow.own 3 1 encI vpath_1 path_1 :: fr) h_38 := hS.perm2 [2, 0, 1, 3, 4, 5, 6, 7, 8, 9] 10 rfl rfl
         have hZ_33 := hS
         have hkz_33 := (hS.freeze).2
         replace hS := hS.freeze.1
         have hL_33 : SliceF (fun bz_ => F_52 bz_ ∨ (Ow.own 3 1 encI vr_8 r_17).foot bz_) h_38 1 encI vr_8 r_17 := ⟨(hZ_33.own 0 rfl).slice, fun _ b hb => .inr hb⟩
         replace hS : St (fun bz_ => F_52 bz_ ∨ (Ow.own 3 1 encI vr_8 r_17).foot bz_) (Ow.own 3 1 encI vpath_1 path_1 :: Ow.own 52 2 eB vt_1_1 t_1_1 :: Ow.own 52 2 eB vx_1_1 x_1_1 :: Ow.own 3 1 encI vr1_1 r1_1 :: Ow.own 3 1 encI vr2_1 r2_1 :: Ow.own 3 1 encI vr_1 r_2 :: Ow.box b_3 31 #[.int .i64 t_0_1, vt_1_1] :: Ow.own 3 1 encI v_2 l_3 :: Ow.box b_5 31 #[.int .i64 x_0_1, vx_1_1] :: fr) h_38 := hS.perm2 [8, 0, 1, 2, 3, 4, 5, 6, 7] 9 rfl rfl
         have hZ_34 := hS
         have hkz_34 := (hS.freeze).2
         replace hS := hS.freeze.1
         have hL_34 : SliceF (fun bz_ => (fun bz_ => F_52 bz_ ∨ (Ow.own 3 1 encI vr_8 r_17).foot bz_) bz_ ∨ (Ow.own 3 1 encI vpath_1 path_1).foot bz_) h_38 1 encI vpath_1 path_1 := ⟨(hZ_34.own 0 rfl).slice, fun _ b hb => .inr hb⟩
         refine HO.call (wby rfl rfl c_10) rfl (ec en_22 rfl rfl) (law34_within_walk (fr := (Ow.own 52 2 eB vt_1_1 t_1_1 :: Ow.own 52 2 eB vx_1_1 x_1_1 :: Ow.own 3 1 encI vr1_1 r1_1 :: Ow.own 3 1 encI vr2_1 r2_1 :: Ow.own 3 1 encI vr_1 r_2 :: Ow.box b_3 31 #[.int .i64 t_0_1, vt_1_1] :: Ow.own 3 1 encI v_2 l_3 :: Ow.box b_5 31 #[.int .i64 x_0_1, vx_1_1] :: fr)) r_17 path_1 vr_8 vpath_1 hS (hL_33.kp hkz_34) hL_34 hM) ?_
         rintro _ h_39 ⟨F_53, r_18, rfl, hk, hS, _, _, hM⟩
         obtain ⟨hS, hk⟩ := hZ_34.back hk hS
         obtain ⟨hS, hk⟩ := hZ_33.back hk hS
         generalize (fun bz_ => (fun bz_ => F_53 bz_ ∧ ¬ (Ow.own 3 1 encI vpath_1 path_1).foot bz_) bz_ ∧ ¬ (Ow.own 3 1 encI vr_8 r_17).foot bz_) = F_54 at hS hk
         replace hK := hK.trans hk
         replace hLaM := hLaM.kp hk
         replace hLaS := hLaS.kp hk
         replace hLmv := hLmv.kp hk
         refine HO.val (v := .bool (!r_18)) (wby rfl rfl c_10) rfl (q_not rfl) ?_
         refine oV (.bool (!r_18)) (q_pickK true rfl c_10 rfl) rfl ?_
         refine HO.nil (tqn (?_))
         replace hS : St F_54 (Ow.own 3 1 encI vr1_1 r1_1 :: Ow.own 3 1 encI vr2_1 r2_1 :: Ow.own 3 1 encI vr_1 r_2 :: Ow.box b_3 31 #[.int .i64 t_0_1, vt_1_1] :: Ow.own 52 2 eB vt_1_1 t_1_1 :: Ow.own 3 1 encI v_2 l_3 :: Ow.box b_5 31 #[.int .i64 x_0_1, vx_1_1] :: Ow.own 52 2 eB vx_1_1 x_1_1 :: fr) h_39 := hS.perm2 [4, 5, 6, 7, 2, 8, 9, 3] 10 rfl rfl
         exact ⟨F_54, !r_18, rfl, rfl, rfl, rfl, rfl, rfl, rfl, rfl, rfl, rfl, rfl, rfl, hK, hS, hLaM, hLaS, hLmv, hM⟩
        ·
         replace hM := hM.2 c_10
         refine HO.past (pby rfl rfl c_10) rfl ?_
         refine HO.past (pby rfl rfl c_10) rfl ?_
         refine HO.past (pby rfl rfl c_10) rfl ?_
         refine HO.past (pby rfl rfl c_10) rfl ?_
         refine HO.past (pby rfl rfl c_10) rfl ?_
         refine HO.past (pby rfl rfl c_10) rfl ?_
         refine oV (.bool false) (q_pickK false rfl c_10 rfl) rfl ?_
         refine HO.nil (tqn (?_))
         replace hS : St F_50 (Ow.own 3 1 encI vr1_1 r1_1 :: Ow.own 3 1 encI vr2_1 r2_1 :: Ow.own 3 1 encI vr_1 r_2 :: Ow.box b_3 31 #[.int .i64 t_0_1, vt_1_1] :: Ow.own 52 2 eB vt_1_1 t_1_1 :: Ow.own 3 1 encI v_2 l_3 :: Ow.box b_5 31 #[.int .i64 x_0_1, vx_1_1] :: Ow.own 52 2 eB vx_1_1 x_1_1 :: fr) h_37 := hS.perm2 [2, 3, 4, 5, 1, 6, 7, 0] 9 rfl rfl
         exact ⟨F_50, false, rfl, rfl, rfl, rfl, rfl, rfl, rfl, rfl, rfl, rfl, rfl, rfl, hK, hS, hLaM, hLaS, hLmv, hM⟩
       ·
        replace hM := hM.2 c_9
        refine HO.past (pby rfl rfl c_9) rfl ?_
        refine HO.past (pby rfl rfl c_9) rfl ?_
        refine HO.past (pby rfl rfl c_9) rfl ?_
        refine HO.past (pby rfl rfl c_9) rfl ?_
        refine oV (.bool false) (q_pickK false rfl c_9 rfl) rfl ?_
        refine oM (.bool false) rfl rfl ?_
        refine HO.past (past_some rfl rfl) rfl ?_
        refine HO.past (past_some rfl rfl) rfl ?_
        refine HO.past (past_some rfl rfl) rfl ?_
        refine HO.past (past_some rfl rfl) rfl ?_
        refine HO.past (past_some rfl rfl) rfl ?_
        refine HO.past (past_some rfl rfl) rfl ?_
        refine oV (.bool false) (q_pick rfl rfl) rfl ?_
        refine HO.nil (tqn (?_))
        replace hS : St F_48 (Ow.own 3 1 encI vr1_1 r1_1 :: Ow.own 3 1 encI vr2_1 r2_1 :: Ow.own 3 1 encI vr_1 r_2 :: Ow.box b_3 31 #[.int .i64 t_0_1, vt_1_1] :: Ow.own 52 2 eB vt_1_1 t_1_1 :: Ow.own 3 1 encI v_2 l_3 :: Ow.box b_5 31 #[.int .i64 x_0_1, vx_1_1] :: Ow.own 52 2 eB vx_1_1 x_1_1 :: fr) h_36 := hS.perm2 [1, 2, 3, 4, 0, 5, 6, 7] 9 rfl rfl
        exact ⟨F_48, false, rfl, rfl, rfl, rfl, rfl, rfl, rfl, rfl, rfl, rfl, rfl, rfl, hK, hS, hLaM, hLaS, hLmv, hM⟩
      ·
       rintro f_5 h_40 ⟨F_55, b_8, e1, e4, e5, e6, e7, e8, e9, e10, e11, e12, e14, e139, hK, hS, hLaM, hLaS, hLmv, hM⟩
       unfold law34_RepairPlays_j4 at hM
       refine HW.fr [(1, vmoves), (4, .bool false), (5, .int .i64 r0_1), (6, vr1_1), (7, vr2_1), (8, .int .i64 r3_1), (9, vr_1), (10, .pointer (some ⟨b_3, 0, none⟩)), (11, v_2), (12, .int .i64 i_1), (14, .pointer (some ⟨b_5, 0, none⟩)), (139, .bool b_8)] ⟨e1, e4, e5, e6, e7, e8, e9, e10, e11, e12, e14, e139, trivial⟩ ?_
       refine HW.cond b_8 rfl (fun c_11 => ?_) (fun c_11 => ?_)
       ·
        replace hM := hM.1 c_11
        refine HW.seq ?_
        refine HW.region ?_
        refine oA (.bool false) rfl rfl ?_
        refine HO.nil (tqn (?_))
        refine HW.ret (thenQ_ret (blockQ_ret (thenQ_ret (thenQ_ret (blockQ_ret (thenQ_ret (?_)))))))
        refine ⟨.inr rfl, .bool false, res1 rfl (rt rfl), ?_⟩
        replace hS : St F_55 (fr) h_40 := hS.perm2 [] 8 rfl rfl
        exact ⟨F_55, false, rfl, hK, hS, hLaM, hLaS, hLmv, hM⟩
       ·
        replace hM := hM.2 c_11
        refine HW.skip (tqn (?_))
        refine HW.region ?_
        refine oV (.agg #[.int .i64 x_0_1, vx_1_1]) (q_loadAgg (cs := [.int .i64 x_0_1, vx_1_1]) ta_31 rfl rfl (Blk.cells (k := 2) (hS.box 6 rfl) rfl)) rfl ?_
        refine HO.sto (wn) rfl (st_storeAgg (c' := #[.int .i64 x_0_1, vx_1_1]) hS (i := 3) rfl ta_31 rfl rfl rfl (List.forall_mem_cons.2 ⟨rfl, (List.forall_mem_cons.2 ⟨(shp (hS.own 7 rfl).slice).one, (fun _ h => by cases h)⟩)⟩) (Nat.le_of_ble_eq_true rfl) rfl) ?_
        rintro h_41 ⟨hS, hk⟩
        replace hK := hK.trans hk
        replace hLaM := hLaM.kp hk
        replace hLaS := hLaS.kp hk
        replace hLmv := hLmv.kp hk
        refine HO.nil (blockQ_normal (tqn (?_)))
        refine HW.region ?_
        refine oM (.int .i64 i_1) rfl rfl ?_
        obtain ⟨ho_5, hM⟩ := hM
        refine oV (.int .i64 (i_1 + 1)) (q_addN _ rfl rfl rfl ho_5.1 ho_5.2) rfl ?_
        refine oA (.int .i64 (i_1 + 1)) rfl rfl ?_
        refine HO.nil (tqn (?_))
        replace hS : St F_55 (Ow.own 3 1 encI vr1_1 r1_1 :: Ow.own 3 1 encI vr2_1 r2_1 :: Ow.own 3 1 encI vr_1 r_2 :: Ow.box b_3 31 #[.int .i64 x_0_1, vx_1_1] :: Ow.own 52 2 eB vx_1_1 x_1_1 :: Ow.own 3 1 encI v_2 l_3 :: fr) h_41 := hS.perm2 [0, 1, 2, 3, 7, 5] 8 rfl rfl
        rw [hKe_1] at hM
        exact ⟨(x_0_1, x_1_1, l_3, i_1 + 1), ⟨F_55, vx_1_1, v_2, rfl, rfl, rfl, rfl, rfl, rfl, rfl, rfl, rfl, rfl, hK, hS, hLaM, hLaS, hLmv, hM.1⟩, hM.2⟩
  ·
   replace hM := hM.2 c_3
   refine HW.exit (thenQ_exit (thenQ_exit (blockQ_exit (tqn (?_)))))
   refine HW.seq ?_
   refine HW.region ?_
   refine HO.call (wn) rfl (ec en_24 rfl rfl) (law34_lives_walk (fr := (Ow.own 3 1 encI vr1_1 r1_1 :: Ow.own 3 1 encI vr2_1 r2_1 :: Ow.own 3 1 encI vr_1 r_2 :: Ow.box b_3 31 #[.int .i64 t_0_1, vt_1_1] :: Ow.own 52 2 eB vt_1_1 t_1_1 :: Ow.own 3 1 encI v_1 l_1 :: fr))  hS hD hM) ?_
   rintro _ h_42 ⟨F_56, r_19, rfl, hk, hS, hM⟩
   replace hK := hK.trans hk
   replace hLaM := hLaM.kp hk
   replace hLaS := hLaS.kp hk
   replace hLmv := hLmv.kp hk
   refine oA (.bool r_19) rfl rfl ?_
   refine HO.nil (tqn (?_))
   refine HW.ret (?_)
   refine ⟨.inr rfl, .bool r_19, res1 rfl (rt rfl), ?_⟩
   replace hS : St F_56 (fr) h_42 := hS.perm2 [] 6 rfl rfl
   exact ⟨F_56, r_19, rfl, hK, hS, hLaM, hLaS, hLmv, hM⟩
end Go.Wk
