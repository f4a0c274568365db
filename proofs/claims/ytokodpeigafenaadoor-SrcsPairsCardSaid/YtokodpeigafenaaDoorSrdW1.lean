/- Walks and mirrors of Srcs laws. -/
import Derived.Test.YtokodpeigafenaaDoorTxt
import Derived.Test.YtokodpeigafenaaDoorLayD
import Derived.Test.YtokodpeigafenaaDoorProg
set_option linter.unusedSimpArgs false
set_option linter.unusedVariables false
set_option linter.unusedSectionVars false
namespace Go.Wk
open Go.HL
open Go.Proofs hiding encI
variable [DM]
abbrev T_api_Addr := Bool × Ba 16
def e_api_Addr (x : T_api_Addr) : List Value := [.bool x.1, .int .u8 (b8 x.2 0), .int .u8 (b8 x.2 1), .int .u8 (b8 x.2 2), .int .u8 (b8 x.2 3), .int .u8 (b8 x.2 4), .int .u8 (b8 x.2 5), .int .u8 (b8 x.2 6), .int .u8 (b8 x.2 7), .int .u8 (b8 x.2 8), .int .u8 (b8 x.2 9), .int .u8 (b8 x.2 10), .int .u8 (b8 x.2 11), .int .u8 (b8 x.2 12), .int .u8 (b8 x.2 13), .int .u8 (b8 x.2 14), .int .u8 (b8 x.2 15)]
theorem one_e_api_Addr (x : T_api_Addr) : ∀ v ∈ e_api_Addr x, v.oneCell' = true := by intro v hv; simp [e_api_Addr] at hv; rcases hv with rfl | rfl | rfl | rfl | rfl | rfl | rfl | rfl | rfl | rfl | rfl | rfl | rfl | rfl | rfl | rfl | rfl <;> rfl
theorem tz_27 : TZero Tryd.prog 27 (.agg #[.bool false, .int .u8 0, .int .u8 0, .int .u8 0, .int .u8 0, .int .u8 0, .int .u8 0, .int .u8 0, .int .u8 0, .int .u8 0, .int .u8 0, .int .u8 0, .int .u8 0, .int .u8 0, .int .u8 0, .int .u8 0, .int .u8 0]) := Tryd.zeroValue27
theorem ts_22 : TSlice Tryd.prog 22 27 17 := ⟨Tryd.underlying22, Tryd.sizeOf27⟩
theorem tl_22 : TLit Tryd.prog 22 27 17 #[.bool false, .int .u8 0, .int .u8 0, .int .u8 0, .int .u8 0, .int .u8 0, .int .u8 0, .int .u8 0, .int .u8 0, .int .u8 0, .int .u8 0, .int .u8 0, .int .u8 0, .int .u8 0, .int .u8 0, .int .u8 0, .int .u8 0] := tlit ts_22 tz_27 rfl
theorem ta_27 : TAgg Tryd.prog 27 17 := ⟨Tryd.isAgg27, Tryd.sizeOf27⟩
theorem te_22 : TElem Tryd.prog 22 27 17 17 := ⟨Tryd.underlying22, ⟨Tryd.t27, .agg #[.bool false, .int .u8 0, .int .u8 0, .int .u8 0, .int .u8 0, .int .u8 0, .int .u8 0, .int .u8 0, .int .u8 0, .int .u8 0, .int .u8 0, .int .u8 0, .int .u8 0, .int .u8 0, .int .u8 0, .int .u8 0, .int .u8 0], by kernel_rfl, by kernel_rfl, by kernel_rfl, by kernel_rfl, by kernel_rfl⟩, by decide⟩
theorem mixed : Tryd.prog.follows .mixedOrders = true := by kernel_rfl
theorem to_5 : TOne Tryd.prog 5 := ⟨Tryd.isAgg5, Tryd.sizeOf5⟩
theorem tr_25 : TArr Tryd.prog 25 16 5 := ⟨Tryd.underlying25, to_5, Tryd.underlying5, ⟨Tryd.t5, by kernel_rfl⟩, by kernel_rfl⟩
theorem teq_25 (d : Nat) (a b : Ba 16) (w : World) : (Op.equalIn (d + 2) 25 (.agg (arrCells a).toArray) (.agg (arrCells b).toArray)).run Tryd.prog w = .ok (decide (a = b)) w := teqArr tr_25 d a b w
set_option maxRecDepth 100000 in
theorem teq_27 (d : Nat) (a b : T_api_Addr) (w : World) : (Op.equalIn (d + 3) 27 (.agg (e_api_Addr a).toArray) (.agg (e_api_Addr b).toArray)).run Tryd.prog w = .ok (decide (a = b)) w := by
  refine (eqs w (d + 2) 27 _ _ Tryd.underlying27 (by kernel_rfl) (eqf_cons w (a := .bool a.1) (b := .bool b.1) (by decide) (by kernel_rfl) (by kernel_rfl) (run_equalIn_bool' w _ _ _ _ Tryd.underlying4) (eqf_cons w (a := .agg (arrCells a.2).toArray) (b := .agg (arrCells b.2).toArray) (by decide) (by kernel_rfl) (by kernel_rfl) (teq_25 (d + 0) _ _ w) (eqf_nil w)))).trans ?_
  congr 1; rw [Bool.eq_iff_iff]; simp [Prod.ext_iff]
theorem fa_27_0 : FieldAt Tryd.prog 27 0 0 := fun a w => by kernel_rfl
theorem to_4 : TOne Tryd.prog 4 := ⟨Tryd.isAgg4, Tryd.sizeOf4⟩
theorem fa_27_1 : FieldAt Tryd.prog 27 1 1 := fun a w => by kernel_rfl
theorem en_38 (args : Array Value) (w : World) : (callFunc 38 args).run Tryd.prog w = .ok (.enter 38 args) w := by kernel_rfl
theorem en_68 (args : Array Value) (w : World) : (callFunc 68 args).run Tryd.prog w = .ok (.enter 68 args) w := by kernel_rfl
theorem en_69 (args : Array Value) (w : World) : (callFunc 69 args).run Tryd.prog w = .ok (.enter 69 args) w := by kernel_rfl
theorem en_53 (args : Array Value) (w : World) : (callFunc 53 args).run Tryd.prog w = .ok (.enter 53 args) w := by kernel_rfl
theorem en_70 (args : Array Value) (w : World) : (callFunc 70 args).run Tryd.prog w = .ok (.enter 70 args) w := by kernel_rfl
theorem tz_25 : TZero Tryd.prog 25 (.agg #[.int .u8 0, .int .u8 0, .int .u8 0, .int .u8 0, .int .u8 0, .int .u8 0, .int .u8 0, .int .u8 0, .int .u8 0, .int .u8 0, .int .u8 0, .int .u8 0, .int .u8 0, .int .u8 0, .int .u8 0, .int .u8 0]) := Tryd.zeroValue25
theorem tb_25 : TBuildA Tryd.prog 25 #[.int .u8 0, .int .u8 0, .int .u8 0, .int .u8 0, .int .u8 0, .int .u8 0, .int .u8 0, .int .u8 0, .int .u8 0, .int .u8 0, .int .u8 0, .int .u8 0, .int .u8 0, .int .u8 0, .int .u8 0, .int .u8 0] := tbuildA tr_25 tz_25 rfl
theorem tp_27 : TPlaces Tryd.prog 27 #[(0, 1), (1, 16)] #[.bool false, .int .u8 0, .int .u8 0, .int .u8 0, .int .u8 0, .int .u8 0, .int .u8 0, .int .u8 0, .int .u8 0, .int .u8 0, .int .u8 0, .int .u8 0, .int .u8 0, .int .u8 0, .int .u8 0, .int .u8 0, .int .u8 0] := tplaces Tryd.runUnderlying27 Tryd.zeroValue27 rfl (fun w => by kernel_rfl)
theorem en_71 (args : Array Value) (w : World) : (callFunc 71 args).run Tryd.prog w = .ok (.enter 71 args) w := by kernel_rfl
theorem en_57 (args : Array Value) (w : World) : (callFunc 57 args).run Tryd.prog w = .ok (.enter 57 args) w := by kernel_rfl
theorem ts_96 : TSlice Tryd.prog 96 5 1 := ⟨Tryd.underlying96, Tryd.sizeOf5⟩
theorem en_75 (args : Array Value) (w : World) : (callFunc 75 args).run Tryd.prog w = .ok (.enter 75 args) w := by kernel_rfl
theorem en_74 (args : Array Value) (w : World) : (callFunc 74 args).run Tryd.prog w = .ok (.enter 74 args) w := by kernel_rfl
theorem en_48 (args : Array Value) (w : World) : (callFunc 48 args).run Tryd.prog w = .ok (.enter 48 args) w := by kernel_rfl
theorem en_56 (args : Array Value) (w : World) : (callFunc 56 args).run Tryd.prog w = .ok (.enter 56 args) w := by kernel_rfl
theorem en_55 (args : Array Value) (w : World) : (callFunc 55 args).run Tryd.prog w = .ok (.enter 55 args) w := by kernel_rfl
theorem en_59 (args : Array Value) (w : World) : (callFunc 59 args).run Tryd.prog w = .ok (.enter 59 args) w := by kernel_rfl
theorem en_58 (args : Array Value) (w : World) : (callFunc 58 args).run Tryd.prog w = .ok (.enter 58 args) w := by kernel_rfl
theorem en_60 (args : Array Value) (w : World) : (callFunc 60 args).run Tryd.prog w = .ok (.enter 60 args) w := by kernel_rfl
theorem en_61 (args : Array Value) (w : World) : (callFunc 61 args).run Tryd.prog w = .ok (.enter 61 args) w := by kernel_rfl
theorem en_108 (args : Array Value) (w : World) : (callFunc 108 args).run Tryd.prog w = .ok (.enter 108 args) w := by kernel_rfl
theorem en_90 (args : Array Value) (w : World) : (callFunc 90 args).run Tryd.prog w = .ok (.enter 90 args) w := by kernel_rfl
theorem en_102 (args : Array Value) (w : World) : (callFunc 102 args).run Tryd.prog w = .ok (.enter 102 args) w := by kernel_rfl
theorem tz_9 : TZero Tryd.prog 9 (.string (bs [])) := Tryd.zeroValue9
theorem ts_97 : TSlice Tryd.prog 97 9 1 := ⟨Tryd.underlying97, Tryd.sizeOf9⟩
theorem tl_97 : TLit Tryd.prog 97 9 1 #[.string (bs [])] := tlit ts_97 tz_9 rfl
theorem te_97 : TElem Tryd.prog 97 9 1 16 := ⟨Tryd.underlying97, ⟨Tryd.t9, .string (bs []), by kernel_rfl, by kernel_rfl, by kernel_rfl, by kernel_rfl, by kernel_rfl⟩, by decide⟩
theorem en_103 (args : Array Value) (w : World) : (callFunc 103 args).run Tryd.prog w = .ok (.enter 103 args) w := by kernel_rfl
theorem en_104 (args : Array Value) (w : World) : (callFunc 104 args).run Tryd.prog w = .ok (.enter 104 args) w := by kernel_rfl
theorem en_97 (args : Array Value) (w : World) : (callFunc 97 args).run Tryd.prog w = .ok (.enter 97 args) w := by kernel_rfl
theorem en_89 (args : Array Value) (w : World) : (callFunc 89 args).run Tryd.prog w = .ok (.enter 89 args) w := by kernel_rfl
theorem en_76 (args : Array Value) (w : World) : (callFunc 76 args).run Tryd.prog w = .ok (.enter 76 args) w := by kernel_rfl
theorem en_62 (args : Array Value) (w : World) : (callFunc 62 args).run Tryd.prog w = .ok (.enter 62 args) w := by kernel_rfl
theorem en_35 (args : Array Value) (w : World) : (callFunc 35 args).run Tryd.prog w = .ok (.enter 35 args) w := by kernel_rfl
theorem en_37 (args : Array Value) (w : World) : (callFunc 37 args).run Tryd.prog w = .ok (.enter 37 args) w := by kernel_rfl
theorem en_63 (args : Array Value) (w : World) : (callFunc 63 args).run Tryd.prog w = .ok (.enter 63 args) w := by kernel_rfl
theorem en_25 (args : Array Value) (w : World) : (callFunc 25 args).run Tryd.prog w = .ok (.enter 25 args) w := by kernel_rfl
theorem en_28 (args : Array Value) (w : World) : (callFunc 28 args).run Tryd.prog w = .ok (.enter 28 args) w := by kernel_rfl
theorem en_27 (args : Array Value) (w : World) : (callFunc 27 args).run Tryd.prog w = .ok (.enter 27 args) w := by kernel_rfl
theorem en_36 (args : Array Value) (w : World) : (callFunc 36 args).run Tryd.prog w = .ok (.enter 36 args) w := by kernel_rfl
theorem en_39 (args : Array Value) (w : World) : (callFunc 39 args).run Tryd.prog w = .ok (.enter 39 args) w := by kernel_rfl
theorem to_22 : TOne Tryd.prog 22 := ⟨Tryd.isAgg22, Tryd.sizeOf22⟩
theorem tz_22 : TZero Tryd.prog 22 (.slice none 0 0) := Tryd.zeroValue22
theorem en_77 (args : Array Value) (w : World) : (callFunc 77 args).run Tryd.prog w = .ok (.enter 77 args) w := by kernel_rfl
theorem en_64 (args : Array Value) (w : World) : (callFunc 64 args).run Tryd.prog w = .ok (.enter 64 args) w := by kernel_rfl
theorem en_65 (args : Array Value) (w : World) : (callFunc 65 args).run Tryd.prog w = .ok (.enter 65 args) w := by kernel_rfl
theorem en_66 (args : Array Value) (w : World) : (callFunc 66 args).run Tryd.prog w = .ok (.enter 66 args) w := by kernel_rfl
theorem en_40 (args : Array Value) (w : World) : (callFunc 40 args).run Tryd.prog w = .ok (.enter 40 args) w := by kernel_rfl
theorem en_41 (args : Array Value) (w : World) : (callFunc 41 args).run Tryd.prog w = .ok (.enter 41 args) w := by kernel_rfl
theorem en_42 (args : Array Value) (w : World) : (callFunc 42 args).run Tryd.prog w = .ok (.enter 42 args) w := by kernel_rfl
theorem en_43 (args : Array Value) (w : World) : (callFunc 43 args).run Tryd.prog w = .ok (.enter 43 args) w := by kernel_rfl
theorem en_44 (args : Array Value) (w : World) : (callFunc 44 args).run Tryd.prog w = .ok (.enter 44 args) w := by kernel_rfl
theorem en_45 (args : Array Value) (w : World) : (callFunc 45 args).run Tryd.prog w = .ok (.enter 45 args) w := by kernel_rfl
theorem en_46 (args : Array Value) (w : World) : (callFunc 46 args).run Tryd.prog w = .ok (.enter 46 args) w := by kernel_rfl
def law08_Addrs_j1 (l : List T_api_Addr) (Q : (List T_api_Addr) → Prop) (out_1 : List T_api_Addr) (i_1 : Int) (K_1 : (List T_api_Addr) → Int → Prop) (b_2 : Bool) : Prop :=
  (b_2 = true → ((0 : Int) ≤ i_1 ∧ i_1 < (l.length : Int)) ∧ (((out_1.length + ([(gi l i_1)] : List T_api_Addr).length) * 17 ≤ 140737488355328) ∧ ((I64 (i_1 + 1)) ∧ (K_1 (out_1 ++ ([(gi l i_1)] : List T_api_Addr)) (i_1 + 1))))) ∧ (b_2 = false → Q out_1)
def law08_Addrs_l1 (l : List T_api_Addr) (most : Int) (Q : (List T_api_Addr) → Prop) (K_1 : (List T_api_Addr) → Int → Prop) (out_1 : List T_api_Addr) (i_1 : Int) : Prop :=
  (i_1 < (l.length : Int) → law08_Addrs_j1 l Q out_1 i_1 K_1 (decide (i_1 < most))) ∧ (¬ (i_1 < (l.length : Int)) → law08_Addrs_j1 l Q out_1 i_1 K_1 false)
def law08_Addrs_W (l : List T_api_Addr) (most : Int) (Q : (List T_api_Addr) → Prop) : Prop :=
  loopW (fun (K_1 : (List T_api_Addr × Int) → Prop) (s : List T_api_Addr × Int) => law08_Addrs_l1 l most Q (fun out_1 i_1 => K_1 (out_1, i_1)) s.1 s.2) ([], 0)
set_option maxHeartbeats 40000000 in
set_option maxRecDepth 100000 in
theorem law08_Addrs_walk {F : Fz} {fr : List Ow} {h0 : Heap} (l : List T_api_Addr) (most : Int) (vl : Value) (hS : St F (fr) h0) (hL_l : SliceF F h0 17 e_api_Addr vl l) {Q : (List T_api_Addr) → Prop} (hM : law08_Addrs_W l most Q) :
    HC Tryd.prog 25 #[vl, .int .i64 most] h0 fun u h' => ∃ (F' : Fz) (r_1 : List T_api_Addr) (vr_1 : Value), u = vr_1 ∧ Kp F h0 F' h' ∧ St F' (Ow.own 27 17 e_api_Addr vr_1 r_1 :: fr) h' ∧ (SliceF F' h' 17 e_api_Addr vl l) ∧ Q r_1 := by
  unfold law08_Addrs_W at hM
  have hK := Kp.refl F h0
  refine HC.of_HW (n := 27) Tryd.func25 rfl rfl (Nat.le_of_ble_eq_true rfl) ?_
  refine HW.seq ?_
  refine HW.region ?_
  refine HO.val (v := .slice none 0 0) (want_none) rfl (q_assign rfl) ?_
  refine HO.nil (thenQ_normal (?_))
  refine HW.seq ?_
  refine HW.region ?_
  refine HO.eff (want_none) rfl (st_litEmpty (α := T_api_Addr) e_api_Addr hS tl_22) ?_
  rintro _ h_1 ⟨b_1, rfl, hS, hk⟩
  replace hK := hK.trans hk
  replace hL_l := hL_l.kp hk
  refine HO.val (v := .slice (some ⟨b_1, 0, none⟩) 0 0) (want_none) rfl (q_assign rfl) ?_
  refine HO.nil (thenQ_normal (?_))
  refine HW.seq ?_
  refine HW.seq ?_
  refine HW.region ?_
  refine HO.val (v := .int .i64 0) (want_none) rfl (q_assign rfl) ?_
  refine HO.nil (thenQ_normal (?_))
  refine HW.block ?_
  obtain ⟨I_1, m_1, hI_1, hR_1⟩ := hM
  refine HW.loop (S := List T_api_Addr × Int) (fun s f h => match s with | (out_1, i_1) => ∃ (F' : Fz) (vout_1 : Value), f 0 = vl ∧ f 1 = .int .i64 most ∧ f 4 = .slice none 0 0 ∧ f 5 = vout_1 ∧ f 6 = .int .i64 i_1 ∧ Kp F h0 F' h ∧ St F' (Ow.own 27 17 e_api_Addr vout_1 out_1 :: fr) h ∧ (SliceF F' h 17 e_api_Addr vl l) ∧ I_1 (out_1, i_1)) m_1 ([], 0) ⟨F, .slice (some ⟨b_1, 0, none⟩) 0 0, rfl, rfl, rfl, rfl, rfl, hK, hS, hL_l, hI_1⟩ ?_
  rintro ⟨out_1, i_1⟩ f_1 h_2 ⟨F_1, vout_1, e0, e1, e4, e5, e6, hK, hS, hL_l, hI0⟩
  obtain ⟨K_1, hKe_1⟩ : ∃ K : (List T_api_Addr) → Int → Prop, K = fun out_1' i_1' => I_1 (out_1', i_1') ∧ m_1 (out_1', i_1') < m_1 (out_1, i_1) := ⟨_, rfl⟩
  have hM : law08_Addrs_l1 l most Q K_1 out_1 i_1 := by rw [hKe_1]; exact hR_1 (out_1, i_1) hI0
  unfold law08_Addrs_l1 at hM
  refine HW.fr [(0, vl), (1, .int .i64 most), (4, .slice none 0 0), (5, vout_1), (6, .int .i64 i_1)] ⟨e0, e1, e4, e5, e6, trivial⟩ ?_
  refine HW.seq ?_
  refine HW.seq_mid (fun f h => ∃ (F' : Fz) (b_2 : Bool), f 0 = vl ∧ f 1 = .int .i64 most ∧ f 4 = .slice none 0 0 ∧ f 5 = vout_1 ∧ f 6 = .int .i64 i_1 ∧ f 16 = .bool b_2 ∧ Kp F h0 F' h ∧ St F' (Ow.own 27 17 e_api_Addr vout_1 out_1 :: fr) h ∧ (SliceF F' h 17 e_api_Addr vl l) ∧ law08_Addrs_j1 l Q out_1 i_1 K_1 b_2) ?_ ?_
  · refine HW.region ?_
    refine HO.val (v := .int .i64 i_1) (want_none) rfl (q_move rfl) ?_
    refine HO.val (v := vl) (want_none) rfl (q_move rfl) ?_
    refine HO.val (v := .int .i64 (l.length : Int)) (want_none) rfl (q_len ts_22 (shp hL_l.is) rfl rfl) ?_
    refine HO.val (v := .bool (decide (i_1 < (l.length : Int)))) (want_none) rfl (q_lss rfl rfl) ?_
    refine HO.val (v := .bool (decide (i_1 < (l.length : Int)))) (want_none) rfl (q_move rfl) ?_
    rcases Bool.eq_false_or_eq_true (decide (i_1 < (l.length : Int))) with c_1 | c_1
    · replace hM := hM.1 (of_decide_eq_true c_1)
      refine HO.val (v := .int .i64 i_1) (want_by rfl rfl c_1) rfl (q_move rfl) ?_
      refine HO.val (v := .int .i64 most) (want_by rfl rfl c_1) rfl (q_move rfl) ?_
      refine HO.val (v := .bool (decide (i_1 < most))) (want_by rfl rfl c_1) rfl (q_lss rfl rfl) ?_
      refine HO.val (v := .bool (decide (i_1 < most))) (want_none) rfl (q_pickK true rfl c_1 rfl) ?_
      refine HO.nil (thenQ_normal (?_))
      exact ⟨F_1, decide (i_1 < most), rfl, rfl, rfl, rfl, rfl, rfl, hK, hS, hL_l, hM⟩
    · replace hM := hM.2 (of_decide_eq_false c_1)
      refine HO.past (past_by rfl rfl c_1) rfl ?_
      refine HO.past (past_by rfl rfl c_1) rfl ?_
      refine HO.past (past_by rfl rfl c_1) rfl ?_
      refine HO.val (v := .bool false) (want_none) rfl (q_pickK false rfl c_1 rfl) ?_
      refine HO.nil (thenQ_normal (?_))
      exact ⟨F_1, false, rfl, rfl, rfl, rfl, rfl, rfl, hK, hS, hL_l, hM⟩
  · rintro f_2 h_3 ⟨F_2, b_2, e0, e1, e4, e5, e6, e16, hK, hS, hL_l, hM⟩
    unfold law08_Addrs_j1 at hM
    refine HW.fr [(0, vl), (1, .int .i64 most), (4, .slice none 0 0), (5, vout_1), (6, .int .i64 i_1), (16, .bool b_2)] ⟨e0, e1, e4, e5, e6, e16, trivial⟩ ?_
    refine HW.cond b_2 rfl (fun c_2 => ?_) (fun c_2 => ?_)
    · replace hM := hM.1 c_2
      refine HW.skip (thenQ_normal (?_))
      refine HW.seq ?_
      refine HW.block ?_
      refine HW.region ?_
      refine HO.val (v := vout_1) (want_none) rfl (q_move rfl) ?_
      refine HO.val (v := vl) (want_none) rfl (q_move rfl) ?_
      refine HO.val (v := .int .i64 i_1) (want_none) rfl (q_move rfl) ?_
      obtain ⟨ho_1, hM⟩ := hM
      refine HO.val (v := elemPtr 17 vl (i_1).toNat) (want_none) rfl (q_idx ts_22 hL_l.is rfl rfl ho_1) ?_
      refine HO.val (v := .agg (e_api_Addr (gi l i_1)).toArray) (want_none) rfl (q_ldElemAgg (cs := (e_api_Addr (gi l i_1))) ta_27 hL_l.is rfl ho_1 rfl) ?_
      refine HO.eff (want_none) rfl (st_lit (enc := e_api_Addr) (cells := #[.bool ((gi l i_1).1), .int .u8 (b8 ((gi l i_1).2) 0), .int .u8 (b8 ((gi l i_1).2) 1), .int .u8 (b8 ((gi l i_1).2) 2), .int .u8 (b8 ((gi l i_1).2) 3), .int .u8 (b8 ((gi l i_1).2) 4), .int .u8 (b8 ((gi l i_1).2) 5), .int .u8 (b8 ((gi l i_1).2) 6), .int .u8 (b8 ((gi l i_1).2) 7), .int .u8 (b8 ((gi l i_1).2) 8), .int .u8 (b8 ((gi l i_1).2) 9), .int .u8 (b8 ((gi l i_1).2) 10), .int .u8 (b8 ((gi l i_1).2) 11), .int .u8 (b8 ((gi l i_1).2) 12), .int .u8 (b8 ((gi l i_1).2) 13), .int .u8 (b8 ((gi l i_1).2) 14), .int .u8 (b8 ((gi l i_1).2) 15)]) #[.bool false, .int .u8 0, .int .u8 0, .int .u8 0, .int .u8 0, .int .u8 0, .int .u8 0, .int .u8 0, .int .u8 0, .int .u8 0, .int .u8 0, .int .u8 0, .int .u8 0, .int .u8 0, .int .u8 0, .int .u8 0, .int .u8 0] ([(gi l i_1)] : List T_api_Addr) hS tl_22 (by decide) (by decide) (by kernel_rfl) (by kernel_rfl) rfl (by intro x hx; rfl) rfl) ?_
      rintro _ h_4 ⟨b_3, rfl, hS, hk⟩
      replace hK := hK.trans hk
      replace hL_l := hL_l.kp hk
      obtain ⟨ho_2, hM⟩ := hM
      refine HO.eff (want_none) rfl (st_append te_22 hS (i := 1) rfl (hS.own 0 rfl).slice rfl rfl rfl (by intro a _ u hu; simp [e_api_Addr, encI, encN, encB, encT] at hu; rcases hu with rfl | rfl | rfl | rfl | rfl | rfl | rfl | rfl | rfl | rfl | rfl | rfl | rfl | rfl | rfl | rfl | rfl <;> rfl) ho_2 (by omega)) ?_
      rintro v_1 h_5 ⟨hS, hk⟩
      replace hS : St F_2 (Ow.own 27 17 e_api_Addr (.slice (some ⟨b_3, 0, none⟩) 1 1) ([(gi l i_1)] : List T_api_Addr) :: Ow.own 27 17 e_api_Addr v_1 (out_1 ++ ([(gi l i_1)] : List T_api_Addr)) :: fr) h_5 := hS
      replace hK := hK.trans hk
      replace hL_l := hL_l.kp hk
      refine HO.val (v := v_1) (want_none) rfl (q_assign rfl) ?_
      refine HO.nil (blockQ_normal (thenQ_normal (?_)))
      refine HW.region ?_
      refine HO.val (v := .int .i64 i_1) (want_none) rfl (q_move rfl) ?_
      obtain ⟨ho_3, hM⟩ := hM
      refine HO.val (v := .int .i64 (i_1 + 1)) (want_none) rfl (q_addN _ rfl rfl rfl ho_3.1 ho_3.2) ?_
      refine HO.val (v := .int .i64 (i_1 + 1)) (want_none) rfl (q_assign rfl) ?_
      refine HO.nil (thenQ_normal (?_))
      replace hS : St F_2 (Ow.own 27 17 e_api_Addr v_1 (out_1 ++ ([(gi l i_1)] : List T_api_Addr)) :: fr) h_5 := hS.perm2 [1] 2 rfl rfl
      rw [hKe_1] at hM
      exact ⟨(out_1 ++ ([(gi l i_1)] : List T_api_Addr), i_1 + 1), ⟨F_2, v_1, rfl, rfl, rfl, rfl, rfl, hK, hS, hL_l, hM.1⟩, hM.2⟩
    · replace hM := hM.2 c_2
      refine HW.exit (thenQ_exit (thenQ_exit (blockQ_exit (thenQ_normal (?_)))))
      refine HW.seq ?_
      refine HW.region ?_
      refine HO.val (v := vout_1) (want_none) rfl (q_move rfl) ?_
      refine HO.val (v := vout_1) (want_none) rfl (q_assign rfl) ?_
      refine HO.nil (thenQ_normal (?_))
      refine HW.ret (?_)
      refine ⟨.inr rfl, vout_1, res1 rfl (rt rfl), ?_⟩
      exact ⟨F_2, out_1, vout_1, rfl, hK, hS, hL_l, hM⟩

def ref11_Has_l1 (l : List T_api_Addr) (a : T_api_Addr) (Q : Bool → Prop) (K_1 : Int → Prop) (i_1 : Int) : Prop :=
  (i_1 < (l.length : Int) → ((0 : Int) ≤ i_1 ∧ i_1 < (l.length : Int)) ∧ ((((gi l i_1) : T_api_Addr) = a → Q true) ∧ (¬ (((gi l i_1) : T_api_Addr) = a) → (I64 (i_1 + 1)) ∧ (K_1 (i_1 + 1))))) ∧ (¬ (i_1 < (l.length : Int)) → Q false)
def ref11_Has_W (l : List T_api_Addr) (a : T_api_Addr) (Q : Bool → Prop) : Prop :=
  loopW (fun (K_1 : Int → Prop) (s : Int) => ref11_Has_l1 l a Q K_1 s) 0
set_option maxHeartbeats 40000000 in
set_option maxRecDepth 100000 in
theorem ref11_Has_walk {F : Fz} {fr : List Ow} {h0 : Heap} (l : List T_api_Addr) (a : T_api_Addr) (vl : Value) (hS : St F (fr) h0) (hL_l : SliceF F h0 17 e_api_Addr vl l) {Q : Bool → Prop} (hM : ref11_Has_W l a Q) :
    HC Tryd.prog 38 #[vl, .agg (e_api_Addr a).toArray] h0 fun u h' => ∃ (F' : Fz) (r_1 : Bool), u = .bool r_1 ∧ Kp F h0 F' h' ∧ St F' (fr) h' ∧ (SliceF F' h' 17 e_api_Addr vl l) ∧ Q r_1 := by
  unfold ref11_Has_W at hM
  have hK := Kp.refl F h0
  refine HC.of_HW (n := 18) Tryd.func38 rfl rfl (Nat.le_of_ble_eq_true rfl) ?_
  refine HW.seq ?_
  refine HW.region ?_
  refine HO.eff (want_none) rfl (st_box (c := (e_api_Addr a).toArray) (k' := 17) hS rfl rfl) ?_
  rintro _ h_1 ⟨b_1, rfl, hS, hk⟩
  replace hK := hK.trans hk
  replace hL_l := hL_l.kp hk
  refine HO.val (v := .bool false) (want_none) rfl (q_assign rfl) ?_
  refine HO.nil (thenQ_normal (?_))
  refine HW.seq ?_
  refine HW.seq ?_
  refine HW.region ?_
  refine HO.val (v := .int .i64 0) (want_none) rfl (q_assign rfl) ?_
  refine HO.nil (thenQ_normal (?_))
  refine HW.block ?_
  obtain ⟨I_1, m_1, hI_1, hR_1⟩ := hM
  refine HW.loop (S := Int) (fun i_1 f h => ∃ (F' : Fz), f 0 = vl ∧ f 3 = .pointer (some ⟨b_1, 0, none⟩) ∧ f 4 = .bool false ∧ f 5 = .int .i64 i_1 ∧ Kp F h0 F' h ∧ St F' (Ow.box b_1 27 (e_api_Addr a).toArray :: fr) h ∧ (SliceF F' h 17 e_api_Addr vl l) ∧ I_1 i_1) m_1 0 ⟨F, rfl, rfl, rfl, rfl, hK, hS, hL_l, hI_1⟩ ?_
  rintro i_1 f_1 h_2 ⟨F_1, e0, e3, e4, e5, hK, hS, hL_l, hI0⟩
  obtain ⟨K_1, hKe_1⟩ : ∃ K : Int → Prop, K = fun i_1' => I_1 i_1' ∧ m_1 i_1' < m_1 i_1 := ⟨_, rfl⟩
  have hM : ref11_Has_l1 l a Q K_1 i_1 := by rw [hKe_1]; exact hR_1 i_1 hI0
  unfold ref11_Has_l1 at hM
  refine HW.fr [(0, vl), (3, .pointer (some ⟨b_1, 0, none⟩)), (4, .bool false), (5, .int .i64 i_1)] ⟨e0, e3, e4, e5, trivial⟩ ?_
  refine HW.seq ?_
  refine HW.seq ?_
  refine HW.region ?_
  refine HO.val (v := .int .i64 i_1) (want_none) rfl (q_move rfl) ?_
  refine HO.val (v := vl) (want_none) rfl (q_move rfl) ?_
  refine HO.val (v := .int .i64 (l.length : Int)) (want_none) rfl (q_len ts_22 (shp hL_l.is) rfl rfl) ?_
  refine HO.val (v := .bool (decide (i_1 < (l.length : Int)))) (want_none) rfl (q_lss rfl rfl) ?_
  refine HO.nil (thenQ_normal (?_))
  refine HW.cond (decide (i_1 < (l.length : Int))) rfl (fun c_1 => ?_) (fun c_1 => ?_)
  · replace hM := hM.1 (of_decide_eq_true c_1)
    refine HW.skip (thenQ_normal (?_))
    refine HW.seq ?_
    refine HW.block ?_
    refine HW.seq ?_
    refine HW.regionA 6 mixed (fun h => (SliceIs h 17 e_api_Addr vl l) ∧ (Blk h b_1 (.cells (e_api_Addr a).toArray 27 (0, 0)))) [] (by kernel_rfl) ?_
    refine HA.val (k := 0) (v := vl) rfl rfl (by kernel_rfl) (by kernel_rfl) (want_none) rfl (fun _ ⟨hL_l, c302⟩ => q_move rfl) ?_
    refine HA.val (k := 1) (v := .int .i64 i_1) rfl rfl (by kernel_rfl) (by kernel_rfl) (want_none) rfl (fun _ ⟨hL_l, c302⟩ => q_move rfl) ?_
    obtain ⟨ho_1, hM⟩ := hM
    refine HA.val (k := 2) (v := elemPtr 17 vl (i_1).toNat) rfl rfl (by kernel_rfl) (by kernel_rfl) (want_none) rfl (fun _ ⟨hL_l, c302⟩ => q_idx ts_22 hL_l rfl rfl ho_1) ?_
    refine HA.val (k := 3) (v := .agg (e_api_Addr (gi l i_1)).toArray) rfl rfl (by kernel_rfl) (by kernel_rfl) (want_none) rfl (fun _ ⟨hL_l, c302⟩ => q_ldElemAgg (cs := (e_api_Addr (gi l i_1))) ta_27 hL_l rfl ho_1 rfl) ?_
    refine HA.val (k := 4) (v := .agg (e_api_Addr a).toArray) rfl rfl (by kernel_rfl) (by kernel_rfl) (want_none) rfl (fun _ ⟨hL_l, c302⟩ => q_loadAgg (cs := (e_api_Addr a)) ta_27 rfl rfl (Blk.cells (k := 17) c302 rfl)) ?_
    refine HA.val (k := 5) (v := .bool (decide (((gi l i_1) : T_api_Addr) = a))) rfl rfl (by kernel_rfl) (by kernel_rfl) (want_none) rfl (fun _ ⟨hL_l, c302⟩ => q_eqlAgg (a := (gi l i_1)) (b := a) (fun a b w => teq_27 9997 a b w) (by kernel_rfl) rfl rfl rfl rfl) ?_
    refine HA.nil ⟨⟨hL_l.is, (hS.box 0 rfl)⟩, (Go.Wk.at_nil _ _)⟩ (by kernel_rfl) (thenQ_normal (?_))
    refine HW.cond (decide (((gi l i_1) : T_api_Addr) = a)) rfl (fun c_2 => ?_) (fun c_2 => ?_)
    · replace hM := hM.1 (of_decide_eq_true c_2)
      refine HW.seq ?_
      refine HW.region ?_
      refine HO.val (v := .bool true) (want_none) rfl (q_assign rfl) ?_
      refine HO.nil (thenQ_normal (?_))
      refine HW.ret (blockQ_ret (thenQ_ret (thenQ_ret (blockQ_ret (thenQ_ret (?_))))))
      refine ⟨.inr rfl, .bool true, res1 rfl (rt rfl), ?_⟩
      replace hS : St F_1 (fr) h_2 := hS.perm2 [] 1 rfl rfl
      exact ⟨F_1, true, rfl, hK, hS, hL_l, hM⟩
    · replace hM := hM.2 (of_decide_eq_false c_2)
      refine HW.skip (blockQ_normal (thenQ_normal (?_)))
      refine HW.region ?_
      refine HO.val (v := .int .i64 i_1) (want_none) rfl (q_move rfl) ?_
      obtain ⟨ho_2, hM⟩ := hM
      refine HO.val (v := .int .i64 (i_1 + 1)) (want_none) rfl (q_addN _ rfl rfl rfl ho_2.1 ho_2.2) ?_
      refine HO.val (v := .int .i64 (i_1 + 1)) (want_none) rfl (q_assign rfl) ?_
      refine HO.nil (thenQ_normal (?_))
      rw [hKe_1] at hM
      exact ⟨i_1 + 1, ⟨F_1, rfl, rfl, rfl, rfl, hK, hS, hL_l, hM.1⟩, hM.2⟩
  · replace hM := hM.2 (of_decide_eq_false c_1)
    refine HW.exit (thenQ_exit (thenQ_exit (blockQ_exit (thenQ_normal (?_)))))
    refine HW.seq ?_
    refine HW.region ?_
    refine HO.val (v := .bool false) (want_none) rfl (q_assign rfl) ?_
    refine HO.nil (thenQ_normal (?_))
    refine HW.ret (?_)
    refine ⟨.inr rfl, .bool false, res1 rfl (rt rfl), ?_⟩
    replace hS : St F_1 (fr) h_2 := hS.perm2 [] 1 rfl rfl
    exact ⟨F_1, false, rfl, hK, hS, hL_l, hM⟩

def ref03_Good_l1 (a : T_api_Addr) (Q : Bool → Prop) (K_1 : Int → Prop) (i_1 : Int) : Prop :=
  (i_1 < 16 → ((!a.1) = true → ((0 : Int) ≤ i_1 ∧ i_1 < 16) ∧ ((¬ ((b8 a.2 i_1) = 0) → Q false) ∧ ((b8 a.2 i_1) = 0 → (I64 (i_1 + 1)) ∧ (K_1 (i_1 + 1))))) ∧ ((!a.1) = false → (I64 (i_1 + 1)) ∧ (K_1 (i_1 + 1)))) ∧ (¬ (i_1 < 16) → Q true)
def ref03_Good_W (a : T_api_Addr) (Q : Bool → Prop) : Prop :=
  loopW (fun (K_1 : Int → Prop) (s : Int) => ref03_Good_l1 a Q K_1 s) 4
set_option maxHeartbeats 40000000 in
set_option maxRecDepth 100000 in
theorem ref03_Good_walk {F : Fz} {fr : List Ow} {h0 : Heap} (a : T_api_Addr) (hS : St F (fr) h0)  {Q : Bool → Prop} (hM : ref03_Good_W a Q) :
    HC Tryd.prog 68 #[.agg (e_api_Addr a).toArray] h0 fun u h' => ∃ (F' : Fz) (r_1 : Bool), u = .bool r_1 ∧ Kp F h0 F' h' ∧ St F' (fr) h' ∧ Q r_1 := by
  unfold ref03_Good_W at hM
  have hK := Kp.refl F h0
  refine HC.of_HW (n := 18) Tryd.func68 rfl rfl (Nat.le_of_ble_eq_true rfl) ?_
  refine HW.seq ?_
  refine HW.region ?_
  refine HO.eff (want_none) rfl (st_box (c := (e_api_Addr a).toArray) (k' := 17) hS rfl rfl) ?_
  rintro _ h_1 ⟨b_1, rfl, hS, hk⟩
  replace hK := hK.trans hk
  refine HO.val (v := .bool false) (want_none) rfl (q_assign rfl) ?_
  refine HO.nil (thenQ_normal (?_))
  refine HW.seq ?_
  refine HW.seq ?_
  refine HW.region ?_
  refine HO.val (v := .int .i64 4) (want_none) rfl (q_assign rfl) ?_
  refine HO.nil (thenQ_normal (?_))
  refine HW.block ?_
  obtain ⟨I_1, m_1, hI_1, hR_1⟩ := hM
  refine HW.loop (S := Int) (fun i_1 f h => ∃ (F' : Fz), f 1 = .pointer (some ⟨b_1, 0, none⟩) ∧ f 2 = .bool false ∧ f 3 = .int .i64 i_1 ∧ Kp F h0 F' h ∧ St F' (Ow.box b_1 27 (e_api_Addr a).toArray :: fr) h ∧ I_1 i_1) m_1 4 ⟨F, rfl, rfl, rfl, hK, hS, hI_1⟩ ?_
  rintro i_1 f_1 h_2 ⟨F_1, e1, e2, e3, hK, hS, hI0⟩
  obtain ⟨K_1, hKe_1⟩ : ∃ K : Int → Prop, K = fun i_1' => I_1 i_1' ∧ m_1 i_1' < m_1 i_1 := ⟨_, rfl⟩
  have hM : ref03_Good_l1 a Q K_1 i_1 := by rw [hKe_1]; exact hR_1 i_1 hI0
  unfold ref03_Good_l1 at hM
  refine HW.fr [(1, .pointer (some ⟨b_1, 0, none⟩)), (2, .bool false), (3, .int .i64 i_1)] ⟨e1, e2, e3, trivial⟩ ?_
  refine HW.seq ?_
  refine HW.seq ?_
  refine HW.region ?_
  refine HO.val (v := .int .i64 i_1) (want_none) rfl (q_move rfl) ?_
  refine HO.val (v := .bool (decide (i_1 < 16))) (want_none) rfl (q_lss rfl rfl) ?_
  refine HO.nil (thenQ_normal (?_))
  refine HW.cond (decide (i_1 < 16)) rfl (fun c_1 => ?_) (fun c_1 => ?_)
  · replace hM := hM.1 (of_decide_eq_true c_1)
    refine HW.skip (thenQ_normal (?_))
    refine HW.seq ?_
    refine HW.block ?_
    refine HW.seq ?_
    refine HW.region ?_
    refine HO.val (v := .pointer (some ⟨b_1, 0, none⟩)) (want_none) rfl (q_fieldAddr fa_27_0 rfl rfl) ?_
    refine HO.val (v := .bool a.1) (want_none) rfl (q_load to_4 rfl (Blk.cell (hS.box 0 rfl) rfl)) ?_
    refine HO.val (v := .bool (!a.1)) (want_none) rfl (q_not rfl) ?_
    refine HO.val (v := .bool (!a.1)) (want_none) rfl (q_move rfl) ?_
    rcases Bool.eq_false_or_eq_true (!a.1) with c_2 | c_2
    · replace hM := hM.1 c_2
      refine HO.val (v := .int .i64 i_1) (want_by rfl rfl c_2) rfl (q_move rfl) ?_
      refine HO.val (v := .pointer (some ⟨b_1, 1, none⟩)) (want_by rfl rfl c_2) rfl (q_fieldAddr fa_27_1 rfl rfl) ?_
      obtain ⟨ho_1, hM⟩ := hM
      refine HO.val (v := .pointer (some ⟨b_1, 1 + (i_1).toNat, none⟩)) (want_by rfl rfl c_2) rfl (q_idxA (o := 1) (t := i_1) tr_25 rfl rfl ho_1) ?_
      refine HO.val (v := .int .u8 (b8 a.2 i_1)) (want_by rfl rfl c_2) rfl (q_ldArr (o := 1) (t := i_1) (X := a.2) to_5 rfl (hS.box 0 rfl) rfl ho_1) ?_
      refine HO.val (v := .bool (!decide ((b8 a.2 i_1) = 0))) (want_by rfl rfl c_2) rfl (q_neq rfl rfl) ?_
      refine HO.val (v := .bool (!decide ((b8 a.2 i_1) = 0))) (want_none) rfl (q_pickK true rfl c_2 rfl) ?_
      refine HO.nil (thenQ_normal (?_))
      refine HW.cond (!decide ((b8 a.2 i_1) = 0)) rfl (fun c_3 => ?_) (fun c_3 => ?_)
      · replace hM := hM.1 (nd_true c_3)
        refine HW.seq ?_
        refine HW.region ?_
        refine HO.val (v := .bool false) (want_none) rfl (q_assign rfl) ?_
        refine HO.nil (thenQ_normal (?_))
        refine HW.ret (blockQ_ret (thenQ_ret (thenQ_ret (blockQ_ret (thenQ_ret (?_))))))
        refine ⟨.inr rfl, .bool false, res1 rfl (rt rfl), ?_⟩
        replace hS : St F_1 (fr) h_2 := hS.perm2 [] 1 rfl rfl
        exact ⟨F_1, false, rfl, hK, hS, hM⟩
      · replace hM := hM.2 (nd_false c_3)
        refine HW.skip (blockQ_normal (thenQ_normal (?_)))
        refine HW.region ?_
        refine HO.val (v := .int .i64 i_1) (want_none) rfl (q_move rfl) ?_
        obtain ⟨ho_2, hM⟩ := hM
        refine HO.val (v := .int .i64 (i_1 + 1)) (want_none) rfl (q_addN _ rfl rfl rfl ho_2.1 ho_2.2) ?_
        refine HO.val (v := .int .i64 (i_1 + 1)) (want_none) rfl (q_assign rfl) ?_
        refine HO.nil (thenQ_normal (?_))
        rw [hKe_1] at hM
        exact ⟨i_1 + 1, ⟨F_1, rfl, rfl, rfl, hK, hS, hM.1⟩, hM.2⟩
    · replace hM := hM.2 c_2
      refine HO.past (past_by rfl rfl c_2) rfl ?_
      refine HO.past (past_by rfl rfl c_2) rfl ?_
      refine HO.past (past_by rfl rfl c_2) rfl ?_
      refine HO.past (past_by rfl rfl c_2) rfl ?_
      refine HO.past (past_by rfl rfl c_2) rfl ?_
      refine HO.val (v := .bool false) (want_none) rfl (q_pickK false rfl c_2 rfl) ?_
      refine HO.nil (thenQ_normal (?_))
      refine HW.condF rfl ?_
      refine HW.skip (blockQ_normal (thenQ_normal (?_)))
      refine HW.region ?_
      refine HO.val (v := .int .i64 i_1) (want_none) rfl (q_move rfl) ?_
      obtain ⟨ho_3, hM⟩ := hM
      refine HO.val (v := .int .i64 (i_1 + 1)) (want_none) rfl (q_addN _ rfl rfl rfl ho_3.1 ho_3.2) ?_
      refine HO.val (v := .int .i64 (i_1 + 1)) (want_none) rfl (q_assign rfl) ?_
      refine HO.nil (thenQ_normal (?_))
      rw [hKe_1] at hM
      exact ⟨i_1 + 1, ⟨F_1, rfl, rfl, rfl, hK, hS, hM.1⟩, hM.2⟩
  · replace hM := hM.2 (of_decide_eq_false c_1)
    refine HW.exit (thenQ_exit (thenQ_exit (blockQ_exit (thenQ_normal (?_)))))
    refine HW.seq ?_
    refine HW.region ?_
    refine HO.val (v := .bool true) (want_none) rfl (q_assign rfl) ?_
    refine HO.nil (thenQ_normal (?_))
    refine HW.ret (?_)
    refine ⟨.inr rfl, .bool true, res1 rfl (rt rfl), ?_⟩
    replace hS : St F_1 (fr) h_2 := hS.perm2 [] 1 rfl rfl
    exact ⟨F_1, true, rfl, hK, hS, hM⟩

def ref03_Cmp_j1 (a : T_api_Addr) (b : T_api_Addr) (Q : Int → Prop) (i_1 : Int) (K_1 : Int → Prop) : Prop :=
  ((0 : Int) ≤ i_1 ∧ i_1 < 16) ∧ (((b8 a.2 i_1) < (b8 b.2 i_1) → Q (-1)) ∧ (¬ ((b8 a.2 i_1) < (b8 b.2 i_1)) → ((b8 b.2 i_1) < (b8 a.2 i_1) → Q 1) ∧ (¬ ((b8 b.2 i_1) < (b8 a.2 i_1)) → (I64 (i_1 + 1)) ∧ (K_1 (i_1 + 1)))))
def ref03_Cmp_l1 (a : T_api_Addr) (b : T_api_Addr) (Q : Int → Prop) (K_1 : Int → Prop) (i_1 : Int) : Prop :=
  (i_1 < 16 → (a.1 = true → ref03_Cmp_j1 a b Q i_1 K_1) ∧ (a.1 = false → (i_1 < 4 → ref03_Cmp_j1 a b Q i_1 K_1) ∧ (¬ (i_1 < 4) → Q 0))) ∧ (¬ (i_1 < 16) → Q 0)
def ref03_Cmp_W (a : T_api_Addr) (b : T_api_Addr) (Q : Int → Prop) : Prop :=
  ((!(a.1 == b.1)) = true → (b.1 = true → Q (-1)) ∧ (b.1 = false → Q 1)) ∧ ((!(a.1 == b.1)) = false → loopW (fun (K_1 : Int → Prop) (s : Int) => ref03_Cmp_l1 a b Q K_1 s) 0)
set_option maxHeartbeats 40000000 in
set_option maxRecDepth 100000 in
theorem ref03_Cmp_walk {F : Fz} {fr : List Ow} {h0 : Heap} (a : T_api_Addr) (b : T_api_Addr) (hS : St F (fr) h0)  {Q : Int → Prop} (hM : ref03_Cmp_W a b Q) :
    HC Tryd.prog 69 #[.agg (e_api_Addr a).toArray, .agg (e_api_Addr b).toArray] h0 fun u h' => ∃ (F' : Fz) (r_1 : Int), u = .int .i64 r_1 ∧ Kp F h0 F' h' ∧ St F' (fr) h' ∧ Q r_1 := by
  unfold ref03_Cmp_W at hM
  have hK := Kp.refl F h0
  refine HC.of_HW (n := 43) Tryd.func69 rfl rfl (Nat.le_of_ble_eq_true rfl) ?_
  refine HW.seq ?_
  refine HW.region ?_
  refine HO.eff (want_none) rfl (st_box (c := (e_api_Addr a).toArray) (k' := 17) hS rfl rfl) ?_
  rintro _ h_1 ⟨b_1, rfl, hS, hk⟩
  replace hK := hK.trans hk
  refine HO.eff (want_none) rfl (st_box (c := (e_api_Addr b).toArray) (k' := 17) hS rfl rfl) ?_
  rintro _ h_2 ⟨b_2, rfl, hS, hk⟩
  replace hK := hK.trans hk
  refine HO.val (v := .int .i64 0) (want_none) rfl (q_assign rfl) ?_
  refine HO.nil (thenQ_normal (?_))
  refine HW.seq ?_
  refine HW.seq ?_
  refine HW.region ?_
  refine HO.val (v := .pointer (some ⟨b_1, 0, none⟩)) (want_none) rfl (q_fieldAddr fa_27_0 rfl rfl) ?_
  refine HO.val (v := .bool a.1) (want_none) rfl (q_load to_4 rfl (Blk.cell (hS.box 1 rfl) rfl)) ?_
  refine HO.val (v := .pointer (some ⟨b_2, 0, none⟩)) (want_none) rfl (q_fieldAddr fa_27_0 rfl rfl) ?_
  refine HO.val (v := .bool b.1) (want_none) rfl (q_load to_4 rfl (Blk.cell (hS.box 0 rfl) rfl)) ?_
  refine HO.val (v := .bool (!(a.1 == b.1))) (want_none) rfl (q_neqB Tryd.underlying4 rfl rfl) ?_
  refine HO.nil (thenQ_normal (?_))
  refine HW.cond (!(a.1 == b.1)) rfl (fun c_1 => ?_) (fun c_1 => ?_)
  · replace hM := hM.1 c_1
    refine HW.seq ?_
    refine HW.seq ?_
    refine HW.region ?_
    refine HO.val (v := .pointer (some ⟨b_2, 0, none⟩)) (want_none) rfl (q_fieldAddr fa_27_0 rfl rfl) ?_
    refine HO.val (v := .bool b.1) (want_none) rfl (q_load to_4 rfl (Blk.cell (hS.box 0 rfl) rfl)) ?_
    refine HO.nil (thenQ_normal (?_))
    refine HW.cond b.1 rfl (fun c_2 => ?_) (fun c_2 => ?_)
    · replace hM := hM.1 c_2
      refine HW.seq ?_
      refine HW.region ?_
      refine HO.val (v := .int .i64 (-1)) (want_none) rfl (q_assign rfl) ?_
      refine HO.nil (thenQ_normal (?_))
      refine HW.ret (thenQ_ret (thenQ_ret (?_)))
      refine ⟨.inr rfl, .int .i64 (-1), res1 rfl (rt rfl), ?_⟩
      replace hS : St F (fr) h_2 := hS.perm2 [] 2 rfl rfl
      exact ⟨F, (-1), rfl, hK, hS, hM⟩
    · replace hM := hM.2 c_2
      refine HW.skip (thenQ_normal (?_))
      refine HW.seq ?_
      refine HW.region ?_
      refine HO.val (v := .int .i64 1) (want_none) rfl (q_assign rfl) ?_
      refine HO.nil (thenQ_normal (?_))
      refine HW.ret (thenQ_ret (?_))
      refine ⟨.inr rfl, .int .i64 1, res1 rfl (rt rfl), ?_⟩
      replace hS : St F (fr) h_2 := hS.perm2 [] 2 rfl rfl
      exact ⟨F, 1, rfl, hK, hS, hM⟩
  · replace hM := hM.2 c_1
    refine HW.skip (thenQ_normal (?_))
    refine HW.seq ?_
    refine HW.seq ?_
    refine HW.region ?_
    refine HO.val (v := .int .i64 0) (want_none) rfl (q_assign rfl) ?_
    refine HO.nil (thenQ_normal (?_))
    refine HW.block ?_
    obtain ⟨I_1, m_1, hI_1, hR_1⟩ := hM
    replace hS : St F (Ow.box b_1 27 (e_api_Addr a).toArray :: Ow.box b_2 27 (e_api_Addr b).toArray :: fr) h_2 := hS.perm2 [1, 0] 2 rfl rfl
    refine HW.loop (S := Int) (fun i_1 f h => ∃ (F' : Fz), f 2 = .pointer (some ⟨b_1, 0, none⟩) ∧ f 3 = .pointer (some ⟨b_2, 0, none⟩) ∧ f 4 = .int .i64 0 ∧ f 5 = .int .i64 i_1 ∧ Kp F h0 F' h ∧ St F' (Ow.box b_1 27 (e_api_Addr a).toArray :: Ow.box b_2 27 (e_api_Addr b).toArray :: fr) h ∧ I_1 i_1) m_1 0 ⟨F, rfl, rfl, rfl, rfl, hK, hS, hI_1⟩ ?_
    rintro i_1 f_1 h_3 ⟨F_1, e2, e3, e4, e5, hK, hS, hI0⟩
    obtain ⟨K_1, hKe_1⟩ : ∃ K : Int → Prop, K = fun i_1' => I_1 i_1' ∧ m_1 i_1' < m_1 i_1 := ⟨_, rfl⟩
    have hM : ref03_Cmp_l1 a b Q K_1 i_1 := by rw [hKe_1]; exact hR_1 i_1 hI0
    unfold ref03_Cmp_l1 at hM
    refine HW.fr [(2, .pointer (some ⟨b_1, 0, none⟩)), (3, .pointer (some ⟨b_2, 0, none⟩)), (4, .int .i64 0), (5, .int .i64 i_1)] ⟨e2, e3, e4, e5, trivial⟩ ?_
    refine HW.seq_mid (fun f h => ∃ (F' : Fz), f 2 = .pointer (some ⟨b_1, 0, none⟩) ∧ f 3 = .pointer (some ⟨b_2, 0, none⟩) ∧ f 4 = .int .i64 0 ∧ f 5 = .int .i64 i_1 ∧ Kp F h0 F' h ∧ St F' (Ow.box b_1 27 (e_api_Addr a).toArray :: Ow.box b_2 27 (e_api_Addr b).toArray :: fr) h ∧ ref03_Cmp_j1 a b Q i_1 K_1) ?_ ?_
    · refine HW.seq ?_
      refine HW.region ?_
      refine HO.val (v := .int .i64 i_1) (want_none) rfl (q_move rfl) ?_
      refine HO.val (v := .bool (decide (i_1 < 16))) (want_none) rfl (q_lss rfl rfl) ?_
      refine HO.val (v := .bool (decide (i_1 < 16))) (want_none) rfl (q_move rfl) ?_
      rcases Bool.eq_false_or_eq_true (decide (i_1 < 16)) with c_3 | c_3
      · replace hM := hM.1 (of_decide_eq_true c_3)
        refine HO.val (v := .pointer (some ⟨b_1, 0, none⟩)) (want_by rfl rfl c_3) rfl (q_fieldAddr fa_27_0 rfl rfl) ?_
        refine HO.val (v := .bool a.1) (want_by rfl rfl c_3) rfl (q_load to_4 rfl (Blk.cell (hS.box 0 rfl) rfl)) ?_
        refine HO.val (v := .bool a.1) (want_by rfl rfl c_3) rfl (q_move rfl) ?_
        rcases Bool.eq_false_or_eq_true a.1 with c_4 | c_4
        · replace hM := hM.1 c_4
          refine HO.past (past_by rfl rfl c_4) rfl ?_
          refine HO.past (past_by rfl rfl c_4) rfl ?_
          refine HO.val (v := .bool true) (want_by rfl rfl c_3) rfl (q_pickK true rfl c_4 rfl) ?_
          refine HO.val (v := .bool true) (want_none) rfl (q_pickK true rfl c_3 rfl) ?_
          refine HO.nil (thenQ_normal (?_))
          refine HW.condT rfl ?_
          refine HW.skip (thenQ_normal (?_))
          exact ⟨F_1, rfl, rfl, rfl, rfl, hK, hS, hM⟩
        · replace hM := hM.2 c_4
          refine HO.val (v := .int .i64 i_1) (want_by rfl rfl c_4) rfl (q_move rfl) ?_
          refine HO.val (v := .bool (decide (i_1 < 4))) (want_by rfl rfl c_4) rfl (q_lss rfl rfl) ?_
          refine HO.val (v := .bool (decide (i_1 < 4))) (want_by rfl rfl c_3) rfl (q_pickK false rfl c_4 rfl) ?_
          refine HO.val (v := .bool (decide (i_1 < 4))) (want_none) rfl (q_pickK true rfl c_3 rfl) ?_
          refine HO.nil (thenQ_normal (?_))
          refine HW.cond (decide (i_1 < 4)) rfl (fun c_5 => ?_) (fun c_5 => ?_)
          · replace hM := hM.1 (of_decide_eq_true c_5)
            refine HW.skip (thenQ_normal (?_))
            exact ⟨F_1, rfl, rfl, rfl, rfl, hK, hS, hM⟩
          · replace hM := hM.2 (of_decide_eq_false c_5)
            refine HW.exit (thenQ_exit (thenQ_exit (blockQ_exit (thenQ_normal (?_)))))
            refine HW.seq ?_
            refine HW.region ?_
            refine HO.val (v := .int .i64 0) (want_none) rfl (q_assign rfl) ?_
            refine HO.nil (thenQ_normal (?_))
            refine HW.ret (?_)
            refine ⟨.inr rfl, .int .i64 0, res1 rfl (rt rfl), ?_⟩
            replace hS : St F_1 (fr) h_3 := hS.perm2 [] 2 rfl rfl
            exact ⟨F_1, 0, rfl, hK, hS, hM⟩
      · replace hM := hM.2 (of_decide_eq_false c_3)
        refine HO.past (past_by rfl rfl c_3) rfl ?_
        refine HO.past (past_by rfl rfl c_3) rfl ?_
        refine HO.past (past_by rfl rfl c_3) rfl ?_
        refine HO.past (past_undef rfl rfl) rfl ?_
        refine HO.past (past_undef rfl rfl) rfl ?_
        refine HO.past (past_by rfl rfl c_3) rfl ?_
        refine HO.val (v := .bool false) (want_none) rfl (q_pickK false rfl c_3 rfl) ?_
        refine HO.nil (thenQ_normal (?_))
        refine HW.condF rfl ?_
        refine HW.exit (thenQ_exit (thenQ_exit (blockQ_exit (thenQ_normal (?_)))))
        refine HW.seq ?_
        refine HW.region ?_
        refine HO.val (v := .int .i64 0) (want_none) rfl (q_assign rfl) ?_
        refine HO.nil (thenQ_normal (?_))
        refine HW.ret (?_)
        refine ⟨.inr rfl, .int .i64 0, res1 rfl (rt rfl), ?_⟩
        replace hS : St F_1 (fr) h_3 := hS.perm2 [] 2 rfl rfl
        exact ⟨F_1, 0, rfl, hK, hS, hM⟩
    · rintro f_2 h_4 ⟨F_2, e2, e3, e4, e5, hK, hS, hM⟩
      unfold ref03_Cmp_j1 at hM
      refine HW.fr [(2, .pointer (some ⟨b_1, 0, none⟩)), (3, .pointer (some ⟨b_2, 0, none⟩)), (4, .int .i64 0), (5, .int .i64 i_1)] ⟨e2, e3, e4, e5, trivial⟩ ?_
      refine HW.seq ?_
      refine HW.block ?_
      refine HW.seq ?_
      refine HW.seq ?_
      refine HW.regionA 9 mixed (fun h => (Blk h b_1 (.cells (e_api_Addr a).toArray 27 (0, 0))) ∧ (Blk h b_2 (.cells (e_api_Addr b).toArray 27 (0, 0)))) [] (by kernel_rfl) ?_
      refine HA.val (k := 0) (v := .int .i64 i_1) rfl rfl (by kernel_rfl) (by kernel_rfl) (want_none) rfl (fun _ ⟨c305, c306⟩ => q_move rfl) ?_
      refine HA.val (k := 1) (v := .pointer (some ⟨b_1, 1, none⟩)) rfl rfl (by kernel_rfl) (by kernel_rfl) (want_none) rfl (fun _ ⟨c305, c306⟩ => q_fieldAddr fa_27_1 rfl rfl) ?_
      obtain ⟨ho_1, hM⟩ := hM
      refine HA.val (k := 2) (v := .pointer (some ⟨b_1, 1 + (i_1).toNat, none⟩)) rfl rfl (by kernel_rfl) (by kernel_rfl) (want_none) rfl (fun _ ⟨c305, c306⟩ => q_idxA (o := 1) (t := i_1) tr_25 rfl rfl ho_1) ?_
      refine HA.val (k := 3) (v := .int .u8 (b8 a.2 i_1)) rfl rfl (by kernel_rfl) (by kernel_rfl) (want_none) rfl (fun _ ⟨c305, c306⟩ => q_ldArr (o := 1) (t := i_1) (X := a.2) to_5 rfl c305 rfl ho_1) ?_
      refine HA.val (k := 4) (v := .int .i64 i_1) rfl rfl (by kernel_rfl) (by kernel_rfl) (want_none) rfl (fun _ ⟨c305, c306⟩ => q_move rfl) ?_
      refine HA.val (k := 5) (v := .pointer (some ⟨b_2, 1, none⟩)) rfl rfl (by kernel_rfl) (by kernel_rfl) (want_none) rfl (fun _ ⟨c305, c306⟩ => q_fieldAddr fa_27_1 rfl rfl) ?_
      refine HA.val (k := 6) (v := .pointer (some ⟨b_2, 1 + (i_1).toNat, none⟩)) rfl rfl (by kernel_rfl) (by kernel_rfl) (want_none) rfl (fun _ ⟨c305, c306⟩ => q_idxA (o := 1) (t := i_1) tr_25 rfl rfl ho_1) ?_
      refine HA.val (k := 7) (v := .int .u8 (b8 b.2 i_1)) rfl rfl (by kernel_rfl) (by kernel_rfl) (want_none) rfl (fun _ ⟨c305, c306⟩ => q_ldArr (o := 1) (t := i_1) (X := b.2) to_5 rfl c306 rfl ho_1) ?_
      refine HA.val (k := 8) (v := .bool (decide ((b8 a.2 i_1) < (b8 b.2 i_1)))) rfl rfl (by kernel_rfl) (by kernel_rfl) (want_none) rfl (fun _ ⟨c305, c306⟩ => q_lss rfl rfl) ?_
      refine HA.nil ⟨⟨(hS.box 0 rfl), (hS.box 1 rfl)⟩, (Go.Wk.at_nil _ _)⟩ (by kernel_rfl) (thenQ_normal (?_))
      refine HW.cond (decide ((b8 a.2 i_1) < (b8 b.2 i_1))) rfl (fun c_6 => ?_) (fun c_6 => ?_)
      · replace hM := hM.1 (of_decide_eq_true c_6)
        refine HW.seq ?_
        refine HW.region ?_
        refine HO.val (v := .int .i64 (-1)) (want_none) rfl (q_assign rfl) ?_
        refine HO.nil (thenQ_normal (?_))
        refine HW.ret (thenQ_ret (blockQ_ret (thenQ_ret (thenQ_ret (blockQ_ret (thenQ_ret (?_)))))))
        refine ⟨.inr rfl, .int .i64 (-1), res1 rfl (rt rfl), ?_⟩
        replace hS : St F_2 (fr) h_4 := hS.perm2 [] 2 rfl rfl
        exact ⟨F_2, (-1), rfl, hK, hS, hM⟩
      · replace hM := hM.2 (of_decide_eq_false c_6)
        refine HW.skip (thenQ_normal (?_))
        refine HW.seq ?_
        refine HW.regionA 9 mixed (fun h => (Blk h b_1 (.cells (e_api_Addr a).toArray 27 (0, 0))) ∧ (Blk h b_2 (.cells (e_api_Addr b).toArray 27 (0, 0)))) [] (by kernel_rfl) ?_
        refine HA.val (k := 0) (v := .int .i64 i_1) rfl rfl (by kernel_rfl) (by kernel_rfl) (want_none) rfl (fun _ ⟨c305, c306⟩ => q_move rfl) ?_
        refine HA.val (k := 1) (v := .pointer (some ⟨b_1, 1, none⟩)) rfl rfl (by kernel_rfl) (by kernel_rfl) (want_none) rfl (fun _ ⟨c305, c306⟩ => q_fieldAddr fa_27_1 rfl rfl) ?_
        refine HA.val (k := 2) (v := .pointer (some ⟨b_1, 1 + (i_1).toNat, none⟩)) rfl rfl (by kernel_rfl) (by kernel_rfl) (want_none) rfl (fun _ ⟨c305, c306⟩ => q_idxA (o := 1) (t := i_1) tr_25 rfl rfl ho_1) ?_
        refine HA.val (k := 3) (v := .int .u8 (b8 a.2 i_1)) rfl rfl (by kernel_rfl) (by kernel_rfl) (want_none) rfl (fun _ ⟨c305, c306⟩ => q_ldArr (o := 1) (t := i_1) (X := a.2) to_5 rfl c305 rfl ho_1) ?_
        refine HA.val (k := 4) (v := .int .i64 i_1) rfl rfl (by kernel_rfl) (by kernel_rfl) (want_none) rfl (fun _ ⟨c305, c306⟩ => q_move rfl) ?_
        refine HA.val (k := 5) (v := .pointer (some ⟨b_2, 1, none⟩)) rfl rfl (by kernel_rfl) (by kernel_rfl) (want_none) rfl (fun _ ⟨c305, c306⟩ => q_fieldAddr fa_27_1 rfl rfl) ?_
        refine HA.val (k := 6) (v := .pointer (some ⟨b_2, 1 + (i_1).toNat, none⟩)) rfl rfl (by kernel_rfl) (by kernel_rfl) (want_none) rfl (fun _ ⟨c305, c306⟩ => q_idxA (o := 1) (t := i_1) tr_25 rfl rfl ho_1) ?_
        refine HA.val (k := 7) (v := .int .u8 (b8 b.2 i_1)) rfl rfl (by kernel_rfl) (by kernel_rfl) (want_none) rfl (fun _ ⟨c305, c306⟩ => q_ldArr (o := 1) (t := i_1) (X := b.2) to_5 rfl c306 rfl ho_1) ?_
        refine HA.val (k := 8) (v := .bool (decide ((b8 b.2 i_1) < (b8 a.2 i_1)))) rfl rfl (by kernel_rfl) (by kernel_rfl) (want_none) rfl (fun _ ⟨c305, c306⟩ => q_gtr rfl rfl) ?_
        refine HA.nil ⟨⟨(hS.box 0 rfl), (hS.box 1 rfl)⟩, (Go.Wk.at_nil _ _)⟩ (by kernel_rfl) (thenQ_normal (?_))
        refine HW.cond (decide ((b8 b.2 i_1) < (b8 a.2 i_1))) rfl (fun c_7 => ?_) (fun c_7 => ?_)
        · replace hM := hM.1 (of_decide_eq_true c_7)
          refine HW.seq ?_
          refine HW.region ?_
          refine HO.val (v := .int .i64 1) (want_none) rfl (q_assign rfl) ?_
          refine HO.nil (thenQ_normal (?_))
          refine HW.ret (blockQ_ret (thenQ_ret (thenQ_ret (blockQ_ret (thenQ_ret (?_))))))
          refine ⟨.inr rfl, .int .i64 1, res1 rfl (rt rfl), ?_⟩
          replace hS : St F_2 (fr) h_4 := hS.perm2 [] 2 rfl rfl
          exact ⟨F_2, 1, rfl, hK, hS, hM⟩
        · replace hM := hM.2 (of_decide_eq_false c_7)
          refine HW.skip (blockQ_normal (thenQ_normal (?_)))
          refine HW.region ?_
          refine HO.val (v := .int .i64 i_1) (want_none) rfl (q_move rfl) ?_
          obtain ⟨ho_2, hM⟩ := hM
          refine HO.val (v := .int .i64 (i_1 + 1)) (want_none) rfl (q_addN _ rfl rfl rfl ho_2.1 ho_2.2) ?_
          refine HO.val (v := .int .i64 (i_1 + 1)) (want_none) rfl (q_assign rfl) ?_
          refine HO.nil (thenQ_normal (?_))
          rw [hKe_1] at hM
          exact ⟨i_1 + 1, ⟨F_2, rfl, rfl, rfl, rfl, hK, hS, hM.1⟩, hM.2⟩

def ref11_Add_j2 (l : List T_api_Addr) (a : T_api_Addr) (Q : (List T_api_Addr) → Prop) (n_1 : Int) : Prop :=
  ((0 : Int) ≤ n_1 ∧ n_1 ≤ (l.length : Int)) ∧ (((([] : List T_api_Addr).length + (cut l 0 n_1).length) * 17 ≤ 140737488355328) ∧ ((((([] : List T_api_Addr) ++ (cut l 0 n_1)).length + ([a] : List T_api_Addr).length) * 17 ≤ 140737488355328) ∧ (((((([] : List T_api_Addr) ++ (cut l 0 n_1)) ++ ([a] : List T_api_Addr)).length + (cut l n_1 (l.length : Int)).length) * 17 ≤ 140737488355328) ∧ (Q (((([] : List T_api_Addr) ++ (cut l 0 n_1)) ++ ([a] : List T_api_Addr)) ++ (cut l n_1 (l.length : Int)))))))
def ref11_Add_l1 (l : List T_api_Addr) (a : T_api_Addr) (Q : (List T_api_Addr) → Prop) (K_1 : Int → Prop) (n_2 : Int) : Prop :=
  (n_2 < (l.length : Int) → ((0 : Int) ≤ n_2 ∧ n_2 < (l.length : Int)) ∧ (ref03_Cmp_W (gi l n_2) a (fun r_4 => (r_4 < 0 → (I64 (n_2 + 1)) ∧ (K_1 (n_2 + 1))) ∧ (¬ (r_4 < 0) → ref11_Add_j2 l a Q n_2)))) ∧ (¬ (n_2 < (l.length : Int)) → ref11_Add_j2 l a Q n_2)
def ref11_Add_j1 (l : List T_api_Addr) (a : T_api_Addr) (Q : (List T_api_Addr) → Prop) (b_2 : Bool) : Prop :=
  (b_2 = true → Q l) ∧ (b_2 = false → loopW (fun (K_1 : Int → Prop) (s : Int) => ref11_Add_l1 l a Q K_1 s) 0)
def ref11_Add_W (l : List T_api_Addr) (a : T_api_Addr) (Q : (List T_api_Addr) → Prop) : Prop :=
  ref11_Has_W l a (fun r_2 => (r_2 = true → ref11_Add_j1 l a Q true) ∧ (r_2 = false → ref03_Good_W a (fun r_3 => ref11_Add_j1 l a Q (!r_3))))
set_option maxHeartbeats 40000000 in
set_option maxRecDepth 100000 in
theorem ref11_Add_walk {F : Fz} {fr : List Ow} {h0 : Heap} (l : List T_api_Addr) (a : T_api_Addr) (vl : Value) (hS : St F (fr) h0) (hL_l : SliceF F h0 17 e_api_Addr vl l) {Q : (List T_api_Addr) → Prop} (hM : ref11_Add_W l a Q) :
    HC Tryd.prog 53 #[vl, .agg (e_api_Addr a).toArray] h0 fun u h' => ∃ (F' : Fz) (r_1 : List T_api_Addr) (vr_1 : Value), u = vr_1 ∧ Kp F h0 F' h' ∧ St F' (fr) h' ∧ (SliceF F' h' 17 e_api_Addr vl l) ∧ (SliceF F' h' 17 e_api_Addr vr_1 r_1) ∧ Q r_1 := by
  unfold ref11_Add_W at hM
  have hK := Kp.refl F h0
  refine HC.of_HW (n := 42) Tryd.func53 rfl rfl (Nat.le_of_ble_eq_true rfl) ?_
  refine HW.seq ?_
  refine HW.region ?_
  refine HO.eff (want_none) rfl (st_box (c := (e_api_Addr a).toArray) (k' := 17) hS rfl rfl) ?_
  rintro _ h_1 ⟨b_1, rfl, hS, hk⟩
  replace hK := hK.trans hk
  replace hL_l := hL_l.kp hk
  refine HO.val (v := .slice none 0 0) (want_none) rfl (q_assign rfl) ?_
  refine HO.nil (thenQ_normal (?_))
  refine HW.seq ?_
  refine HW.seq_mid (fun f h => ∃ (F' : Fz) (b_2 : Bool), f 0 = vl ∧ f 3 = .pointer (some ⟨b_1, 0, none⟩) ∧ f 4 = .slice none 0 0 ∧ f 13 = .bool b_2 ∧ Kp F h0 F' h ∧ St F' (Ow.box b_1 27 (e_api_Addr a).toArray :: fr) h ∧ (SliceF F' h 17 e_api_Addr vl l) ∧ ref11_Add_j1 l a Q b_2) ?_ ?_
  · refine HW.region ?_
    refine HO.val (v := vl) (want_none) rfl (q_move rfl) ?_
    refine HO.val (v := .agg (e_api_Addr a).toArray) (want_none) rfl (q_loadAgg (cs := (e_api_Addr a)) ta_27 rfl rfl (Blk.cells (k := 17) (hS.box 0 rfl) rfl)) ?_
    refine HO.call (want_none) rfl (ec en_38 rfl rfl) (ref11_Has_walk (fr := (Ow.box b_1 27 (e_api_Addr a).toArray :: fr)) l a vl hS hL_l hM) ?_
    rintro _ h_2 ⟨F_1, r_2, rfl, hk, hS, _, hM⟩
    replace hK := hK.trans hk
    replace hL_l := hL_l.kp hk
    refine HO.val (v := .bool r_2) (want_none) rfl (q_move rfl) ?_
    rcases Bool.eq_false_or_eq_true r_2 with c_1 | c_1
    · replace hM := hM.1 c_1
      refine HO.past (past_by rfl rfl c_1) rfl ?_
      refine HO.past (past_by rfl rfl c_1) rfl ?_
      refine HO.past (past_by rfl rfl c_1) rfl ?_
      refine HO.val (v := .bool true) (want_none) rfl (q_pickK true rfl c_1 rfl) ?_
      refine HO.nil (thenQ_normal (?_))
      exact ⟨F_1, true, rfl, rfl, rfl, rfl, hK, hS, hL_l, hM⟩
    · replace hM := hM.2 c_1
      refine HO.val (v := .agg (e_api_Addr a).toArray) (want_by rfl rfl c_1) rfl (q_loadAgg (cs := (e_api_Addr a)) ta_27 rfl rfl (Blk.cells (k := 17) (hS.box 0 rfl) rfl)) ?_
      refine HO.call (want_by rfl rfl c_1) rfl (ec en_68 rfl rfl) (ref03_Good_walk (fr := (Ow.box b_1 27 (e_api_Addr a).toArray :: fr)) a hS hM) ?_
      rintro _ h_3 ⟨F_2, r_3, rfl, hk, hS, hM⟩
      replace hK := hK.trans hk
      replace hL_l := hL_l.kp hk
      refine HO.val (v := .bool (!r_3)) (want_by rfl rfl c_1) rfl (q_not rfl) ?_
      refine HO.val (v := .bool (!r_3)) (want_none) rfl (q_pickK false rfl c_1 rfl) ?_
      refine HO.nil (thenQ_normal (?_))
      exact ⟨F_2, !r_3, rfl, rfl, rfl, rfl, hK, hS, hL_l, hM⟩
  · rintro f_1 h_4 ⟨F_3, b_2, e0, e3, e4, e13, hK, hS, hL_l, hM⟩
    unfold ref11_Add_j1 at hM
    refine HW.fr [(0, vl), (3, .pointer (some ⟨b_1, 0, none⟩)), (4, .slice none 0 0), (13, .bool b_2)] ⟨e0, e3, e4, e13, trivial⟩ ?_
    refine HW.cond b_2 rfl (fun c_2 => ?_) (fun c_2 => ?_)
    · replace hM := hM.1 c_2
      refine HW.seq ?_
      refine HW.region ?_
      refine HO.val (v := vl) (want_none) rfl (q_move rfl) ?_
      refine HO.val (v := vl) (want_none) rfl (q_assign rfl) ?_
      refine HO.nil (thenQ_normal (?_))
      refine HW.ret (thenQ_ret (?_))
      refine ⟨.inr rfl, vl, res1 rfl (rt rfl), ?_⟩
      replace hS : St F_3 (fr) h_4 := hS.perm2 [] 1 rfl rfl
      exact ⟨F_3, l, vl, rfl, hK, hS, hL_l, hL_l, hM⟩
    · replace hM := hM.2 c_2
      refine HW.skip (thenQ_normal (?_))
      refine HW.seq ?_
      refine HW.region ?_
      refine HO.val (v := .int .i64 0) (want_none) rfl (q_assign rfl) ?_
      refine HO.nil (thenQ_normal (?_))
      refine HW.seq_mid (fun f h => ∃ (F' : Fz) (n_1 : Int), f 0 = vl ∧ f 3 = .pointer (some ⟨b_1, 0, none⟩) ∧ f 4 = .slice none 0 0 ∧ f 5 = .int .i64 n_1 ∧ Kp F h0 F' h ∧ St F' (Ow.box b_1 27 (e_api_Addr a).toArray :: fr) h ∧ (SliceF F' h 17 e_api_Addr vl l) ∧ ref11_Add_j2 l a Q n_1) ?_ ?_
      · refine HW.block ?_
        obtain ⟨I_1, m_1, hI_1, hR_1⟩ := hM
        refine HW.loop (S := Int) (fun n_2 f h => ∃ (F' : Fz), f 0 = vl ∧ f 3 = .pointer (some ⟨b_1, 0, none⟩) ∧ f 4 = .slice none 0 0 ∧ f 5 = .int .i64 n_2 ∧ Kp F h0 F' h ∧ St F' (Ow.box b_1 27 (e_api_Addr a).toArray :: fr) h ∧ (SliceF F' h 17 e_api_Addr vl l) ∧ I_1 n_2) m_1 0 ⟨F_3, rfl, rfl, rfl, rfl, hK, hS, hL_l, hI_1⟩ ?_
        rintro n_2 f_2 h_5 ⟨F_4, e0, e3, e4, e5, hK, hS, hL_l, hI0⟩
        obtain ⟨K_1, hKe_1⟩ : ∃ K : Int → Prop, K = fun n_2' => I_1 n_2' ∧ m_1 n_2' < m_1 n_2 := ⟨_, rfl⟩
        have hM : ref11_Add_l1 l a Q K_1 n_2 := by rw [hKe_1]; exact hR_1 n_2 hI0
        unfold ref11_Add_l1 at hM
        refine HW.fr [(0, vl), (3, .pointer (some ⟨b_1, 0, none⟩)), (4, .slice none 0 0), (5, .int .i64 n_2)] ⟨e0, e3, e4, e5, trivial⟩ ?_
        refine HW.seq ?_
        refine HW.seq ?_
        refine HW.regionA 13 mixed (fun h => (SliceIs h 17 e_api_Addr vl l) ∧ (Blk h b_1 (.cells (e_api_Addr a).toArray 27 (0, 0)))) [] (by kernel_rfl) ?_
        refine HA.val (k := 0) (v := .int .i64 n_2) rfl rfl (by kernel_rfl) (by kernel_rfl) (want_none) rfl (fun _ ⟨hL_l, c304⟩ => q_move rfl) ?_
        refine HA.val (k := 1) (v := vl) rfl rfl (by kernel_rfl) (by kernel_rfl) (want_none) rfl (fun _ ⟨hL_l, c304⟩ => q_move rfl) ?_
        refine HA.val (k := 2) (v := .int .i64 (l.length : Int)) rfl rfl (by kernel_rfl) (by kernel_rfl) (want_none) rfl (fun _ ⟨hL_l, c304⟩ => q_len ts_22 (shp hL_l) rfl rfl) ?_
        refine HA.val (k := 3) (v := .bool (decide (n_2 < (l.length : Int)))) rfl rfl (by kernel_rfl) (by kernel_rfl) (want_none) rfl (fun _ ⟨hL_l, c304⟩ => q_lss rfl rfl) ?_
        refine HA.val (k := 4) (v := .bool (decide (n_2 < (l.length : Int)))) rfl rfl (by kernel_rfl) (by kernel_rfl) (want_none) rfl (fun _ ⟨hL_l, c304⟩ => q_move rfl) ?_
        rcases Bool.eq_false_or_eq_true (decide (n_2 < (l.length : Int))) with c_3 | c_3
        · replace hM := hM.1 (of_decide_eq_true c_3)
          refine HA.val (k := 5) (v := vl) rfl rfl (by kernel_rfl) (by kernel_rfl) (want_by rfl rfl c_3) rfl (fun _ ⟨hL_l, c304⟩ => q_move rfl) ?_
          refine HA.val (k := 6) (v := .int .i64 n_2) rfl rfl (by kernel_rfl) (by kernel_rfl) (want_by rfl rfl c_3) rfl (fun _ ⟨hL_l, c304⟩ => q_move rfl) ?_
          obtain ⟨ho_1, hM⟩ := hM
          refine HA.val (k := 7) (v := elemPtr 17 vl (n_2).toNat) rfl rfl (by kernel_rfl) (by kernel_rfl) (want_by rfl rfl c_3) rfl (fun _ ⟨hL_l, c304⟩ => q_idx ts_22 hL_l rfl rfl ho_1) ?_
          refine HA.val (k := 8) (v := .agg (e_api_Addr (gi l n_2)).toArray) rfl rfl (by kernel_rfl) (by kernel_rfl) (want_by rfl rfl c_3) rfl (fun _ ⟨hL_l, c304⟩ => q_ldElemAgg (cs := (e_api_Addr (gi l n_2))) ta_27 hL_l rfl ho_1 rfl) ?_
          refine HA.val (k := 9) (v := .agg (e_api_Addr a).toArray) rfl rfl (by kernel_rfl) (by kernel_rfl) (want_by rfl rfl c_3) rfl (fun _ ⟨hL_l, c304⟩ => q_loadAgg (cs := (e_api_Addr a)) ta_27 rfl rfl (Blk.cells (k := 17) c304 rfl)) ?_
          refine HA.one (k := 10) ⟨⟨hL_l.is, (hS.box 0 rfl)⟩, (Go.Wk.at_nil _ _)⟩ (by kernel_rfl) ?_
          refine HS.call rfl (want_by rfl rfl c_3) rfl (ec en_69 rfl rfl) (ref03_Cmp_walk (fr := (Ow.box b_1 27 (e_api_Addr a).toArray :: fr)) (gi l n_2) a hS hM) ?_
          rintro _ h_6 ⟨F_5, r_4, rfl, hk, hS, hM⟩
          replace hK := hK.trans hk
          replace hL_l := hL_l.kp hk
          refine HA.val (k := 11) (v := .bool (decide (r_4 < 0))) rfl rfl (by kernel_rfl) (by kernel_rfl) (want_by rfl rfl c_3) rfl (fun _ ⟨hL_l, c304⟩ => q_lss rfl rfl) ?_
          refine HA.val (k := 12) (v := .bool (decide (r_4 < 0))) rfl rfl (by kernel_rfl) (by kernel_rfl) (want_none) rfl (fun _ ⟨hL_l, c304⟩ => q_pickK true rfl c_3 rfl) ?_
          refine HA.nil ⟨⟨hL_l.is, (hS.box 0 rfl)⟩, (Go.Wk.at_nil _ _)⟩ (by kernel_rfl) (thenQ_normal (?_))
          refine HW.cond (decide (r_4 < 0)) rfl (fun c_4 => ?_) (fun c_4 => ?_)
          · replace hM := hM.1 (of_decide_eq_true c_4)
            refine HW.skip (thenQ_normal (?_))
            refine HW.block ?_
            refine HW.region ?_
            refine HO.val (v := .int .i64 n_2) (want_none) rfl (q_move rfl) ?_
            obtain ⟨ho_2, hM⟩ := hM
            refine HO.val (v := .int .i64 (n_2 + 1)) (want_none) rfl (q_addN _ rfl rfl rfl ho_2.1 ho_2.2) ?_
            refine HO.val (v := .int .i64 (n_2 + 1)) (want_none) rfl (q_assign rfl) ?_
            refine HO.nil (blockQ_normal (thenQ_normal (?_)))
            rw [hKe_1] at hM
            exact ⟨n_2 + 1, ⟨F_5, rfl, rfl, rfl, rfl, hK, hS, hL_l, hM.1⟩, hM.2⟩
          · replace hM := hM.2 (of_decide_eq_false c_4)
            refine HW.exit (thenQ_exit (thenQ_exit (blockQ_exit (thenQ_normal (?_)))))
            exact ⟨F_5, n_2, rfl, rfl, rfl, rfl, hK, hS, hL_l, hM⟩
        · replace hM := hM.2 (of_decide_eq_false c_3)
          refine HA.past (k := 5) rfl rfl (by kernel_rfl) (by kernel_rfl) (past_by rfl rfl c_3) rfl ?_
          refine HA.past (k := 6) rfl rfl (by kernel_rfl) (by kernel_rfl) (past_by rfl rfl c_3) rfl ?_
          refine HA.past (k := 7) rfl rfl (by kernel_rfl) (by kernel_rfl) (past_by rfl rfl c_3) rfl ?_
          refine HA.past (k := 8) rfl rfl (by kernel_rfl) (by kernel_rfl) (past_by rfl rfl c_3) rfl ?_
          refine HA.past (k := 9) rfl rfl (by kernel_rfl) (by kernel_rfl) (past_by rfl rfl c_3) rfl ?_
          refine HA.one (k := 10) ⟨⟨hL_l.is, (hS.box 0 rfl)⟩, (Go.Wk.at_nil _ _)⟩ (by kernel_rfl) ?_
          refine HS.past rfl (past_by rfl rfl c_3) rfl ?_
          refine HA.past (k := 11) rfl rfl (by kernel_rfl) (by kernel_rfl) (past_by rfl rfl c_3) rfl ?_
          refine HA.val (k := 12) (v := .bool false) rfl rfl (by kernel_rfl) (by kernel_rfl) (want_none) rfl (fun _ ⟨hL_l, c304⟩ => q_pickK false rfl c_3 rfl) ?_
          refine HA.nil ⟨⟨hL_l.is, (hS.box 0 rfl)⟩, (Go.Wk.at_nil _ _)⟩ (by kernel_rfl) (thenQ_normal (?_))
          refine HW.condF rfl ?_
          refine HW.exit (thenQ_exit (thenQ_exit (blockQ_exit (thenQ_normal (?_)))))
          exact ⟨F_4, n_2, rfl, rfl, rfl, rfl, hK, hS, hL_l, hM⟩
      · rintro f_3 h_7 ⟨F_6, n_1, e0, e3, e4, e5, hK, hS, hL_l, hM⟩
        unfold ref11_Add_j2 at hM
        refine HW.fr [(0, vl), (3, .pointer (some ⟨b_1, 0, none⟩)), (4, .slice none 0 0), (5, .int .i64 n_1)] ⟨e0, e3, e4, e5, trivial⟩ ?_
        refine HW.seq ?_
        obtain ⟨ho_3, hM⟩ := hM
        obtain ⟨ho_4, hM⟩ := hM
        obtain ⟨ho_5, hM⟩ := hM
        obtain ⟨ho_6, hM⟩ := hM
        refine HW.regionA 13 mixed (fun h => (SliceIs h 17 e_api_Addr vl l) ∧ (Blk h b_1 (.cells (e_api_Addr a).toArray 27 (0, 0)))) [] (by kernel_rfl) ?_
        refine HA.val (k := 1) (v := vl) rfl rfl (by kernel_rfl) (by kernel_rfl) (want_none) rfl (fun _ ⟨hL_l, c203⟩ => q_move rfl) ?_
        refine HA.val (k := 2) (v := .int .i64 n_1) rfl rfl (by kernel_rfl) (by kernel_rfl) (want_none) rfl (fun _ ⟨hL_l, c203⟩ => q_move rfl) ?_
        refine HA.val (k := 3) (v := cutV 17 vl (0 : Int).toNat (n_1).toNat) rfl rfl (by kernel_rfl) (by kernel_rfl) (want_none) rfl (fun _ ⟨hL_l, c203⟩ => q_slH ts_22 hL_l rfl rfl ho_3) ?_
        refine HA.val (k := 5) (v := .agg (e_api_Addr a).toArray) rfl rfl (by kernel_rfl) (by kernel_rfl) (want_none) rfl (fun _ ⟨hL_l, c203⟩ => q_loadAgg (cs := (e_api_Addr a)) ta_27 rfl rfl (Blk.cells (k := 17) c203 rfl)) ?_
        refine HA.val (k := 8) (v := vl) rfl rfl (by kernel_rfl) (by kernel_rfl) (want_none) rfl (fun _ ⟨hL_l, c203⟩ => q_move rfl) ?_
        refine HA.val (k := 9) (v := .int .i64 n_1) rfl rfl (by kernel_rfl) (by kernel_rfl) (want_none) rfl (fun _ ⟨hL_l, c203⟩ => q_move rfl) ?_
        refine HA.val (k := 10) (v := cutV 17 vl (n_1).toNat ((l.length : Int)).toNat) rfl rfl (by kernel_rfl) (by kernel_rfl) (want_none) rfl (fun _ ⟨hL_l, c203⟩ => q_slL ts_22 hL_l rfl rfl ho_3) ?_
        refine HA.two (k := 0) (k' := 6) ⟨⟨hL_l.is, (hS.box 0 rfl)⟩, (Go.Wk.at_nil _ _)⟩ (by kernel_rfl) ?_ ?_
        · refine HS.eff rfl (want_none) rfl (st_litEmpty (α := T_api_Addr) e_api_Addr hS tl_22) ?_
          rintro _ h_8 ⟨b_3, rfl, hS, hk⟩
          replace hK := hK.trans hk
          replace hL_l := hL_l.kp hk
          refine HA.two (k := 4) (k' := 6) ⟨⟨hL_l.is, (hS.box 1 rfl)⟩, (Go.Wk.at_nil _ _)⟩ (by kernel_rfl) ?_ ?_
          · refine HS.eff rfl (want_none) rfl (st_append te_22 hS (i := 0) rfl (cutIs hL_l.is 0 n_1 (Int.le_refl _) ho_3.1 ho_3.2) rfl rfl rfl (by intro a _ u hu; simp [e_api_Addr, encI, encN, encB, encT] at hu; rcases hu with rfl | rfl | rfl | rfl | rfl | rfl | rfl | rfl | rfl | rfl | rfl | rfl | rfl | rfl | rfl | rfl | rfl <;> rfl) ho_4 (by omega)) ?_
            rintro v_1 h_9 ⟨hS, hk⟩
            replace hS : St F_6 (Ow.own 27 17 e_api_Addr v_1 (([] : List T_api_Addr) ++ (cut l 0 n_1)) :: Ow.box b_1 27 (e_api_Addr a).toArray :: fr) h_9 := hS
            replace hK := hK.trans hk
            replace hL_l := hL_l.kp hk
            refine HA.one (k := 6) ⟨⟨hL_l.is, (hS.box 1 rfl)⟩, (Go.Wk.at_nil _ _)⟩ (by kernel_rfl) ?_
            refine HS.eff rfl (want_none) rfl (st_lit (enc := e_api_Addr) (cells := #[.bool a.1, .int .u8 (b8 a.2 0), .int .u8 (b8 a.2 1), .int .u8 (b8 a.2 2), .int .u8 (b8 a.2 3), .int .u8 (b8 a.2 4), .int .u8 (b8 a.2 5), .int .u8 (b8 a.2 6), .int .u8 (b8 a.2 7), .int .u8 (b8 a.2 8), .int .u8 (b8 a.2 9), .int .u8 (b8 a.2 10), .int .u8 (b8 a.2 11), .int .u8 (b8 a.2 12), .int .u8 (b8 a.2 13), .int .u8 (b8 a.2 14), .int .u8 (b8 a.2 15)]) #[.bool false, .int .u8 0, .int .u8 0, .int .u8 0, .int .u8 0, .int .u8 0, .int .u8 0, .int .u8 0, .int .u8 0, .int .u8 0, .int .u8 0, .int .u8 0, .int .u8 0, .int .u8 0, .int .u8 0, .int .u8 0, .int .u8 0] ([a] : List T_api_Addr) hS tl_22 (by decide) (by decide) (by kernel_rfl) (by kernel_rfl) rfl (by intro x hx; rfl) rfl) ?_
            rintro _ h_10 ⟨b_4, rfl, hS, hk⟩
            replace hK := hK.trans hk
            replace hL_l := hL_l.kp hk
            refine HA.one (k := 7) ⟨⟨hL_l.is, (hS.box 2 rfl)⟩, (Go.Wk.at_nil _ _)⟩ (by kernel_rfl) ?_
            refine HS.eff rfl (want_none) rfl (st_append te_22 hS (i := 1) rfl (hS.own 0 rfl).slice rfl rfl rfl (by intro a _ u hu; simp [e_api_Addr, encI, encN, encB, encT] at hu; rcases hu with rfl | rfl | rfl | rfl | rfl | rfl | rfl | rfl | rfl | rfl | rfl | rfl | rfl | rfl | rfl | rfl | rfl <;> rfl) ho_5 (by omega)) ?_
            rintro v_2 h_11 ⟨hS, hk⟩
            replace hS : St F_6 (Ow.own 27 17 e_api_Addr (.slice (some ⟨b_4, 0, none⟩) 1 1) ([a] : List T_api_Addr) :: Ow.own 27 17 e_api_Addr v_2 ((([] : List T_api_Addr) ++ (cut l 0 n_1)) ++ ([a] : List T_api_Addr)) :: Ow.box b_1 27 (e_api_Addr a).toArray :: fr) h_11 := hS
            replace hK := hK.trans hk
            replace hL_l := hL_l.kp hk
            refine HA.one (k := 11) ⟨⟨hL_l.is, (hS.box 2 rfl)⟩, (Go.Wk.at_nil _ _)⟩ (by kernel_rfl) ?_
            refine HS.eff rfl (want_none) rfl (st_append te_22 hS (i := 1) rfl (cutIs hL_l.is n_1 (l.length : Int) ho_3.1 ho_3.2 (Int.le_refl _)) rfl rfl rfl (by intro a _ u hu; simp [e_api_Addr, encI, encN, encB, encT] at hu; rcases hu with rfl | rfl | rfl | rfl | rfl | rfl | rfl | rfl | rfl | rfl | rfl | rfl | rfl | rfl | rfl | rfl | rfl <;> rfl) ho_6 (by omega)) ?_
            rintro v_3 h_12 ⟨hS, hk⟩
            replace hS : St F_6 (Ow.own 27 17 e_api_Addr (.slice (some ⟨b_4, 0, none⟩) 1 1) ([a] : List T_api_Addr) :: Ow.own 27 17 e_api_Addr v_3 (((([] : List T_api_Addr) ++ (cut l 0 n_1)) ++ ([a] : List T_api_Addr)) ++ (cut l n_1 (l.length : Int))) :: Ow.box b_1 27 (e_api_Addr a).toArray :: fr) h_12 := hS
            replace hK := hK.trans hk
            replace hL_l := hL_l.kp hk
            refine HA.val (k := 12) (v := v_3) rfl rfl (by kernel_rfl) (by kernel_rfl) (want_none) rfl (fun _ ⟨hL_l, c203⟩ => q_assign rfl) ?_
            refine HA.nil ⟨⟨hL_l.is, (hS.box 2 rfl)⟩, (Go.Wk.at_nil _ _)⟩ (by kernel_rfl) (thenQ_normal (?_))
            refine HW.ret (?_)
            refine ⟨.inr rfl, v_3, res1 rfl (rt rfl), ?_⟩
            replace hS : St F_6 (Ow.own 27 17 e_api_Addr v_3 (((([] : List T_api_Addr) ++ (cut l 0 n_1)) ++ ([a] : List T_api_Addr)) ++ (cut l n_1 (l.length : Int))) :: Ow.own 27 17 e_api_Addr (.slice (some ⟨b_4, 0, none⟩) 1 1) ([a] : List T_api_Addr) :: Ow.box b_1 27 (e_api_Addr a).toArray :: fr) h_12 := hS.perm2 [1, 0, 2] 3 rfl rfl
            obtain ⟨F_7, hS, hk, hL_2⟩ := hS.freezeOwn
            replace hK := hK.trans hk
            replace hL_l := hL_l.kp hk
            replace hS : St F_7 (fr) h_12 := hS.perm2 [] 2 rfl rfl
            exact ⟨F_7, ((([] : List T_api_Addr) ++ (cut l 0 n_1)) ++ ([a] : List T_api_Addr)) ++ (cut l n_1 (l.length : Int)), v_3, rfl, hK, hS, hL_l, hL_2, hM⟩
          · refine HS.eff rfl (want_none) rfl (st_lit (enc := e_api_Addr) (cells := #[.bool a.1, .int .u8 (b8 a.2 0), .int .u8 (b8 a.2 1), .int .u8 (b8 a.2 2), .int .u8 (b8 a.2 3), .int .u8 (b8 a.2 4), .int .u8 (b8 a.2 5), .int .u8 (b8 a.2 6), .int .u8 (b8 a.2 7), .int .u8 (b8 a.2 8), .int .u8 (b8 a.2 9), .int .u8 (b8 a.2 10), .int .u8 (b8 a.2 11), .int .u8 (b8 a.2 12), .int .u8 (b8 a.2 13), .int .u8 (b8 a.2 14), .int .u8 (b8 a.2 15)]) #[.bool false, .int .u8 0, .int .u8 0, .int .u8 0, .int .u8 0, .int .u8 0, .int .u8 0, .int .u8 0, .int .u8 0, .int .u8 0, .int .u8 0, .int .u8 0, .int .u8 0, .int .u8 0, .int .u8 0, .int .u8 0, .int .u8 0] ([a] : List T_api_Addr) hS tl_22 (by decide) (by decide) (by kernel_rfl) (by kernel_rfl) rfl (by intro x hx; rfl) rfl) ?_
            rintro _ h_9 ⟨b_4, rfl, hS, hk⟩
            replace hK := hK.trans hk
            replace hL_l := hL_l.kp hk
            refine HA.one (k := 4) ⟨⟨hL_l.is, (hS.box 2 rfl)⟩, (Go.Wk.at_nil _ _)⟩ (by kernel_rfl) ?_
            refine HS.eff rfl (want_none) rfl (st_append te_22 hS (i := 1) rfl (cutIs hL_l.is 0 n_1 (Int.le_refl _) ho_3.1 ho_3.2) rfl rfl rfl (by intro a _ u hu; simp [e_api_Addr, encI, encN, encB, encT] at hu; rcases hu with rfl | rfl | rfl | rfl | rfl | rfl | rfl | rfl | rfl | rfl | rfl | rfl | rfl | rfl | rfl | rfl | rfl <;> rfl) ho_4 (by omega)) ?_
            rintro v_1 h_10 ⟨hS, hk⟩
            replace hS : St F_6 (Ow.own 27 17 e_api_Addr (.slice (some ⟨b_4, 0, none⟩) 1 1) ([a] : List T_api_Addr) :: Ow.own 27 17 e_api_Addr v_1 (([] : List T_api_Addr) ++ (cut l 0 n_1)) :: Ow.box b_1 27 (e_api_Addr a).toArray :: fr) h_10 := hS
            replace hK := hK.trans hk
            replace hL_l := hL_l.kp hk
            refine HA.one (k := 7) ⟨⟨hL_l.is, (hS.box 2 rfl)⟩, (Go.Wk.at_nil _ _)⟩ (by kernel_rfl) ?_
            refine HS.eff rfl (want_none) rfl (st_append te_22 hS (i := 1) rfl (hS.own 0 rfl).slice rfl rfl rfl (by intro a _ u hu; simp [e_api_Addr, encI, encN, encB, encT] at hu; rcases hu with rfl | rfl | rfl | rfl | rfl | rfl | rfl | rfl | rfl | rfl | rfl | rfl | rfl | rfl | rfl | rfl | rfl <;> rfl) ho_5 (by omega)) ?_
            rintro v_2 h_11 ⟨hS, hk⟩
            replace hS : St F_6 (Ow.own 27 17 e_api_Addr (.slice (some ⟨b_4, 0, none⟩) 1 1) ([a] : List T_api_Addr) :: Ow.own 27 17 e_api_Addr v_2 ((([] : List T_api_Addr) ++ (cut l 0 n_1)) ++ ([a] : List T_api_Addr)) :: Ow.box b_1 27 (e_api_Addr a).toArray :: fr) h_11 := hS
            replace hK := hK.trans hk
            replace hL_l := hL_l.kp hk
            refine HA.one (k := 11) ⟨⟨hL_l.is, (hS.box 2 rfl)⟩, (Go.Wk.at_nil _ _)⟩ (by kernel_rfl) ?_
            refine HS.eff rfl (want_none) rfl (st_append te_22 hS (i := 1) rfl (cutIs hL_l.is n_1 (l.length : Int) ho_3.1 ho_3.2 (Int.le_refl _)) rfl rfl rfl (by intro a _ u hu; simp [e_api_Addr, encI, encN, encB, encT] at hu; rcases hu with rfl | rfl | rfl | rfl | rfl | rfl | rfl | rfl | rfl | rfl | rfl | rfl | rfl | rfl | rfl | rfl | rfl <;> rfl) ho_6 (by omega)) ?_
            rintro v_3 h_12 ⟨hS, hk⟩
            replace hS : St F_6 (Ow.own 27 17 e_api_Addr (.slice (some ⟨b_4, 0, none⟩) 1 1) ([a] : List T_api_Addr) :: Ow.own 27 17 e_api_Addr v_3 (((([] : List T_api_Addr) ++ (cut l 0 n_1)) ++ ([a] : List T_api_Addr)) ++ (cut l n_1 (l.length : Int))) :: Ow.box b_1 27 (e_api_Addr a).toArray :: fr) h_12 := hS
            replace hK := hK.trans hk
            replace hL_l := hL_l.kp hk
            refine HA.val (k := 12) (v := v_3) rfl rfl (by kernel_rfl) (by kernel_rfl) (want_none) rfl (fun _ ⟨hL_l, c203⟩ => q_assign rfl) ?_
            refine HA.nil ⟨⟨hL_l.is, (hS.box 2 rfl)⟩, (Go.Wk.at_nil _ _)⟩ (by kernel_rfl) (thenQ_normal (?_))
            refine HW.ret (?_)
            refine ⟨.inr rfl, v_3, res1 rfl (rt rfl), ?_⟩
            replace hS : St F_6 (Ow.own 27 17 e_api_Addr v_3 (((([] : List T_api_Addr) ++ (cut l 0 n_1)) ++ ([a] : List T_api_Addr)) ++ (cut l n_1 (l.length : Int))) :: Ow.own 27 17 e_api_Addr (.slice (some ⟨b_4, 0, none⟩) 1 1) ([a] : List T_api_Addr) :: Ow.box b_1 27 (e_api_Addr a).toArray :: fr) h_12 := hS.perm2 [1, 0, 2] 3 rfl rfl
            obtain ⟨F_7, hS, hk, hL_2⟩ := hS.freezeOwn
            replace hK := hK.trans hk
            replace hL_l := hL_l.kp hk
            replace hS : St F_7 (fr) h_12 := hS.perm2 [] 2 rfl rfl
            exact ⟨F_7, ((([] : List T_api_Addr) ++ (cut l 0 n_1)) ++ ([a] : List T_api_Addr)) ++ (cut l n_1 (l.length : Int)), v_3, rfl, hK, hS, hL_l, hL_2, hM⟩
        · refine HS.eff rfl (want_none) rfl (st_lit (enc := e_api_Addr) (cells := #[.bool a.1, .int .u8 (b8 a.2 0), .int .u8 (b8 a.2 1), .int .u8 (b8 a.2 2), .int .u8 (b8 a.2 3), .int .u8 (b8 a.2 4), .int .u8 (b8 a.2 5), .int .u8 (b8 a.2 6), .int .u8 (b8 a.2 7), .int .u8 (b8 a.2 8), .int .u8 (b8 a.2 9), .int .u8 (b8 a.2 10), .int .u8 (b8 a.2 11), .int .u8 (b8 a.2 12), .int .u8 (b8 a.2 13), .int .u8 (b8 a.2 14), .int .u8 (b8 a.2 15)]) #[.bool false, .int .u8 0, .int .u8 0, .int .u8 0, .int .u8 0, .int .u8 0, .int .u8 0, .int .u8 0, .int .u8 0, .int .u8 0, .int .u8 0, .int .u8 0, .int .u8 0, .int .u8 0, .int .u8 0, .int .u8 0, .int .u8 0] ([a] : List T_api_Addr) hS tl_22 (by decide) (by decide) (by kernel_rfl) (by kernel_rfl) rfl (by intro x hx; rfl) rfl) ?_
          rintro _ h_8 ⟨b_3, rfl, hS, hk⟩
          replace hK := hK.trans hk
          replace hL_l := hL_l.kp hk
          refine HA.one (k := 0) ⟨⟨hL_l.is, (hS.box 1 rfl)⟩, (Go.Wk.at_nil _ _)⟩ (by kernel_rfl) ?_
          refine HS.eff rfl (want_none) rfl (st_litEmpty (α := T_api_Addr) e_api_Addr hS tl_22) ?_
          rintro _ h_9 ⟨b_4, rfl, hS, hk⟩
          replace hK := hK.trans hk
          replace hL_l := hL_l.kp hk
          refine HA.one (k := 4) ⟨⟨hL_l.is, (hS.box 2 rfl)⟩, (Go.Wk.at_nil _ _)⟩ (by kernel_rfl) ?_
          refine HS.eff rfl (want_none) rfl (st_append te_22 hS (i := 0) rfl (cutIs hL_l.is 0 n_1 (Int.le_refl _) ho_3.1 ho_3.2) rfl rfl rfl (by intro a _ u hu; simp [e_api_Addr, encI, encN, encB, encT] at hu; rcases hu with rfl | rfl | rfl | rfl | rfl | rfl | rfl | rfl | rfl | rfl | rfl | rfl | rfl | rfl | rfl | rfl | rfl <;> rfl) ho_4 (by omega)) ?_
          rintro v_1 h_10 ⟨hS, hk⟩
          replace hS : St F_6 (Ow.own 27 17 e_api_Addr v_1 (([] : List T_api_Addr) ++ (cut l 0 n_1)) :: Ow.own 27 17 e_api_Addr (.slice (some ⟨b_3, 0, none⟩) 1 1) ([a] : List T_api_Addr) :: Ow.box b_1 27 (e_api_Addr a).toArray :: fr) h_10 := hS
          replace hK := hK.trans hk
          replace hL_l := hL_l.kp hk
          refine HA.one (k := 7) ⟨⟨hL_l.is, (hS.box 2 rfl)⟩, (Go.Wk.at_nil _ _)⟩ (by kernel_rfl) ?_
          refine HS.eff rfl (want_none) rfl (st_append te_22 hS (i := 0) rfl (hS.own 1 rfl).slice rfl rfl rfl (by intro a _ u hu; simp [e_api_Addr, encI, encN, encB, encT] at hu; rcases hu with rfl | rfl | rfl | rfl | rfl | rfl | rfl | rfl | rfl | rfl | rfl | rfl | rfl | rfl | rfl | rfl | rfl <;> rfl) ho_5 (by omega)) ?_
          rintro v_2 h_11 ⟨hS, hk⟩
          replace hS : St F_6 (Ow.own 27 17 e_api_Addr v_2 ((([] : List T_api_Addr) ++ (cut l 0 n_1)) ++ ([a] : List T_api_Addr)) :: Ow.own 27 17 e_api_Addr (.slice (some ⟨b_3, 0, none⟩) 1 1) ([a] : List T_api_Addr) :: Ow.box b_1 27 (e_api_Addr a).toArray :: fr) h_11 := hS
          replace hK := hK.trans hk
          replace hL_l := hL_l.kp hk
          refine HA.one (k := 11) ⟨⟨hL_l.is, (hS.box 2 rfl)⟩, (Go.Wk.at_nil _ _)⟩ (by kernel_rfl) ?_
          refine HS.eff rfl (want_none) rfl (st_append te_22 hS (i := 0) rfl (cutIs hL_l.is n_1 (l.length : Int) ho_3.1 ho_3.2 (Int.le_refl _)) rfl rfl rfl (by intro a _ u hu; simp [e_api_Addr, encI, encN, encB, encT] at hu; rcases hu with rfl | rfl | rfl | rfl | rfl | rfl | rfl | rfl | rfl | rfl | rfl | rfl | rfl | rfl | rfl | rfl | rfl <;> rfl) ho_6 (by omega)) ?_
          rintro v_3 h_12 ⟨hS, hk⟩
          replace hS : St F_6 (Ow.own 27 17 e_api_Addr v_3 (((([] : List T_api_Addr) ++ (cut l 0 n_1)) ++ ([a] : List T_api_Addr)) ++ (cut l n_1 (l.length : Int))) :: Ow.own 27 17 e_api_Addr (.slice (some ⟨b_3, 0, none⟩) 1 1) ([a] : List T_api_Addr) :: Ow.box b_1 27 (e_api_Addr a).toArray :: fr) h_12 := hS
          replace hK := hK.trans hk
          replace hL_l := hL_l.kp hk
          refine HA.val (k := 12) (v := v_3) rfl rfl (by kernel_rfl) (by kernel_rfl) (want_none) rfl (fun _ ⟨hL_l, c203⟩ => q_assign rfl) ?_
          refine HA.nil ⟨⟨hL_l.is, (hS.box 2 rfl)⟩, (Go.Wk.at_nil _ _)⟩ (by kernel_rfl) (thenQ_normal (?_))
          refine HW.ret (?_)
          refine ⟨.inr rfl, v_3, res1 rfl (rt rfl), ?_⟩
          obtain ⟨F_7, hS, hk, hL_2⟩ := hS.freezeOwn
          replace hK := hK.trans hk
          replace hL_l := hL_l.kp hk
          replace hS : St F_7 (fr) h_12 := hS.perm2 [] 2 rfl rfl
          exact ⟨F_7, ((([] : List T_api_Addr) ++ (cut l 0 n_1)) ++ ([a] : List T_api_Addr)) ++ (cut l n_1 (l.length : Int)), v_3, rfl, hK, hS, hL_l, hL_2, hM⟩

def ref11_Of_l1 (l : List T_api_Addr) (Q : (List T_api_Addr) → Prop) (K_1 : (List T_api_Addr) → Int → Prop) (out_1 : List T_api_Addr) (i_1 : Int) : Prop :=
  (i_1 < (l.length : Int) → ((0 : Int) ≤ i_1 ∧ i_1 < (l.length : Int)) ∧ (ref11_Add_W out_1 (gi l i_1) (fun r_2 => (I64 (i_1 + 1)) ∧ (K_1 r_2 (i_1 + 1))))) ∧ (¬ (i_1 < (l.length : Int)) → Q out_1)
def ref11_Of_W (l : List T_api_Addr) (Q : (List T_api_Addr) → Prop) : Prop :=
  loopW (fun (K_1 : (List T_api_Addr × Int) → Prop) (s : List T_api_Addr × Int) => ref11_Of_l1 l Q (fun out_1 i_1 => K_1 (out_1, i_1)) s.1 s.2) ([], 0)
set_option maxHeartbeats 40000000 in
set_option maxRecDepth 100000 in
theorem ref11_Of_walk {F : Fz} {fr : List Ow} {h0 : Heap} (l : List T_api_Addr) (vl : Value) (hS : St F (fr) h0) (hL_l : SliceF F h0 17 e_api_Addr vl l) {Q : (List T_api_Addr) → Prop} (hM : ref11_Of_W l Q) :
    HC Tryd.prog 28 #[vl] h0 fun u h' => ∃ (F' : Fz) (r_1 : List T_api_Addr) (vr_1 : Value), u = vr_1 ∧ Kp F h0 F' h' ∧ St F' (fr) h' ∧ (SliceF F' h' 17 e_api_Addr vl l) ∧ (SliceF F' h' 17 e_api_Addr vr_1 r_1) ∧ Q r_1 := by
  unfold ref11_Of_W at hM
  have hK := Kp.refl F h0
  refine HC.of_HW (n := 19) Tryd.func28 rfl rfl (Nat.le_of_ble_eq_true rfl) ?_
  refine HW.seq ?_
  refine HW.region ?_
  refine HO.val (v := .slice none 0 0) (want_none) rfl (q_assign rfl) ?_
  refine HO.nil (thenQ_normal (?_))
  refine HW.seq ?_
  refine HW.region ?_
  refine HO.eff (want_none) rfl (st_litEmpty (α := T_api_Addr) e_api_Addr hS tl_22) ?_
  rintro _ h_1 ⟨b_1, rfl, hS, hk⟩
  replace hK := hK.trans hk
  replace hL_l := hL_l.kp hk
  refine HO.val (v := .slice (some ⟨b_1, 0, none⟩) 0 0) (want_none) rfl (q_assign rfl) ?_
  refine HO.nil (thenQ_normal (?_))
  refine HW.seq ?_
  refine HW.seq ?_
  refine HW.region ?_
  refine HO.val (v := .int .i64 0) (want_none) rfl (q_assign rfl) ?_
  refine HO.nil (thenQ_normal (?_))
  refine HW.block ?_
  obtain ⟨I_1, m_1, hI_1, hR_1⟩ := hM
  obtain ⟨F_1, hS, hk, hL_3⟩ := hS.freezeOwn
  replace hK := hK.trans hk
  replace hL_l := hL_l.kp hk
  refine HW.loop (S := List T_api_Addr × Int) (fun s f h => match s with | (out_1, i_1) => ∃ (F' : Fz) (vout_1 : Value), f 0 = vl ∧ f 2 = .slice none 0 0 ∧ f 3 = vout_1 ∧ f 4 = .int .i64 i_1 ∧ Kp F h0 F' h ∧ St F' (fr) h ∧ (SliceF F' h 17 e_api_Addr vl l) ∧ (SliceF F' h 17 e_api_Addr vout_1 out_1) ∧ I_1 (out_1, i_1)) m_1 ([], 0) ⟨F_1, .slice (some ⟨b_1, 0, none⟩) 0 0, rfl, rfl, rfl, rfl, hK, hS, hL_l, hL_3, hI_1⟩ ?_
  rintro ⟨out_1, i_1⟩ f_1 h_2 ⟨F_2, vout_1, e0, e2, e3, e4, hK, hS, hL_l, hL_2, hI0⟩
  obtain ⟨K_1, hKe_1⟩ : ∃ K : (List T_api_Addr) → Int → Prop, K = fun out_1' i_1' => I_1 (out_1', i_1') ∧ m_1 (out_1', i_1') < m_1 (out_1, i_1) := ⟨_, rfl⟩
  have hM : ref11_Of_l1 l Q K_1 out_1 i_1 := by rw [hKe_1]; exact hR_1 (out_1, i_1) hI0
  unfold ref11_Of_l1 at hM
  refine HW.fr [(0, vl), (2, .slice none 0 0), (3, vout_1), (4, .int .i64 i_1)] ⟨e0, e2, e3, e4, trivial⟩ ?_
  refine HW.seq ?_
  refine HW.seq ?_
  refine HW.region ?_
  refine HO.val (v := .int .i64 i_1) (want_none) rfl (q_move rfl) ?_
  refine HO.val (v := vl) (want_none) rfl (q_move rfl) ?_
  refine HO.val (v := .int .i64 (l.length : Int)) (want_none) rfl (q_len ts_22 (shp hL_l.is) rfl rfl) ?_
  refine HO.val (v := .bool (decide (i_1 < (l.length : Int)))) (want_none) rfl (q_lss rfl rfl) ?_
  refine HO.nil (thenQ_normal (?_))
  refine HW.cond (decide (i_1 < (l.length : Int))) rfl (fun c_1 => ?_) (fun c_1 => ?_)
  · replace hM := hM.1 (of_decide_eq_true c_1)
    refine HW.skip (thenQ_normal (?_))
    refine HW.seq ?_
    refine HW.block ?_
    refine HW.region ?_
    refine HO.val (v := vout_1) (want_none) rfl (q_move rfl) ?_
    refine HO.val (v := vl) (want_none) rfl (q_move rfl) ?_
    refine HO.val (v := .int .i64 i_1) (want_none) rfl (q_move rfl) ?_
    obtain ⟨ho_1, hM⟩ := hM
    refine HO.val (v := elemPtr 17 vl (i_1).toNat) (want_none) rfl (q_idx ts_22 hL_l.is rfl rfl ho_1) ?_
    refine HO.val (v := .agg (e_api_Addr (gi l i_1)).toArray) (want_none) rfl (q_ldElemAgg (cs := (e_api_Addr (gi l i_1))) ta_27 hL_l.is rfl ho_1 rfl) ?_
    refine HO.call (want_none) rfl (ec en_53 rfl rfl) (ref11_Add_walk (fr := (fr)) out_1 (gi l i_1) vout_1 hS hL_2 hM) ?_
    rintro vr_2 h_3 ⟨F_3, r_2, _, rfl, hk, hS, _, hL_4, hM⟩
    replace hK := hK.trans hk
    replace hL_l := hL_l.kp hk
    replace hL_2 := hL_2.kp hk
    refine HO.val (v := vr_2) (want_none) rfl (q_assign rfl) ?_
    refine HO.nil (blockQ_normal (thenQ_normal (?_)))
    refine HW.region ?_
    refine HO.val (v := .int .i64 i_1) (want_none) rfl (q_move rfl) ?_
    obtain ⟨ho_2, hM⟩ := hM
    refine HO.val (v := .int .i64 (i_1 + 1)) (want_none) rfl (q_addN _ rfl rfl rfl ho_2.1 ho_2.2) ?_
    refine HO.val (v := .int .i64 (i_1 + 1)) (want_none) rfl (q_assign rfl) ?_
    refine HO.nil (thenQ_normal (?_))
    rw [hKe_1] at hM
    exact ⟨(r_2, i_1 + 1), ⟨F_3, vr_2, rfl, rfl, rfl, rfl, hK, hS, hL_l, hL_4, hM.1⟩, hM.2⟩
  · replace hM := hM.2 (of_decide_eq_false c_1)
    refine HW.exit (thenQ_exit (thenQ_exit (blockQ_exit (thenQ_normal (?_)))))
    refine HW.seq ?_
    refine HW.region ?_
    refine HO.val (v := vout_1) (want_none) rfl (q_move rfl) ?_
    refine HO.val (v := vout_1) (want_none) rfl (q_assign rfl) ?_
    refine HO.nil (thenQ_normal (?_))
    refine HW.ret (?_)
    refine ⟨.inr rfl, vout_1, res1 rfl (rt rfl), ?_⟩
    exact ⟨F_2, out_1, vout_1, rfl, hK, hS, hL_l, hL_2, hM⟩

def slices_Clone_s_api_Addr_api_Addr_W (s1 : List T_api_Addr) (Q : (List T_api_Addr) → Prop) : Prop :=
  (s1 = [] → Q []) ∧ (True → ((([] : List T_api_Addr).length + s1.length) * 17 ≤ 140737488355328) ∧ (Q (([] : List T_api_Addr) ++ s1)))
set_option maxHeartbeats 40000000 in
set_option maxRecDepth 100000 in
theorem slices_Clone_s_api_Addr_api_Addr_walk {F : Fz} {fr : List Ow} {h0 : Heap} (s1 : List T_api_Addr) (vs : Value) (hS : St F (fr) h0) (hL_s1 : SliceF F h0 17 e_api_Addr vs s1) {Q : (List T_api_Addr) → Prop} (hM : slices_Clone_s_api_Addr_api_Addr_W s1 Q) :
    HC Tryd.prog 48 #[vs] h0 fun u h' => ∃ (F' : Fz) (r_1 : List T_api_Addr) (vr_1 : Value), u = vr_1 ∧ Kp F h0 F' h' ∧ St F' (Ow.own 27 17 e_api_Addr vr_1 r_1 :: fr) h' ∧ (SliceF F' h' 17 e_api_Addr vs s1) ∧ Q r_1 := by
  unfold slices_Clone_s_api_Addr_api_Addr_W at hM
  have hK := Kp.refl F h0
  refine HC.of_HW (n := 8) Tryd.func48 rfl rfl (Nat.le_of_ble_eq_true rfl) ?_
  refine HW.seq ?_
  refine HW.region ?_
  refine HO.val (v := .slice none 0 0) (want_none) rfl (q_assign rfl) ?_
  refine HO.nil (thenQ_normal (?_))
  refine HW.seq ?_
  refine HW.seq ?_
  refine HW.region ?_
  refine HO.val (v := vs) (want_none) rfl (q_move rfl) ?_
  refine HO.val (v := .bool (isNil vs)) (want_none) rfl (q_eqlSnil Tryd.underlying22 (shp hL_s1.is) rfl rfl) ?_
  refine HO.nil (thenQ_normal (?_))
  refine HW.cond (isNil vs) rfl (fun c_1 => ?_) (fun c_1 => ?_)
  · replace hM := hM.1 (isNil_nil hL_s1.is c_1)
    refine HW.seq ?_
    refine HW.region ?_
    refine HO.val (v := .slice none 0 0) (want_none) rfl (q_assign rfl) ?_
    refine HO.nil (thenQ_normal (?_))
    refine HW.ret (thenQ_ret (?_))
    refine ⟨.inr rfl, .slice none 0 0, res1 rfl (rt rfl), ?_⟩
    replace hS := hS.nilOwn 27 17 e_api_Addr
    exact ⟨F, [], .slice none 0 0, rfl, hK, hS, hL_s1, hM⟩
  · replace hM := hM.2 trivial
    refine HW.skip (thenQ_normal (?_))
    refine HW.seq ?_
    refine HW.region ?_
    refine HO.eff (want_none) rfl (st_litEmpty (α := T_api_Addr) e_api_Addr hS tl_22) ?_
    rintro _ h_1 ⟨b_1, rfl, hS, hk⟩
    replace hK := hK.trans hk
    replace hL_s1 := hL_s1.kp hk
    refine HO.val (v := vs) (want_none) rfl (q_move rfl) ?_
    obtain ⟨ho_1, hM⟩ := hM
    refine HO.eff (want_none) rfl (st_append te_22 hS (i := 0) rfl hL_s1.is rfl rfl rfl (by intro a _ u hu; simp [e_api_Addr, encI, encN, encB, encT] at hu; rcases hu with rfl | rfl | rfl | rfl | rfl | rfl | rfl | rfl | rfl | rfl | rfl | rfl | rfl | rfl | rfl | rfl | rfl <;> rfl) ho_1 (by omega)) ?_
    rintro v_1 h_2 ⟨hS, hk⟩
    replace hS : St F (Ow.own 27 17 e_api_Addr v_1 (([] : List T_api_Addr) ++ s1) :: fr) h_2 := hS
    replace hK := hK.trans hk
    replace hL_s1 := hL_s1.kp hk
    refine HO.val (v := v_1) (want_none) rfl (q_assign rfl) ?_
    refine HO.nil (thenQ_normal (?_))
    refine HW.ret (?_)
    refine ⟨.inr rfl, v_1, res1 rfl (rt rfl), ?_⟩
    exact ⟨F, ([] : List T_api_Addr) ++ s1, v_1, rfl, hK, hS, hL_s1, hM⟩

def slices_IndexFunc_s_api_Addr_api_Addr_l1 (s1 : List T_api_Addr) (cf_f : T_api_Addr → Bool) (Q : Int → Prop) (K_1 : Int → Prop) (n_1 : Int) : Prop :=
  (n_1 < (s1.length : Int) → ((0 : Int) ≤ n_1 ∧ n_1 < (s1.length : Int)) ∧ (((cf_f (gi s1 n_1)) = true → Q n_1) ∧ ((cf_f (gi s1 n_1)) = false → (I64 (n_1 + 1)) ∧ (K_1 (n_1 + 1))))) ∧ (¬ (n_1 < (s1.length : Int)) → Q (-1))
def slices_IndexFunc_s_api_Addr_api_Addr_W (s1 : List T_api_Addr) (cf_f : T_api_Addr → Bool) (Q : Int → Prop) : Prop :=
  loopW (fun (K_1 : Int → Prop) (s : Int) => slices_IndexFunc_s_api_Addr_api_Addr_l1 s1 cf_f Q K_1 s) 0
set_option maxHeartbeats 40000000 in
set_option maxRecDepth 100000 in
theorem slices_IndexFunc_s_api_Addr_api_Addr_walk {F : Fz} {fr : List Ow} {h0 : Heap} (s1 : List T_api_Addr) (cf_f : T_api_Addr → Bool) (vs : Value) (g_f : Nat) (fs_f : Array Value) (cs_f : Array Value) (hS : St F (fr) h0) (hL_s1 : SliceF F h0 17 e_api_Addr vs s1) (hF_cf_f : FnP Tryd.prog F h0 g_f fs_f cs_f (fun x : T_api_Addr => [.agg (e_api_Addr x).toArray]) (fun x => .bool (cf_f x))) {Q : Int → Prop} (hM : slices_IndexFunc_s_api_Addr_api_Addr_W s1 cf_f Q) :
    HC Tryd.prog 70 #[vs, .func (.func g_f) fs_f cs_f] h0 fun u h' => ∃ (F' : Fz) (r_1 : Int), u = .int .i64 r_1 ∧ Kp F h0 F' h' ∧ St F' (fr) h' ∧ (SliceF F' h' 17 e_api_Addr vs s1) ∧ (FnP Tryd.prog F' h' g_f fs_f cs_f (fun x : T_api_Addr => [.agg (e_api_Addr x).toArray]) (fun x => .bool (cf_f x))) ∧ Q r_1 := by
  unfold slices_IndexFunc_s_api_Addr_api_Addr_W at hM
  have hK := Kp.refl F h0
  refine HC.of_HW (n := 19) Tryd.func70 rfl rfl (Nat.le_of_ble_eq_true rfl) ?_
  refine HW.seq ?_
  refine HW.region ?_
  refine HO.val (v := .int .i64 0) (want_none) rfl (q_assign rfl) ?_
  refine HO.nil (thenQ_normal (?_))
  refine HW.seq ?_
  refine HW.seq ?_
  refine HW.region ?_
  refine HO.val (v := vs) (want_none) rfl (q_move rfl) ?_
  refine HO.val (v := .int .i64 (s1.length : Int)) (want_none) rfl (q_len ts_22 (shp hL_s1.is) rfl rfl) ?_
  refine HO.val (v := .int .i64 0) (want_none) rfl (q_move rfl) ?_
  refine HO.nil (thenQ_normal (?_))
  refine HW.block ?_
  obtain ⟨I_1, m_1, hI_1, hR_1⟩ := hM
  refine HW.loop (S := Int) (fun n_1 f h => ∃ (F' : Fz), f 0 = vs ∧ f 1 = .func (.func g_f) fs_f cs_f ∧ f 4 = .int .i64 0 ∧ f 7 = .int .i64 (s1.length : Int) ∧ f 8 = .int .i64 n_1 ∧ Kp F h0 F' h ∧ St F' (fr) h ∧ (SliceF F' h 17 e_api_Addr vs s1) ∧ (FnP Tryd.prog F' h g_f fs_f cs_f (fun x : T_api_Addr => [.agg (e_api_Addr x).toArray]) (fun x => .bool (cf_f x))) ∧ I_1 n_1) m_1 0 ⟨F, rfl, rfl, rfl, rfl, rfl, hK, hS, hL_s1, hF_cf_f, hI_1⟩ ?_
  rintro n_1 f_1 h_1 ⟨F_1, e0, e1, e4, e7, e8, hK, hS, hL_s1, hF_cf_f, hI0⟩
  obtain ⟨K_1, hKe_1⟩ : ∃ K : Int → Prop, K = fun n_1' => I_1 n_1' ∧ m_1 n_1' < m_1 n_1 := ⟨_, rfl⟩
  have hM : slices_IndexFunc_s_api_Addr_api_Addr_l1 s1 cf_f Q K_1 n_1 := by rw [hKe_1]; exact hR_1 n_1 hI0
  unfold slices_IndexFunc_s_api_Addr_api_Addr_l1 at hM
  refine HW.fr [(0, vs), (1, .func (.func g_f) fs_f cs_f), (4, .int .i64 0), (7, .int .i64 (s1.length : Int)), (8, .int .i64 n_1)] ⟨e0, e1, e4, e7, e8, trivial⟩ ?_
  refine HW.seq ?_
  refine HW.region ?_
  refine HO.val (v := .bool (decide (n_1 < (s1.length : Int)))) (want_none) rfl (q_lss rfl rfl) ?_
  refine HO.nil (thenQ_normal (?_))
  refine HW.seq ?_
  refine HW.cond (decide (n_1 < (s1.length : Int))) rfl (fun c_1 => ?_) (fun c_1 => ?_)
  · replace hM := hM.1 (of_decide_eq_true c_1)
    refine HW.skip (thenQ_normal (?_))
    refine HW.seq ?_
    refine HW.block ?_
    refine HW.seq ?_
    refine HW.region ?_
    refine HO.val (v := .int .i64 n_1) (want_none) rfl (q_move rfl) ?_
    refine HO.val (v := .int .i64 n_1) (want_none) rfl (q_assign rfl) ?_
    refine HO.nil (thenQ_normal (?_))
    refine HW.seq ?_
    refine HW.region ?_
    refine HO.val (v := .func (.func g_f) fs_f cs_f) (want_none) rfl (q_move rfl) ?_
    refine HO.val (v := vs) (want_none) rfl (q_move rfl) ?_
    refine HO.val (v := .int .i64 n_1) (want_none) rfl (q_move rfl) ?_
    obtain ⟨ho_1, hM⟩ := hM
    refine HO.val (v := elemPtr 17 vs (n_1).toNat) (want_none) rfl (q_idx ts_22 hL_s1.is rfl rfl ho_1) ?_
    refine HO.val (v := .agg (e_api_Addr (gi s1 n_1)).toArray) (want_none) rfl (q_ldElemAgg (cs := (e_api_Addr (gi s1 n_1))) ta_27 hL_s1.is rfl ho_1 rfl) ?_
    refine HO.call (want_none) rfl (hF_cf_f.ec (gi s1 n_1) rfl rfl) (hF_cf_f.hc (gi s1 n_1) hS) ?_
    rintro _ h_2 ⟨rfl, hS, hk⟩
    replace hK := hK.trans hk
    replace hL_s1 := hL_s1.kp hk
    replace hF_cf_f := hF_cf_f.kp hk
    refine HO.nil (thenQ_normal (?_))
    refine HW.cond (cf_f (gi s1 n_1)) rfl (fun c_2 => ?_) (fun c_2 => ?_)
    · replace hM := hM.1 c_2
      refine HW.seq ?_
      refine HW.region ?_
      refine HO.val (v := .int .i64 n_1) (want_none) rfl (q_move rfl) ?_
      refine HO.val (v := .int .i64 n_1) (want_none) rfl (q_assign rfl) ?_
      refine HO.nil (thenQ_normal (?_))
      refine HW.ret (blockQ_ret (thenQ_ret (thenQ_ret (blockQ_ret (thenQ_ret (?_))))))
      refine ⟨.inr rfl, .int .i64 n_1, res1 rfl (rt rfl), ?_⟩
      exact ⟨F_1, n_1, rfl, hK, hS, hL_s1, hF_cf_f, hM⟩
    · replace hM := hM.2 c_2
      refine HW.skip (blockQ_normal (thenQ_normal (?_)))
      refine HW.region ?_
      obtain ⟨ho_2, hM⟩ := hM
      refine HO.val (v := .int .i64 (n_1 + 1)) (want_none) rfl (q_addN _ rfl rfl rfl ho_2.1 ho_2.2) ?_
      refine HO.val (v := .int .i64 (n_1 + 1)) (want_none) rfl (q_move rfl) ?_
      refine HO.nil (thenQ_normal (?_))
      rw [hKe_1] at hM
      exact ⟨n_1 + 1, ⟨F_1, rfl, rfl, rfl, rfl, rfl, hK, hS, hL_s1, hF_cf_f, hM.1⟩, hM.2⟩
  · replace hM := hM.2 (of_decide_eq_false c_1)
    refine HW.exit (thenQ_exit (thenQ_exit (blockQ_exit (thenQ_normal (?_)))))
    refine HW.seq ?_
    refine HW.region ?_
    refine HO.val (v := .int .i64 (-1)) (want_none) rfl (q_assign rfl) ?_
    refine HO.nil (thenQ_normal (?_))
    refine HW.ret (?_)
    refine ⟨.inr rfl, .int .i64 (-1), res1 rfl (rt rfl), ?_⟩
    exact ⟨F_1, (-1), rfl, hK, hS, hL_s1, hF_cf_f, hM⟩

def slices_DeleteFunc_s_api_Addr_api_Addr_l2 (cf_del : T_api_Addr → Bool) (Q : (List T_api_Addr) → Prop) (K_1 : (List T_api_Addr) → Int → Int → Prop) (l_1 : List T_api_Addr) (i_1 : Int) (j_1 : Int) : Prop :=
  (j_1 < (l_1.length : Int) → ((0 : Int) ≤ j_1 ∧ j_1 < (l_1.length : Int)) ∧ (((!(cf_del (gi l_1 j_1))) = true → ((0 : Int) ≤ i_1 ∧ i_1 < (l_1.length : Int)) ∧ ((I64 (i_1 + 1)) ∧ ((I64 (j_1 + 1)) ∧ (K_1 (l_1.set (i_1).toNat (gi l_1 j_1)) (i_1 + 1) (j_1 + 1))))) ∧ ((!(cf_del (gi l_1 j_1))) = false → (I64 (j_1 + 1)) ∧ (K_1 l_1 i_1 (j_1 + 1))))) ∧ (¬ (j_1 < (l_1.length : Int)) → ((0 : Int) ≤ i_1 ∧ i_1 ≤ (l_1.length : Int)) ∧ (((0 : Int) ≤ i_1 ∧ i_1 ≤ (l_1.length : Int) ∧ (l_1.length : Int) ≤ (l_1.length : Int)) ∧ (((0 : Int) ≤ i_1 ∧ i_1 ≤ ((clr l_1 i_1 (l_1.length : Int)).length : Int)) ∧ (Q (cut (clr l_1 i_1 (l_1.length : Int)) 0 i_1)))))
def slices_DeleteFunc_s_api_Addr_api_Addr_W (s1 : List T_api_Addr) (cf_del : T_api_Addr → Bool) (Q : (List T_api_Addr) → Prop) : Prop :=
  slices_IndexFunc_s_api_Addr_api_Addr_W s1 cf_del (fun r_2 => (r_2 = (-1) → Q s1) ∧ (¬ (r_2 = (-1)) → (I64 (r_2 + 1)) ∧ (loopW (fun (K_1 : (List T_api_Addr × Int × Int) → Prop) (s : List T_api_Addr × Int × Int) => slices_DeleteFunc_s_api_Addr_api_Addr_l2 cf_del Q (fun l_1 i_1 j_1 => K_1 (l_1, i_1, j_1)) s.1 s.2.1 s.2.2) (s1, r_2, r_2 + 1))))
set_option maxHeartbeats 40000000 in
set_option maxRecDepth 100000 in
theorem slices_DeleteFunc_s_api_Addr_api_Addr_walk {F : Fz} {fr : List Ow} {h0 : Heap} (s1 : List T_api_Addr) (cf_del : T_api_Addr → Bool) (vs : Value) (g_del : Nat) (fs_del : Array Value) (cs_del : Array Value) (hS : St F (Ow.own 27 17 e_api_Addr vs s1 :: fr) h0) (hF_cf_del : FnP Tryd.prog F h0 g_del fs_del cs_del (fun x : T_api_Addr => [.agg (e_api_Addr x).toArray]) (fun x => .bool (cf_del x))) {Q : (List T_api_Addr) → Prop} (hM : slices_DeleteFunc_s_api_Addr_api_Addr_W s1 cf_del Q) :
    HC Tryd.prog 55 #[vs, .func (.func g_del) fs_del cs_del] h0 fun u h' => ∃ (F' : Fz) (r_1 : List T_api_Addr) (vr_1 : Value), u = vr_1 ∧ Kp F h0 F' h' ∧ St F' (Ow.own 27 17 e_api_Addr vr_1 r_1 :: fr) h' ∧ (FnP Tryd.prog F' h' g_del fs_del cs_del (fun x : T_api_Addr => [.agg (e_api_Addr x).toArray]) (fun x => .bool (cf_del x))) ∧ Q r_1 := by
  unfold slices_DeleteFunc_s_api_Addr_api_Addr_W at hM
  have hK := Kp.refl F h0
  refine HC.of_HW (n := 42) Tryd.func55 rfl rfl (Nat.le_of_ble_eq_true rfl) ?_
  refine HW.seq ?_
  refine HW.region ?_
  refine HO.val (v := .slice none 0 0) (want_none) rfl (q_assign rfl) ?_
  refine HO.nil (thenQ_normal (?_))
  refine HW.seq ?_
  refine HW.region ?_
  refine HO.val (v := vs) (want_none) rfl (q_move rfl) ?_
  refine HO.val (v := .func (.func g_del) fs_del cs_del) (want_none) rfl (q_move rfl) ?_
  have hZ_1 := hS
  have hkz_1 := (hS.freeze).2
  replace hS := hS.freeze.1
  have hL_1 : SliceF (fun b => F b ∨ (Ow.own 27 17 e_api_Addr vs s1).foot b) h0 17 e_api_Addr vs s1 := ⟨(hZ_1.own 0 rfl).slice, fun _ b hb => .inr hb⟩
  refine HO.call (want_none) rfl (ec en_70 rfl rfl) (slices_IndexFunc_s_api_Addr_api_Addr_walk (fr := (fr)) s1 cf_del vs g_del fs_del cs_del hS hL_1 (hF_cf_del.kp hkz_1) hM) ?_
  rintro _ h_1 ⟨F_1, r_2, rfl, hk, hS, _, _, hM⟩
  obtain ⟨hS, hk⟩ := hZ_1.back hk hS
  generalize (fun b => F_1 b ∧ ¬ (Ow.own 27 17 e_api_Addr vs s1).foot b) = F_2 at hS hk
  replace hK := hK.trans hk
  replace hF_cf_del := hF_cf_del.kp hk
  refine HO.val (v := .int .i64 r_2) (want_none) rfl (q_assign rfl) ?_
  refine HO.nil (thenQ_normal (?_))
  refine HW.seq ?_
  refine HW.seq ?_
  refine HW.region ?_
  refine HO.val (v := .int .i64 r_2) (want_none) rfl (q_move rfl) ?_
  refine HO.val (v := .bool (decide (r_2 = (-1)))) (want_none) rfl (q_eql rfl rfl) ?_
  refine HO.nil (thenQ_normal (?_))
  refine HW.cond (decide (r_2 = (-1))) rfl (fun c_1 => ?_) (fun c_1 => ?_)
  · replace hM := hM.1 (of_decide_eq_true c_1)
    refine HW.seq ?_
    refine HW.region ?_
    refine HO.val (v := vs) (want_none) rfl (q_move rfl) ?_
    refine HO.val (v := vs) (want_none) rfl (q_assign rfl) ?_
    refine HO.nil (thenQ_normal (?_))
    refine HW.ret (thenQ_ret (?_))
    refine ⟨.inr rfl, vs, res1 rfl (rt rfl), ?_⟩
    exact ⟨F_2, s1, vs, rfl, hK, hS, hF_cf_del, hM⟩
  · replace hM := hM.2 (of_decide_eq_false c_1)
    refine HW.skip (thenQ_normal (?_))
    refine HW.seq ?_
    refine HW.seq ?_
    refine HW.region ?_
    refine HO.val (v := .int .i64 r_2) (want_none) rfl (q_move rfl) ?_
    obtain ⟨ho_1, hM⟩ := hM
    refine HO.val (v := .int .i64 (r_2 + 1)) (want_none) rfl (q_addN _ rfl rfl rfl ho_1.1 ho_1.2) ?_
    refine HO.val (v := .int .i64 (r_2 + 1)) (want_none) rfl (q_assign rfl) ?_
    refine HO.nil (thenQ_normal (?_))
    refine HW.block ?_
    obtain ⟨I_1, m_1, hI_1, hR_1⟩ := hM
    refine HW.loop (S := List T_api_Addr × Int × Int) (fun s f h => match s with | (l_1, i_1, j_1) => ∃ (F' : Fz), f 0 = vs ∧ f 1 = .func (.func g_del) fs_del cs_del ∧ f 4 = .slice none 0 0 ∧ f 5 = .int .i64 i_1 ∧ f 6 = .int .i64 j_1 ∧ Kp F h0 F' h ∧ St F' (Ow.own 27 17 e_api_Addr vs l_1 :: fr) h ∧ (FnP Tryd.prog F' h g_del fs_del cs_del (fun x : T_api_Addr => [.agg (e_api_Addr x).toArray]) (fun x => .bool (cf_del x))) ∧ I_1 (l_1, i_1, j_1)) m_1 (s1, r_2, r_2 + 1) ⟨F_2, rfl, rfl, rfl, rfl, rfl, hK, hS, hF_cf_del, hI_1⟩ ?_
    rintro ⟨l_1, i_1, j_1⟩ f_1 h_2 ⟨F_3, e0, e1, e4, e5, e6, hK, hS, hF_cf_del, hI0⟩
    obtain ⟨K_1, hKe_1⟩ : ∃ K : (List T_api_Addr) → Int → Int → Prop, K = fun l_1' i_1' j_1' => I_1 (l_1', i_1', j_1') ∧ m_1 (l_1', i_1', j_1') < m_1 (l_1, i_1, j_1) := ⟨_, rfl⟩
    have hM : slices_DeleteFunc_s_api_Addr_api_Addr_l2 cf_del Q K_1 l_1 i_1 j_1 := by rw [hKe_1]; exact hR_1 (l_1, i_1, j_1) hI0
    unfold slices_DeleteFunc_s_api_Addr_api_Addr_l2 at hM
    refine HW.fr [(0, vs), (1, .func (.func g_del) fs_del cs_del), (4, .slice none 0 0), (5, .int .i64 i_1), (6, .int .i64 j_1)] ⟨e0, e1, e4, e5, e6, trivial⟩ ?_
    refine HW.seq ?_
    refine HW.seq ?_
    refine HW.region ?_
    refine HO.val (v := .int .i64 j_1) (want_none) rfl (q_move rfl) ?_
    refine HO.val (v := vs) (want_none) rfl (q_move rfl) ?_
    refine HO.val (v := .int .i64 (l_1.length : Int)) (want_none) rfl (q_len ts_22 (shp (hS.own 0 rfl).slice) rfl rfl) ?_
    refine HO.val (v := .bool (decide (j_1 < (l_1.length : Int)))) (want_none) rfl (q_lss rfl rfl) ?_
    refine HO.nil (thenQ_normal (?_))
    refine HW.cond (decide (j_1 < (l_1.length : Int))) rfl (fun c_2 => ?_) (fun c_2 => ?_)
    · replace hM := hM.1 (of_decide_eq_true c_2)
      refine HW.skip (thenQ_normal (?_))
      refine HW.seq ?_
      refine HW.block ?_
      refine HW.seq ?_
      refine HW.region ?_
      refine HO.val (v := vs) (want_none) rfl (q_move rfl) ?_
      refine HO.val (v := .int .i64 j_1) (want_none) rfl (q_move rfl) ?_
      obtain ⟨ho_2, hM⟩ := hM
      refine HO.val (v := elemPtr 17 vs (j_1).toNat) (want_none) rfl (q_idx ts_22 (hS.own 0 rfl).slice rfl rfl ho_2) ?_
      refine HO.val (v := .agg (e_api_Addr (gi l_1 j_1)).toArray) (want_none) rfl (q_ldElemAgg (cs := (e_api_Addr (gi l_1 j_1))) ta_27 (hS.own 0 rfl).slice rfl ho_2 rfl) ?_
      refine HO.eff (want_none) rfl (st_alloc (c := (e_api_Addr (false, (default : Ba 16))).toArray) hS tz_27 rfl) ?_
      rintro _ h_3 ⟨b_1, rfl, hS, hk⟩
      replace hK := hK.trans hk
      replace hF_cf_del := hF_cf_del.kp hk
      refine HO.sto (want_none) rfl (st_storeAgg (c' := (e_api_Addr (gi l_1 j_1)).toArray) hS (i := 0) rfl ta_27 rfl rfl rfl (one_e_api_Addr _) (Nat.le_of_ble_eq_true rfl) rfl) ?_
      rintro h_4 ⟨hS, hk⟩
      replace hS : St F_3 (Ow.box b_1 27 (e_api_Addr (gi l_1 j_1)).toArray :: Ow.own 27 17 e_api_Addr vs l_1 :: fr) h_4 := hS
      replace hK := hK.trans hk
      replace hF_cf_del := hF_cf_del.kp hk
      refine HO.nil (thenQ_normal (?_))
      refine HW.seq ?_
      refine HW.region ?_
      refine HO.val (v := .func (.func g_del) fs_del cs_del) (want_none) rfl (q_move rfl) ?_
      refine HO.val (v := .agg (e_api_Addr (gi l_1 j_1)).toArray) (want_none) rfl (q_loadAgg (cs := (e_api_Addr (gi l_1 j_1))) ta_27 rfl rfl (Blk.cells (k := 17) (hS.box 0 rfl) rfl)) ?_
      refine HO.call (want_none) rfl (hF_cf_del.ec (gi l_1 j_1) rfl rfl) (hF_cf_del.hc (gi l_1 j_1) hS) ?_
      rintro _ h_5 ⟨rfl, hS, hk⟩
      replace hK := hK.trans hk
      replace hF_cf_del := hF_cf_del.kp hk
      refine HO.val (v := .bool (!(cf_del (gi l_1 j_1)))) (want_none) rfl (q_not rfl) ?_
      refine HO.nil (thenQ_normal (?_))
      refine HW.cond (!(cf_del (gi l_1 j_1))) rfl (fun c_3 => ?_) (fun c_3 => ?_)
      · replace hM := hM.1 c_3
        refine HW.seq ?_
        refine HW.region ?_
        refine HO.val (v := vs) (want_none) rfl (q_move rfl) ?_
        refine HO.val (v := .int .i64 i_1) (want_none) rfl (q_move rfl) ?_
        refine HO.val (v := .agg (e_api_Addr (gi l_1 j_1)).toArray) (want_none) rfl (q_loadAgg (cs := (e_api_Addr (gi l_1 j_1))) ta_27 rfl rfl (Blk.cells (k := 17) (hS.box 0 rfl) rfl)) ?_
        obtain ⟨ho_3, hM⟩ := hM
        refine HO.val (v := elemPtr 17 vs (i_1).toNat) (want_none) rfl (q_idx ts_22 (hS.own 1 rfl).slice rfl rfl ho_3) ?_
        refine HO.sto (want_none) rfl (st_storeElem (a := (gi l_1 j_1)) (t := i_1) hS (i := 1) rfl ta_27 rfl ho_3 rfl rfl rfl (one_e_api_Addr _)) ?_
        rintro h_6 ⟨hS, hk⟩
        replace hS : St F_3 (Ow.box b_1 27 (e_api_Addr (gi l_1 j_1)).toArray :: Ow.own 27 17 e_api_Addr vs (l_1.set (i_1).toNat (gi l_1 j_1)) :: fr) h_6 := hS
        replace hK := hK.trans hk
        replace hF_cf_del := hF_cf_del.kp hk
        refine HO.nil (thenQ_normal (?_))
        refine HW.region ?_
        refine HO.val (v := .int .i64 i_1) (want_none) rfl (q_move rfl) ?_
        obtain ⟨ho_4, hM⟩ := hM
        refine HO.val (v := .int .i64 (i_1 + 1)) (want_none) rfl (q_addN _ rfl rfl rfl ho_4.1 ho_4.2) ?_
        refine HO.val (v := .int .i64 (i_1 + 1)) (want_none) rfl (q_assign rfl) ?_
        refine HO.nil (blockQ_normal (thenQ_normal (?_)))
        refine HW.region ?_
        refine HO.val (v := .int .i64 j_1) (want_none) rfl (q_move rfl) ?_
        obtain ⟨ho_5, hM⟩ := hM
        refine HO.val (v := .int .i64 (j_1 + 1)) (want_none) rfl (q_addN _ rfl rfl rfl ho_5.1 ho_5.2) ?_
        refine HO.val (v := .int .i64 (j_1 + 1)) (want_none) rfl (q_assign rfl) ?_
        refine HO.nil (thenQ_normal (?_))
        replace hS : St F_3 (Ow.own 27 17 e_api_Addr vs (l_1.set (i_1).toNat (gi l_1 j_1)) :: fr) h_6 := hS.perm2 [1] 2 rfl rfl
        rw [hKe_1] at hM
        exact ⟨(l_1.set (i_1).toNat (gi l_1 j_1), i_1 + 1, j_1 + 1), ⟨F_3, rfl, rfl, rfl, rfl, rfl, hK, hS, hF_cf_del, hM.1⟩, hM.2⟩
      · replace hM := hM.2 c_3
        refine HW.skip (blockQ_normal (thenQ_normal (?_)))
        refine HW.region ?_
        refine HO.val (v := .int .i64 j_1) (want_none) rfl (q_move rfl) ?_
        obtain ⟨ho_6, hM⟩ := hM
        refine HO.val (v := .int .i64 (j_1 + 1)) (want_none) rfl (q_addN _ rfl rfl rfl ho_6.1 ho_6.2) ?_
        refine HO.val (v := .int .i64 (j_1 + 1)) (want_none) rfl (q_assign rfl) ?_
        refine HO.nil (thenQ_normal (?_))
        replace hS : St F_3 (Ow.own 27 17 e_api_Addr vs l_1 :: fr) h_5 := hS.perm2 [1] 2 rfl rfl
        rw [hKe_1] at hM
        exact ⟨(l_1, i_1, j_1 + 1), ⟨F_3, rfl, rfl, rfl, rfl, rfl, hK, hS, hF_cf_del, hM.1⟩, hM.2⟩
    · replace hM := hM.2 (of_decide_eq_false c_2)
      refine HW.exit (thenQ_exit (thenQ_exit (blockQ_exit (thenQ_normal (?_)))))
      refine HW.seq ?_
      refine HW.region ?_
      refine HO.val (v := vs) (want_none) rfl (q_move rfl) ?_
      refine HO.val (v := .int .i64 i_1) (want_none) rfl (q_move rfl) ?_
      obtain ⟨ho_7, hM⟩ := hM
      refine HO.val (v := cutV 17 vs (i_1).toNat ((l_1.length : Int)).toNat) (want_none) rfl (q_slL ts_22 (hS.own 0 rfl).slice rfl rfl ho_7) ?_
      obtain ⟨ho_8, hM⟩ := hM
      refine HO.eff (want_none) rfl (st_clearS (lo := i_1) (hi := (l_1.length : Int)) (z := .agg #[.bool false, .int .u8 0, .int .u8 0, .int .u8 0, .int .u8 0, .int .u8 0, .int .u8 0, .int .u8 0, .int .u8 0, .int .u8 0, .int .u8 0, .int .u8 0, .int .u8 0, .int .u8 0, .int .u8 0, .int .u8 0, .int .u8 0]) hS (i := 0) rfl te_22 tz_27 rfl (by intro u hu; simp [e_api_Addr, encI, encN, encB, encT, default] at hu; rcases hu with rfl | rfl | rfl | rfl | rfl | rfl | rfl | rfl | rfl | rfl | rfl | rfl | rfl | rfl | rfl | rfl | rfl <;> rfl) rfl ho_8 rfl) ?_
      rintro _ h_7 ⟨rfl, hS, hk⟩
      replace hS : St F_3 (Ow.own 27 17 e_api_Addr vs (clr l_1 i_1 (l_1.length : Int)) :: fr) h_7 := hS
      replace hK := hK.trans hk
      replace hF_cf_del := hF_cf_del.kp hk
      refine HO.nil (thenQ_normal (?_))
      refine HW.seq ?_
      refine HW.region ?_
      refine HO.val (v := vs) (want_none) rfl (q_move rfl) ?_
      refine HO.val (v := .int .i64 i_1) (want_none) rfl (q_move rfl) ?_
      obtain ⟨ho_9, hM⟩ := hM
      refine HO.val (v := cutV 17 vs (0 : Int).toNat (i_1).toNat) (want_none) rfl (q_slH ts_22 (hS.own 0 rfl).slice rfl rfl ho_9) ?_
      refine HO.val (v := cutV 17 vs (0 : Int).toNat (i_1).toNat) (want_none) rfl (q_assign rfl) ?_
      refine HO.nil (thenQ_normal (?_))
      refine HW.ret (?_)
      refine ⟨.inr rfl, cutV 17 vs (0 : Int).toNat (i_1).toNat, res1 rfl (rt rfl), ?_⟩
      replace hS := hS.shrink 0 rfl i_1 ho_9.1 ho_9.2
      replace hS : St F_3 (Ow.own 27 17 e_api_Addr (cutV 17 vs (0 : Int).toNat (i_1).toNat) (cut (clr l_1 i_1 (l_1.length : Int)) 0 i_1) :: fr) h_7 := hS
      exact ⟨F_3, cut (clr l_1 i_1 (l_1.length : Int)) 0 i_1, cutV 17 vs (0 : Int).toNat (i_1).toNat, rfl, hK, hS, hF_cf_del, hM⟩

def addr_Ip4_W (a : Int) (b : Int) (c : Int) (d : Int) (Q : T_api_Addr → Prop) : Prop :=
  ((0 : Int) ≤ d ∧ d < 256) ∧ (((0 : Int) ≤ c ∧ c < 256) ∧ (((0 : Int) ≤ b ∧ b < 256) ∧ (((0 : Int) ≤ a ∧ a < 256) ∧ (Q (false, mkB 16 [a, b, c, d, 0, 0, 0, 0, 0, 0, 0, 0, 0, 0, 0, 0])))))
set_option maxHeartbeats 40000000 in
set_option maxRecDepth 100000 in
theorem addr_Ip4_walk {F : Fz} {fr : List Ow} {h0 : Heap} (a : Int) (b : Int) (c : Int) (d : Int) (hS : St F (fr) h0)  {Q : T_api_Addr → Prop} (hM : addr_Ip4_W a b c d Q) :
    HC Tryd.prog 71 #[.int .u8 a, .int .u8 b, .int .u8 c, .int .u8 d] h0 fun u h' => ∃ (F' : Fz) (r_1 : T_api_Addr), u = .agg (e_api_Addr r_1).toArray ∧ Kp F h0 F' h' ∧ St F' (fr) h' ∧ Q r_1 := by
  unfold addr_Ip4_W at hM
  have hK := Kp.refl F h0
  refine HC.of_HW (n := 15) Tryd.func71 rfl rfl (Nat.le_of_ble_eq_true rfl) ?_
  refine HW.seq ?_
  refine HW.region ?_
  refine HO.eff (want_none) rfl (st_alloc (c := (e_api_Addr (false, (default : Ba 16))).toArray) hS tz_27 rfl) ?_
  rintro _ h_1 ⟨b_1, rfl, hS, hk⟩
  replace hK := hK.trans hk
  refine HO.nil (thenQ_normal (?_))
  refine HW.seq ?_
  refine HW.region ?_
  refine HO.val (v := .int .u8 a) (want_none) rfl (q_move rfl) ?_
  refine HO.val (v := .int .u8 b) (want_none) rfl (q_move rfl) ?_
  refine HO.val (v := .int .u8 c) (want_none) rfl (q_move rfl) ?_
  refine HO.val (v := .int .u8 d) (want_none) rfl (q_move rfl) ?_
  obtain ⟨ho_1, hM⟩ := hM
  obtain ⟨ho_2, hM⟩ := hM
  obtain ⟨ho_3, hM⟩ := hM
  obtain ⟨ho_4, hM⟩ := hM
  refine HO.val (v := .agg (arrCells (mkB 16 [a, b, c, d, 0, 0, 0, 0, 0, 0, 0, 0, 0, 0, 0, 0])).toArray) (want_none) rfl ((q_buildA (cells := #[.int .u8 a, .int .u8 b, .int .u8 c, .int .u8 d, .int .u8 0, .int .u8 0, .int .u8 0, .int .u8 0, .int .u8 0, .int .u8 0, .int .u8 0, .int .u8 0, .int .u8 0, .int .u8 0, .int .u8 0, .int .u8 0]) tb_25 rfl).of_eq (mkB_agg (n := 16) (l := [a, b, c, d, 0, 0, 0, 0, 0, 0, 0, 0, 0, 0, 0, 0]) rfl ⟨ho_4, ⟨ho_3, ⟨ho_2, ⟨ho_1, ⟨⟨by decide, by decide⟩, ⟨⟨by decide, by decide⟩, ⟨⟨by decide, by decide⟩, ⟨⟨by decide, by decide⟩, ⟨⟨by decide, by decide⟩, ⟨⟨by decide, by decide⟩, ⟨⟨by decide, by decide⟩, ⟨⟨by decide, by decide⟩, ⟨⟨by decide, by decide⟩, ⟨⟨by decide, by decide⟩, ⟨⟨by decide, by decide⟩, ⟨⟨by decide, by decide⟩, trivial⟩⟩⟩⟩⟩⟩⟩⟩⟩⟩⟩⟩⟩⟩⟩⟩)) ?_
  refine HO.val (v := .agg (e_api_Addr (false, mkB 16 [a, b, c, d, 0, 0, 0, 0, 0, 0, 0, 0, 0, 0, 0, 0])).toArray) (want_none) rfl (q_build tp_27 (fill_cons (cs' := (e_api_Addr (false, mkB 16 [a, b, c, d, 0, 0, 0, 0, 0, 0, 0, 0, 0, 0, 0, 0])).toArray) (vc := (arrCells (mkB 16 [a, b, c, d, 0, 0, 0, 0, 0, 0, 0, 0, 0, 0, 0, 0])).toArray) rfl rfl rfl (Nat.le_of_ble_eq_true rfl) rfl rfl)) ?_
  refine HO.sto (want_none) rfl (st_storeAgg (c' := (e_api_Addr (false, mkB 16 [a, b, c, d, 0, 0, 0, 0, 0, 0, 0, 0, 0, 0, 0, 0])).toArray) hS (i := 0) rfl ta_27 rfl rfl rfl (one_e_api_Addr _) (Nat.le_of_ble_eq_true rfl) rfl) ?_
  rintro h_2 ⟨hS, hk⟩
  replace hS : St F (Ow.box b_1 27 (e_api_Addr (false, mkB 16 [a, b, c, d, 0, 0, 0, 0, 0, 0, 0, 0, 0, 0, 0, 0])).toArray :: fr) h_2 := hS
  replace hK := hK.trans hk
  refine HO.nil (thenQ_normal (?_))
  refine HW.ret (?_)
  refine ⟨.inr rfl, .agg (e_api_Addr (false, mkB 16 [a, b, c, d, 0, 0, 0, 0, 0, 0, 0, 0, 0, 0, 0, 0])).toArray, res1 rfl (rca (cs := (e_api_Addr (false, mkB 16 [a, b, c, d, 0, 0, 0, 0, 0, 0, 0, 0, 0, 0, 0, 0]))) ta_27 rfl rfl (Blk.cells (k := 17) (hS.box 0 rfl) rfl)), ?_⟩
  replace hS : St F (fr) h_2 := hS.perm2 [] 1 rfl rfl
  exact ⟨F, (false, mkB 16 [a, b, c, d, 0, 0, 0, 0, 0, 0, 0, 0, 0, 0, 0, 0]), rfl, hK, hS, hM⟩

def addr_Good_W (a : T_api_Addr) (Q : Bool → Prop) : Prop :=
  (a.1 = true → Q true) ∧ (a.1 = false → addr_Ip4_W (b8 a.2 0) (b8 a.2 1) (b8 a.2 2) (b8 a.2 3) (fun r_2 => Q (decide ((a : T_api_Addr) = r_2))))
set_option maxHeartbeats 40000000 in
set_option maxRecDepth 100000 in
theorem addr_Good_walk {F : Fz} {fr : List Ow} {h0 : Heap} (a : T_api_Addr) (hS : St F (fr) h0)  {Q : Bool → Prop} (hM : addr_Good_W a Q) :
    HC Tryd.prog 57 #[.agg (e_api_Addr a).toArray] h0 fun u h' => ∃ (F' : Fz) (r_1 : Bool), u = .bool r_1 ∧ Kp F h0 F' h' ∧ St F' (fr) h' ∧ Q r_1 := by
  unfold addr_Good_W at hM
  have hK := Kp.refl F h0
  refine HC.of_HW (n := 22) Tryd.func57 rfl rfl (Nat.le_of_ble_eq_true rfl) ?_
  refine HW.seq ?_
  refine HW.region ?_
  refine HO.eff (want_none) rfl (st_box (c := (e_api_Addr a).toArray) (k' := 17) hS rfl rfl) ?_
  rintro _ h_1 ⟨b_1, rfl, hS, hk⟩
  replace hK := hK.trans hk
  refine HO.val (v := .bool false) (want_none) rfl (q_assign rfl) ?_
  refine HO.nil (thenQ_normal (?_))
  refine HW.seq ?_
  refine HW.regionA 20 mixed (fun h => (Blk h b_1 (.cells (e_api_Addr a).toArray 27 (0, 0)))) [] (by kernel_rfl) ?_
  refine HA.val (k := 0) (v := .pointer (some ⟨b_1, 0, none⟩)) rfl rfl (by kernel_rfl) (by kernel_rfl) (want_none) rfl (fun _ c201 => q_fieldAddr fa_27_0 rfl rfl) ?_
  refine HA.val (k := 1) (v := .bool a.1) rfl rfl (by kernel_rfl) (by kernel_rfl) (want_none) rfl (fun _ c201 => q_load to_4 rfl (Blk.cell c201 rfl)) ?_
  refine HA.val (k := 2) (v := .bool a.1) rfl rfl (by kernel_rfl) (by kernel_rfl) (want_none) rfl (fun _ c201 => q_move rfl) ?_
  rcases Bool.eq_false_or_eq_true a.1 with c_1 | c_1
  · replace hM := hM.1 c_1
    refine HA.past (k := 3) rfl rfl (by kernel_rfl) (by kernel_rfl) (past_by rfl rfl c_1) rfl ?_
    refine HA.past (k := 4) rfl rfl (by kernel_rfl) (by kernel_rfl) (past_by rfl rfl c_1) rfl ?_
    refine HA.past (k := 5) rfl rfl (by kernel_rfl) (by kernel_rfl) (past_by rfl rfl c_1) rfl ?_
    refine HA.past (k := 6) rfl rfl (by kernel_rfl) (by kernel_rfl) (past_by rfl rfl c_1) rfl ?_
    refine HA.past (k := 7) rfl rfl (by kernel_rfl) (by kernel_rfl) (past_by rfl rfl c_1) rfl ?_
    refine HA.past (k := 8) rfl rfl (by kernel_rfl) (by kernel_rfl) (past_by rfl rfl c_1) rfl ?_
    refine HA.past (k := 9) rfl rfl (by kernel_rfl) (by kernel_rfl) (past_by rfl rfl c_1) rfl ?_
    refine HA.past (k := 10) rfl rfl (by kernel_rfl) (by kernel_rfl) (past_by rfl rfl c_1) rfl ?_
    refine HA.past (k := 11) rfl rfl (by kernel_rfl) (by kernel_rfl) (past_by rfl rfl c_1) rfl ?_
    refine HA.past (k := 12) rfl rfl (by kernel_rfl) (by kernel_rfl) (past_by rfl rfl c_1) rfl ?_
    refine HA.past (k := 13) rfl rfl (by kernel_rfl) (by kernel_rfl) (past_by rfl rfl c_1) rfl ?_
    refine HA.past (k := 14) rfl rfl (by kernel_rfl) (by kernel_rfl) (past_by rfl rfl c_1) rfl ?_
    refine HA.past (k := 15) rfl rfl (by kernel_rfl) (by kernel_rfl) (past_by rfl rfl c_1) rfl ?_
    refine HA.one (k := 16) ⟨(hS.box 0 rfl), (Go.Wk.at_nil _ _)⟩ (by kernel_rfl) ?_
    refine HS.past rfl (past_by rfl rfl c_1) rfl ?_
    refine HA.past (k := 17) rfl rfl (by kernel_rfl) (by kernel_rfl) (past_by rfl rfl c_1) rfl ?_
    refine HA.val (k := 18) (v := .bool true) rfl rfl (by kernel_rfl) (by kernel_rfl) (want_none) rfl (fun _ c201 => q_pickK true rfl c_1 rfl) ?_
    refine HA.val (k := 19) (v := .bool true) rfl rfl (by kernel_rfl) (by kernel_rfl) (want_none) rfl (fun _ c201 => q_assign rfl) ?_
    refine HA.nil ⟨(hS.box 0 rfl), (Go.Wk.at_nil _ _)⟩ (by kernel_rfl) (thenQ_normal (?_))
    refine HW.ret (?_)
    refine ⟨.inr rfl, .bool true, res1 rfl (rt rfl), ?_⟩
    replace hS : St F (fr) h_1 := hS.perm2 [] 1 rfl rfl
    exact ⟨F, true, rfl, hK, hS, hM⟩
  · replace hM := hM.2 c_1
    refine HA.val (k := 3) (v := .agg (e_api_Addr a).toArray) rfl rfl (by kernel_rfl) (by kernel_rfl) (want_by rfl rfl c_1) rfl (fun _ c201 => q_loadAgg (cs := (e_api_Addr a)) ta_27 rfl rfl (Blk.cells (k := 17) c201 rfl)) ?_
    refine HA.val (k := 4) (v := .pointer (some ⟨b_1, 1, none⟩)) rfl rfl (by kernel_rfl) (by kernel_rfl) (want_by rfl rfl c_1) rfl (fun _ c201 => q_fieldAddr fa_27_1 rfl rfl) ?_
    refine HA.val (k := 5) (v := .pointer (some ⟨b_1, 1, none⟩)) rfl rfl (by kernel_rfl) (by kernel_rfl) (want_by rfl rfl c_1) rfl (fun _ c201 => q_idxA (o := 1) (t := 0) tr_25 rfl rfl ⟨by decide, by decide⟩) ?_
    refine HA.val (k := 6) (v := .int .u8 (b8 a.2 0)) rfl rfl (by kernel_rfl) (by kernel_rfl) (want_by rfl rfl c_1) rfl (fun _ c201 => q_load to_5 rfl (Blk.cell c201 rfl)) ?_
    refine HA.val (k := 7) (v := .pointer (some ⟨b_1, 1, none⟩)) rfl rfl (by kernel_rfl) (by kernel_rfl) (want_by rfl rfl c_1) rfl (fun _ c201 => q_fieldAddr fa_27_1 rfl rfl) ?_
    refine HA.val (k := 8) (v := .pointer (some ⟨b_1, 2, none⟩)) rfl rfl (by kernel_rfl) (by kernel_rfl) (want_by rfl rfl c_1) rfl (fun _ c201 => q_idxA (o := 1) (t := 1) tr_25 rfl rfl ⟨by decide, by decide⟩) ?_
    refine HA.val (k := 9) (v := .int .u8 (b8 a.2 1)) rfl rfl (by kernel_rfl) (by kernel_rfl) (want_by rfl rfl c_1) rfl (fun _ c201 => q_load to_5 rfl (Blk.cell c201 rfl)) ?_
    refine HA.val (k := 10) (v := .pointer (some ⟨b_1, 1, none⟩)) rfl rfl (by kernel_rfl) (by kernel_rfl) (want_by rfl rfl c_1) rfl (fun _ c201 => q_fieldAddr fa_27_1 rfl rfl) ?_
    refine HA.val (k := 11) (v := .pointer (some ⟨b_1, 3, none⟩)) rfl rfl (by kernel_rfl) (by kernel_rfl) (want_by rfl rfl c_1) rfl (fun _ c201 => q_idxA (o := 1) (t := 2) tr_25 rfl rfl ⟨by decide, by decide⟩) ?_
    refine HA.val (k := 12) (v := .int .u8 (b8 a.2 2)) rfl rfl (by kernel_rfl) (by kernel_rfl) (want_by rfl rfl c_1) rfl (fun _ c201 => q_load to_5 rfl (Blk.cell c201 rfl)) ?_
    refine HA.val (k := 13) (v := .pointer (some ⟨b_1, 1, none⟩)) rfl rfl (by kernel_rfl) (by kernel_rfl) (want_by rfl rfl c_1) rfl (fun _ c201 => q_fieldAddr fa_27_1 rfl rfl) ?_
    refine HA.val (k := 14) (v := .pointer (some ⟨b_1, 4, none⟩)) rfl rfl (by kernel_rfl) (by kernel_rfl) (want_by rfl rfl c_1) rfl (fun _ c201 => q_idxA (o := 1) (t := 3) tr_25 rfl rfl ⟨by decide, by decide⟩) ?_
    refine HA.val (k := 15) (v := .int .u8 (b8 a.2 3)) rfl rfl (by kernel_rfl) (by kernel_rfl) (want_by rfl rfl c_1) rfl (fun _ c201 => q_load to_5 rfl (Blk.cell c201 rfl)) ?_
    refine HA.one (k := 16) ⟨(hS.box 0 rfl), (Go.Wk.at_nil _ _)⟩ (by kernel_rfl) ?_
    refine HS.call rfl (want_by rfl rfl c_1) rfl (ec en_71 rfl rfl) (addr_Ip4_walk (fr := (Ow.box b_1 27 (e_api_Addr a).toArray :: fr)) (b8 a.2 0) (b8 a.2 1) (b8 a.2 2) (b8 a.2 3) hS hM) ?_
    rintro _ h_2 ⟨F_1, r_2, rfl, hk, hS, hM⟩
    replace hK := hK.trans hk
    refine HA.val (k := 17) (v := .bool (decide ((a : T_api_Addr) = r_2))) rfl rfl (by kernel_rfl) (by kernel_rfl) (want_by rfl rfl c_1) rfl (fun _ c201 => q_eqlAgg (a := a) (b := r_2) (fun a b w => teq_27 9997 a b w) (by kernel_rfl) rfl rfl rfl rfl) ?_
    refine HA.val (k := 18) (v := .bool (decide ((a : T_api_Addr) = r_2))) rfl rfl (by kernel_rfl) (by kernel_rfl) (want_none) rfl (fun _ c201 => q_pickK false rfl c_1 rfl) ?_
    refine HA.val (k := 19) (v := .bool (decide ((a : T_api_Addr) = r_2))) rfl rfl (by kernel_rfl) (by kernel_rfl) (want_none) rfl (fun _ c201 => q_assign rfl) ?_
    refine HA.nil ⟨(hS.box 0 rfl), (Go.Wk.at_nil _ _)⟩ (by kernel_rfl) (thenQ_normal (?_))
    refine HW.ret (?_)
    refine ⟨.inr rfl, .bool (decide ((a : T_api_Addr) = r_2)), res1 rfl (rt rfl), ?_⟩
    replace hS : St F_1 (fr) h_2 := hS.perm2 [] 1 rfl rfl
    exact ⟨F_1, decide ((a : T_api_Addr) = r_2), rfl, hK, hS, hM⟩

def srcs_Of_1_W (a : T_api_Addr) (Q : Bool → Prop) : Prop :=
  addr_Good_W a (fun r_2 => Q (!r_2))
set_option maxHeartbeats 40000000 in
set_option maxRecDepth 100000 in
theorem srcs_Of_1_walk {F : Fz} {fr : List Ow} {h0 : Heap} (a : T_api_Addr) (hS : St F (fr) h0)  {Q : Bool → Prop} (hM : srcs_Of_1_W a Q) :
    HC Tryd.prog 56 #[.agg (e_api_Addr a).toArray] h0 fun u h' => ∃ (F' : Fz) (r_1 : Bool), u = .bool r_1 ∧ Kp F h0 F' h' ∧ St F' (fr) h' ∧ Q r_1 := by
  unfold srcs_Of_1_W at hM
  have hK := Kp.refl F h0
  refine HC.of_HW (n := 6) Tryd.func56 rfl rfl (Nat.le_of_ble_eq_true rfl) ?_
  refine HW.seq ?_
  refine HW.region ?_
  refine HO.eff (want_none) rfl (st_box (c := (e_api_Addr a).toArray) (k' := 17) hS rfl rfl) ?_
  rintro _ h_1 ⟨b_1, rfl, hS, hk⟩
  replace hK := hK.trans hk
  refine HO.val (v := .bool false) (want_none) rfl (q_assign rfl) ?_
  refine HO.nil (thenQ_normal (?_))
  refine HW.seq ?_
  refine HW.region ?_
  refine HO.val (v := .agg (e_api_Addr a).toArray) (want_none) rfl (q_loadAgg (cs := (e_api_Addr a)) ta_27 rfl rfl (Blk.cells (k := 17) (hS.box 0 rfl) rfl)) ?_
  refine HO.call (want_none) rfl (ec en_57 rfl rfl) (addr_Good_walk (fr := (Ow.box b_1 27 (e_api_Addr a).toArray :: fr)) a hS hM) ?_
  rintro _ h_2 ⟨F_1, r_2, rfl, hk, hS, hM⟩
  replace hK := hK.trans hk
  refine HO.val (v := .bool (!r_2)) (want_none) rfl (q_not rfl) ?_
  refine HO.val (v := .bool (!r_2)) (want_none) rfl (q_assign rfl) ?_
  refine HO.nil (thenQ_normal (?_))
  refine HW.ret (?_)
  refine ⟨.inr rfl, .bool (!r_2), res1 rfl (rt rfl), ?_⟩
  replace hS : St F_1 (fr) h_2 := hS.perm2 [] 1 rfl rfl
  exact ⟨F_1, !r_2, rfl, hK, hS, hM⟩

def addr_bytes_W (a : T_api_Addr) (Q : Str → Prop) : Prop :=
  (a.1 = true → Q (cut a.2.1 0 16)) ∧ (a.1 = false → Q (cut a.2.1 0 4))
set_option maxHeartbeats 40000000 in
set_option maxRecDepth 100000 in
theorem addr_bytes_walk {F : Fz} {fr : List Ow} {h0 : Heap} (a : T_api_Addr) (hS : St F (fr) h0)  {Q : Str → Prop} (hM : addr_bytes_W a Q) :
    HC Tryd.prog 75 #[.agg (e_api_Addr a).toArray] h0 fun u h' => ∃ (F' : Fz) (r_1 : Str), u = .string (bs r_1) ∧ Kp F h0 F' h' ∧ St F' (fr) h' ∧ Q r_1 := by
  unfold addr_bytes_W at hM
  have hK := Kp.refl F h0
  refine HC.of_HW (n := 11) Tryd.func75 rfl rfl (Nat.le_of_ble_eq_true rfl) ?_
  refine HW.seq ?_
  refine HW.region ?_
  refine HO.eff (want_none) rfl (st_box (c := (e_api_Addr a).toArray) (k' := 17) hS rfl rfl) ?_
  rintro _ h_1 ⟨b_1, rfl, hS, hk⟩
  replace hK := hK.trans hk
  refine HO.val (v := .string (bs [])) (want_none) rfl (q_assign rfl) ?_
  refine HO.nil (thenQ_normal (?_))
  refine HW.seq ?_
  refine HW.seq ?_
  refine HW.region ?_
  refine HO.val (v := .pointer (some ⟨b_1, 0, none⟩)) (want_none) rfl (q_fieldAddr fa_27_0 rfl rfl) ?_
  refine HO.val (v := .bool a.1) (want_none) rfl (q_load to_4 rfl (Blk.cell (hS.box 0 rfl) rfl)) ?_
  refine HO.nil (thenQ_normal (?_))
  refine HW.cond a.1 rfl (fun c_1 => ?_) (fun c_1 => ?_)
  · replace hM := hM.1 c_1
    refine HW.seq ?_
    refine HW.region ?_
    refine HO.val (v := .pointer (some ⟨b_1, 1, none⟩)) (want_none) rfl (q_fieldAddr fa_27_1 rfl rfl) ?_
    refine HO.val (v := arrV b_1 1 16 0 16) (want_none) rfl (q_sliceA (o := 1) (lo := 0) (hi := 16) (kl := .i64) (kh := .i64) tr_25 rfl (.inl ⟨rfl, rfl⟩) (.inl ⟨rfl, rfl⟩) ⟨by decide, by decide, by decide⟩) ?_
    refine HO.val (v := .string (bs (cut a.2.1 0 16))) (want_none) rfl (q_bytesStr ts_96 Tryd.underlying5 Tryd.underlying9 (arrSl (o := 1) (n := 16) (X := a.2) (lo := 0) (hi := 16) (hS.box 0 rfl) rfl ⟨by decide, by decide, by decide⟩ (by decide)) rfl) ?_
    refine HO.val (v := .string (bs (cut a.2.1 0 16))) (want_none) rfl (q_assign rfl) ?_
    refine HO.nil (thenQ_normal (?_))
    refine HW.ret (thenQ_ret (?_))
    refine ⟨.inr rfl, .string (bs (cut a.2.1 0 16)), res1 rfl (rt rfl), ?_⟩
    replace hS : St F (fr) h_1 := hS.perm2 [] 1 rfl rfl
    exact ⟨F, cut a.2.1 0 16, rfl, hK, hS, hM⟩
  · replace hM := hM.2 c_1
    refine HW.skip (thenQ_normal (?_))
    refine HW.seq ?_
    refine HW.region ?_
    refine HO.val (v := .pointer (some ⟨b_1, 1, none⟩)) (want_none) rfl (q_fieldAddr fa_27_1 rfl rfl) ?_
    refine HO.val (v := arrV b_1 1 16 0 4) (want_none) rfl (q_sliceA (o := 1) (lo := 0) (hi := 4) (kl := .i64) tr_25 rfl (.inl ⟨rfl, rfl⟩) (.inr ⟨_, rfl, rfl⟩) ⟨by decide, by decide, by decide⟩) ?_
    refine HO.val (v := .string (bs (cut a.2.1 0 4))) (want_none) rfl (q_bytesStr ts_96 Tryd.underlying5 Tryd.underlying9 (arrSl (o := 1) (n := 16) (X := a.2) (lo := 0) (hi := 4) (hS.box 0 rfl) rfl ⟨by decide, by decide, by decide⟩ (by decide)) rfl) ?_
    refine HO.val (v := .string (bs (cut a.2.1 0 4))) (want_none) rfl (q_assign rfl) ?_
    refine HO.nil (thenQ_normal (?_))
    refine HW.ret (?_)
    refine ⟨.inr rfl, .string (bs (cut a.2.1 0 4)), res1 rfl (rt rfl), ?_⟩
    replace hS : St F (fr) h_1 := hS.perm2 [] 1 rfl rfl
    exact ⟨F, cut a.2.1 0 4, rfl, hK, hS, hM⟩

def addr_Cmp_j1 (a : T_api_Addr) (b : T_api_Addr) (Q : Int → Prop) : Prop :=
  addr_bytes_W a (fun r_2 => addr_bytes_W b (fun r_3 => Q (scmp r_2 r_3)))
def addr_Cmp_j2 (a : T_api_Addr) (b : T_api_Addr) (Q : Int → Prop) (b_3 : Bool) : Prop :=
  (b_3 = true → Q 1) ∧ (b_3 = false → ((!a.1) = true → (b.1 = true → Q (-1)) ∧ (b.1 = false → addr_Cmp_j1 a b Q)) ∧ ((!a.1) = false → addr_Cmp_j1 a b Q))
def addr_Cmp_W (a : T_api_Addr) (b : T_api_Addr) (Q : Int → Prop) : Prop :=
  (a.1 = true → addr_Cmp_j2 a b Q (!b.1)) ∧ (a.1 = false → addr_Cmp_j2 a b Q false)
set_option maxHeartbeats 40000000 in
set_option maxRecDepth 100000 in
theorem addr_Cmp_walk {F : Fz} {fr : List Ow} {h0 : Heap} (a : T_api_Addr) (b : T_api_Addr) (hS : St F (fr) h0)  {Q : Int → Prop} (hM : addr_Cmp_W a b Q) :
    HC Tryd.prog 59 #[.agg (e_api_Addr a).toArray, .agg (e_api_Addr b).toArray] h0 fun u h' => ∃ (F' : Fz) (r_1 : Int), u = .int .i64 r_1 ∧ Kp F h0 F' h' ∧ St F' (fr) h' ∧ Q r_1 := by
  unfold addr_Cmp_W at hM
  have hK := Kp.refl F h0
  refine HC.of_HW (n := 26) Tryd.func59 rfl rfl (Nat.le_of_ble_eq_true rfl) ?_
  refine HW.seq ?_
  refine HW.region ?_
  refine HO.eff (want_none) rfl (st_box (c := (e_api_Addr a).toArray) (k' := 17) hS rfl rfl) ?_
  rintro _ h_1 ⟨b_1, rfl, hS, hk⟩
  replace hK := hK.trans hk
  refine HO.eff (want_none) rfl (st_box (c := (e_api_Addr b).toArray) (k' := 17) hS rfl rfl) ?_
  rintro _ h_2 ⟨b_2, rfl, hS, hk⟩
  replace hK := hK.trans hk
  refine HO.val (v := .int .i64 0) (want_none) rfl (q_assign rfl) ?_
  refine HO.nil (thenQ_normal (?_))
  refine HW.seq_mid (fun f h => ∃ (F' : Fz), f 2 = .pointer (some ⟨b_1, 0, none⟩) ∧ f 3 = .pointer (some ⟨b_2, 0, none⟩) ∧ f 4 = .int .i64 0 ∧ Kp F h0 F' h ∧ St F' (Ow.box b_1 27 (e_api_Addr a).toArray :: Ow.box b_2 27 (e_api_Addr b).toArray :: fr) h ∧ addr_Cmp_j1 a b Q) ?_ ?_
  · refine HW.block ?_
    refine HW.seq_mid (fun f h => ∃ (F' : Fz) (b_3 : Bool), f 2 = .pointer (some ⟨b_1, 0, none⟩) ∧ f 3 = .pointer (some ⟨b_2, 0, none⟩) ∧ f 4 = .int .i64 0 ∧ f 5 = .bool b_3 ∧ Kp F h0 F' h ∧ St F' (Ow.box b_1 27 (e_api_Addr a).toArray :: Ow.box b_2 27 (e_api_Addr b).toArray :: fr) h ∧ addr_Cmp_j2 a b Q b_3) ?_ ?_
    · refine HW.region ?_
      refine HO.val (v := .pointer (some ⟨b_1, 0, none⟩)) (want_none) rfl (q_fieldAddr fa_27_0 rfl rfl) ?_
      refine HO.val (v := .bool a.1) (want_none) rfl (q_load to_4 rfl (Blk.cell (hS.box 1 rfl) rfl)) ?_
      refine HO.val (v := .bool a.1) (want_none) rfl (q_move rfl) ?_
      rcases Bool.eq_false_or_eq_true a.1 with c_1 | c_1
      · replace hM := hM.1 c_1
        refine HO.val (v := .pointer (some ⟨b_2, 0, none⟩)) (want_by rfl rfl c_1) rfl (q_fieldAddr fa_27_0 rfl rfl) ?_
        refine HO.val (v := .bool b.1) (want_by rfl rfl c_1) rfl (q_load to_4 rfl (Blk.cell (hS.box 0 rfl) rfl)) ?_
        refine HO.val (v := .bool (!b.1)) (want_by rfl rfl c_1) rfl (q_not rfl) ?_
        refine HO.val (v := .bool (!b.1)) (want_none) rfl (q_pickK true rfl c_1 rfl) ?_
        refine HO.val (v := .bool (!b.1)) (want_none) rfl (q_assign rfl) ?_
        refine HO.nil (thenQ_normal (?_))
        replace hS : St F (Ow.box b_1 27 (e_api_Addr a).toArray :: Ow.box b_2 27 (e_api_Addr b).toArray :: fr) h_2 := hS.perm2 [1, 0] 2 rfl rfl
        exact ⟨F, !b.1, rfl, rfl, rfl, rfl, hK, hS, hM⟩
      · replace hM := hM.2 c_1
        refine HO.past (past_by rfl rfl c_1) rfl ?_
        refine HO.past (past_by rfl rfl c_1) rfl ?_
        refine HO.past (past_by rfl rfl c_1) rfl ?_
        refine HO.val (v := .bool false) (want_none) rfl (q_pickK false rfl c_1 rfl) ?_
        refine HO.val (v := .bool false) (want_none) rfl (q_assign rfl) ?_
        refine HO.nil (thenQ_normal (?_))
        replace hS : St F (Ow.box b_1 27 (e_api_Addr a).toArray :: Ow.box b_2 27 (e_api_Addr b).toArray :: fr) h_2 := hS.perm2 [1, 0] 2 rfl rfl
        exact ⟨F, false, rfl, rfl, rfl, rfl, hK, hS, hM⟩
    · rintro f_1 h_3 ⟨F_1, b_3, e2, e3, e4, e5, hK, hS, hM⟩
      unfold addr_Cmp_j2 at hM
      refine HW.fr [(2, .pointer (some ⟨b_1, 0, none⟩)), (3, .pointer (some ⟨b_2, 0, none⟩)), (4, .int .i64 0), (5, .bool b_3)] ⟨e2, e3, e4, e5, trivial⟩ ?_
      refine HW.cond b_3 rfl (fun c_2 => ?_) (fun c_2 => ?_)
      · replace hM := hM.1 c_2
        refine HW.seq ?_
        refine HW.region ?_
        refine HO.val (v := .int .i64 1) (want_none) rfl (q_assign rfl) ?_
        refine HO.nil (thenQ_normal (?_))
        refine HW.ret (blockQ_ret (thenQ_ret (?_)))
        refine ⟨.inr rfl, .int .i64 1, res1 rfl (rt rfl), ?_⟩
        replace hS : St F_1 (fr) h_3 := hS.perm2 [] 2 rfl rfl
        exact ⟨F_1, 1, rfl, hK, hS, hM⟩
      · replace hM := hM.2 c_2
        refine HW.seq ?_
        refine HW.region ?_
        refine HO.val (v := .pointer (some ⟨b_1, 0, none⟩)) (want_none) rfl (q_fieldAddr fa_27_0 rfl rfl) ?_
        refine HO.val (v := .bool a.1) (want_none) rfl (q_load to_4 rfl (Blk.cell (hS.box 0 rfl) rfl)) ?_
        refine HO.val (v := .bool (!a.1)) (want_none) rfl (q_not rfl) ?_
        refine HO.val (v := .bool (!a.1)) (want_none) rfl (q_move rfl) ?_
        rcases Bool.eq_false_or_eq_true (!a.1) with c_3 | c_3
        · replace hM := hM.1 c_3
          refine HO.val (v := .pointer (some ⟨b_2, 0, none⟩)) (want_by rfl rfl c_3) rfl (q_fieldAddr fa_27_0 rfl rfl) ?_
          refine HO.val (v := .bool b.1) (want_by rfl rfl c_3) rfl (q_load to_4 rfl (Blk.cell (hS.box 1 rfl) rfl)) ?_
          refine HO.val (v := .bool b.1) (want_none) rfl (q_pickK true rfl c_3 rfl) ?_
          refine HO.val (v := .bool b.1) (want_none) rfl (q_assign rfl) ?_
          refine HO.nil (thenQ_normal (?_))
          refine HW.cond b.1 rfl (fun c_4 => ?_) (fun c_4 => ?_)
          · replace hM := hM.1 c_4
            refine HW.seq ?_
            refine HW.region ?_
            refine HO.val (v := .int .i64 (-1)) (want_none) rfl (q_assign rfl) ?_
            refine HO.nil (thenQ_normal (?_))
            refine HW.ret (blockQ_ret (thenQ_ret (?_)))
            refine ⟨.inr rfl, .int .i64 (-1), res1 rfl (rt rfl), ?_⟩
            replace hS : St F_1 (fr) h_3 := hS.perm2 [] 2 rfl rfl
            exact ⟨F_1, (-1), rfl, hK, hS, hM⟩
          · replace hM := hM.2 c_4
            refine HW.skip (blockQ_normal (thenQ_normal (?_)))
            exact ⟨F_1, rfl, rfl, rfl, hK, hS, hM⟩
        · replace hM := hM.2 c_3
          refine HO.past (past_by rfl rfl c_3) rfl ?_
          refine HO.past (past_by rfl rfl c_3) rfl ?_
          refine HO.val (v := .bool false) (want_none) rfl (q_pickK false rfl c_3 rfl) ?_
          refine HO.val (v := .bool false) (want_none) rfl (q_assign rfl) ?_
          refine HO.nil (thenQ_normal (?_))
          refine HW.condF rfl ?_
          refine HW.skip (blockQ_normal (thenQ_normal (?_)))
          exact ⟨F_1, rfl, rfl, rfl, hK, hS, hM⟩
  · rintro f_2 h_4 ⟨F_2, e2, e3, e4, hK, hS, hM⟩
    unfold addr_Cmp_j1 at hM
    refine HW.fr [(2, .pointer (some ⟨b_1, 0, none⟩)), (3, .pointer (some ⟨b_2, 0, none⟩)), (4, .int .i64 0)] ⟨e2, e3, e4, trivial⟩ ?_
    refine HW.seq ?_
    refine HW.regionA 6 mixed (fun h => (Blk h b_1 (.cells (e_api_Addr a).toArray 27 (0, 0))) ∧ (Blk h b_2 (.cells (e_api_Addr b).toArray 27 (0, 0)))) [] (by kernel_rfl) ?_
    refine HA.val (k := 0) (v := .agg (e_api_Addr a).toArray) rfl rfl (by kernel_rfl) (by kernel_rfl) (want_none) rfl (fun _ ⟨c203, c204⟩ => q_loadAgg (cs := (e_api_Addr a)) ta_27 rfl rfl (Blk.cells (k := 17) c203 rfl)) ?_
    refine HA.val (k := 2) (v := .agg (e_api_Addr b).toArray) rfl rfl (by kernel_rfl) (by kernel_rfl) (want_none) rfl (fun _ ⟨c203, c204⟩ => q_loadAgg (cs := (e_api_Addr b)) ta_27 rfl rfl (Blk.cells (k := 17) c204 rfl)) ?_
    refine HA.one (k := 1) ⟨⟨(hS.box 0 rfl), (hS.box 1 rfl)⟩, (Go.Wk.at_nil _ _)⟩ (by kernel_rfl) ?_
    refine HS.call rfl (want_none) rfl (ec en_75 rfl rfl) (addr_bytes_walk (fr := (Ow.box b_1 27 (e_api_Addr a).toArray :: Ow.box b_2 27 (e_api_Addr b).toArray :: fr)) a hS hM) ?_
    rintro _ h_5 ⟨F_3, r_2, rfl, hk, hS, hM⟩
    replace hK := hK.trans hk
    refine HA.one (k := 3) ⟨⟨(hS.box 0 rfl), (hS.box 1 rfl)⟩, (Go.Wk.at_nil _ _)⟩ (by kernel_rfl) ?_
    refine HS.call rfl (want_none) rfl (ec en_75 rfl rfl) (addr_bytes_walk (fr := (Ow.box b_1 27 (e_api_Addr a).toArray :: Ow.box b_2 27 (e_api_Addr b).toArray :: fr)) b hS hM) ?_
    rintro _ h_6 ⟨F_4, r_3, rfl, hk, hS, hM⟩
    replace hK := hK.trans hk
    refine HA.one (k := 4) ⟨⟨(hS.box 0 rfl), (hS.box 1 rfl)⟩, (Go.Wk.at_nil _ _)⟩ (by kernel_rfl) ?_
    refine HS.call rfl (want_none) rfl (ec en_74 rfl rfl) (strCompare_hc Tryd.strCmp r_2 r_3 _) ?_
    rintro _ h_7 ⟨rfl, hEq⟩
    rw [hEq]
    refine HA.val (k := 5) (v := .int .i64 (scmp r_2 r_3)) rfl rfl (by kernel_rfl) (by kernel_rfl) (want_none) rfl (fun _ ⟨c203, c204⟩ => q_assign rfl) ?_
    refine HA.nil ⟨⟨(hS.box 0 rfl), (hS.box 1 rfl)⟩, (Go.Wk.at_nil _ _)⟩ (by kernel_rfl) (thenQ_normal (?_))
    refine HW.ret (?_)
    refine ⟨.inr rfl, .int .i64 (scmp r_2 r_3), res1 rfl (rt rfl), ?_⟩
    replace hS : St F_4 (fr) h_6 := hS.perm2 [] 2 rfl rfl
    exact ⟨F_4, scmp r_2 r_3, rfl, hK, hS, hM⟩

def slices_Compact_s_api_Addr_api_Addr_l3 (s1 : List T_api_Addr) (Q : (List T_api_Addr) → Prop) (k_1 : Int) (K_2 : (List T_api_Addr) → Int → Int → Prop) (l_2 : List T_api_Addr) (k_2 : Int) (k2_1 : Int) : Prop :=
  ((0 : Int) ≤ k_1 ∧ k_1 ≤ (s1.length : Int) ∧ (s1.length : Int) ≤ (l_2.length : Int)) ∧ ((k2_1 < ((cut l_2 k_1 (s1.length : Int)).length : Int) → ((0 : Int) ≤ k2_1 ∧ k2_1 < ((cut l_2 k_1 (s1.length : Int)).length : Int)) ∧ ((I64 (k2_1 - 1)) ∧ (((0 : Int) ≤ k2_1 - 1 ∧ k2_1 - 1 < ((cut l_2 k_1 (s1.length : Int)).length : Int)) ∧ ((¬ ((((gi (cut l_2 k_1 (s1.length : Int)) k2_1).1, ((gi (cut l_2 k_1 (s1.length : Int)) k2_1).2)) : T_api_Addr) = ((gi (cut l_2 k_1 (s1.length : Int)) (k2_1 - 1)).1, ((gi (cut l_2 k_1 (s1.length : Int)) (k2_1 - 1)).2))) → ((0 : Int) ≤ k_2 ∧ k_2 < (l_2.length : Int)) ∧ ((I64 (k_2 + 1)) ∧ ((I64 (k2_1 + 1)) ∧ (K_2 (l_2.set (k_2).toNat ((gi (cut l_2 k_1 (s1.length : Int)) k2_1).1, ((gi (cut l_2 k_1 (s1.length : Int)) k2_1).2))) (k_2 + 1) (k2_1 + 1))))) ∧ ((((gi (cut l_2 k_1 (s1.length : Int)) k2_1).1, ((gi (cut l_2 k_1 (s1.length : Int)) k2_1).2)) : T_api_Addr) = ((gi (cut l_2 k_1 (s1.length : Int)) (k2_1 - 1)).1, ((gi (cut l_2 k_1 (s1.length : Int)) (k2_1 - 1)).2)) → (I64 (k2_1 + 1)) ∧ (K_2 l_2 k_2 (k2_1 + 1))))))) ∧ (¬ (k2_1 < ((cut l_2 k_1 (s1.length : Int)).length : Int)) → ((0 : Int) ≤ k_2 ∧ k_2 ≤ (l_2.length : Int)) ∧ (((0 : Int) ≤ k_2 ∧ k_2 ≤ (l_2.length : Int) ∧ (l_2.length : Int) ≤ (l_2.length : Int)) ∧ (((0 : Int) ≤ k_2 ∧ k_2 ≤ ((clr l_2 k_2 (l_2.length : Int)).length : Int)) ∧ (Q (cut (clr l_2 k_2 (l_2.length : Int)) 0 k_2))))))
def slices_Compact_s_api_Addr_api_Addr_l1 (s1 : List T_api_Addr) (Q : (List T_api_Addr) → Prop) (K_1 : Int → Prop) (k_1 : Int) : Prop :=
  (k_1 < (s1.length : Int) → ((0 : Int) ≤ k_1 ∧ k_1 < (s1.length : Int)) ∧ ((I64 (k_1 - 1)) ∧ (((0 : Int) ≤ k_1 - 1 ∧ k_1 - 1 < (s1.length : Int)) ∧ ((((gi s1 k_1) : T_api_Addr) = (gi s1 (k_1 - 1)) → ((0 : Int) ≤ k_1 ∧ k_1 ≤ (s1.length : Int)) ∧ (loopW (fun (K_2 : (List T_api_Addr × Int × Int) → Prop) (s : List T_api_Addr × Int × Int) => slices_Compact_s_api_Addr_api_Addr_l3 s1 Q k_1 (fun l_2 k_2 k2_1 => K_2 (l_2, k_2, k2_1)) s.1 s.2.1 s.2.2) (s1, k_1, 1))) ∧ (¬ (((gi s1 k_1) : T_api_Addr) = (gi s1 (k_1 - 1))) → (I64 (k_1 + 1)) ∧ (K_1 (k_1 + 1))))))) ∧ (¬ (k_1 < (s1.length : Int)) → Q s1)
def slices_Compact_s_api_Addr_api_Addr_W (s1 : List T_api_Addr) (Q : (List T_api_Addr) → Prop) : Prop :=
  ((s1.length : Int) < 2 → Q s1) ∧ (¬ ((s1.length : Int) < 2) → loopW (fun (K_1 : Int → Prop) (s : Int) => slices_Compact_s_api_Addr_api_Addr_l1 s1 Q K_1 s) 1)
set_option maxHeartbeats 40000000 in
set_option maxRecDepth 100000 in
theorem slices_Compact_s_api_Addr_api_Addr_walk {F : Fz} {fr : List Ow} {h0 : Heap} (s1 : List T_api_Addr) (vs : Value) (hS : St F (Ow.own 27 17 e_api_Addr vs s1 :: fr) h0)  {Q : (List T_api_Addr) → Prop} (hM : slices_Compact_s_api_Addr_api_Addr_W s1 Q) :
    HC Tryd.prog 60 #[vs] h0 fun u h' => ∃ (F' : Fz) (r_1 : List T_api_Addr) (vr_1 : Value), u = vr_1 ∧ Kp F h0 F' h' ∧ St F' (Ow.own 27 17 e_api_Addr vr_1 r_1 :: fr) h' ∧ Q r_1 := by
  unfold slices_Compact_s_api_Addr_api_Addr_W at hM
  have hK := Kp.refl F h0
  refine HC.of_HW (n := 61) Tryd.func60 rfl rfl (Nat.le_of_ble_eq_true rfl) ?_
  refine HW.seq ?_
  refine HW.region ?_
  refine HO.val (v := .slice none 0 0) (want_none) rfl (q_assign rfl) ?_
  refine HO.nil (thenQ_normal (?_))
  refine HW.seq ?_
  refine HW.seq ?_
  refine HW.region ?_
  refine HO.val (v := vs) (want_none) rfl (q_move rfl) ?_
  refine HO.val (v := .int .i64 (s1.length : Int)) (want_none) rfl (q_len ts_22 (shp (hS.own 0 rfl).slice) rfl rfl) ?_
  refine HO.val (v := .bool (decide ((s1.length : Int) < 2))) (want_none) rfl (q_lss rfl rfl) ?_
  refine HO.nil (thenQ_normal (?_))
  refine HW.cond (decide ((s1.length : Int) < 2)) rfl (fun c_1 => ?_) (fun c_1 => ?_)
  · replace hM := hM.1 (of_decide_eq_true c_1)
    refine HW.seq ?_
    refine HW.region ?_
    refine HO.val (v := vs) (want_none) rfl (q_move rfl) ?_
    refine HO.val (v := vs) (want_none) rfl (q_assign rfl) ?_
    refine HO.nil (thenQ_normal (?_))
    refine HW.ret (thenQ_ret (?_))
    refine ⟨.inr rfl, vs, res1 rfl (rt rfl), ?_⟩
    exact ⟨F, s1, vs, rfl, hK, hS, hM⟩
  · replace hM := hM.2 (of_decide_eq_false c_1)
    refine HW.skip (thenQ_normal (?_))
    refine HW.seq ?_
    refine HW.seq ?_
    refine HW.region ?_
    refine HO.val (v := .int .i64 1) (want_none) rfl (q_assign rfl) ?_
    refine HO.nil (thenQ_normal (?_))
    refine HW.block ?_
    obtain ⟨I_1, m_1, hI_1, hR_1⟩ := hM
    refine HW.loop (S := Int) (fun k_1 f h => ∃ (F' : Fz), f 0 = vs ∧ f 2 = .slice none 0 0 ∧ f 3 = .int .i64 k_1 ∧ Kp F h0 F' h ∧ St F' (Ow.own 27 17 e_api_Addr vs s1 :: fr) h ∧ I_1 k_1) m_1 1 ⟨F, rfl, rfl, rfl, hK, hS, hI_1⟩ ?_
    rintro k_1 f_1 h_1 ⟨F_1, e0, e2, e3, hK, hS, hI0⟩
    obtain ⟨K_1, hKe_1⟩ : ∃ K : Int → Prop, K = fun k_1' => I_1 k_1' ∧ m_1 k_1' < m_1 k_1 := ⟨_, rfl⟩
    have hM : slices_Compact_s_api_Addr_api_Addr_l1 s1 Q K_1 k_1 := by rw [hKe_1]; exact hR_1 k_1 hI0
    unfold slices_Compact_s_api_Addr_api_Addr_l1 at hM
    refine HW.fr [(0, vs), (2, .slice none 0 0), (3, .int .i64 k_1)] ⟨e0, e2, e3, trivial⟩ ?_
    refine HW.seq ?_
    refine HW.seq ?_
    refine HW.region ?_
    refine HO.val (v := .int .i64 k_1) (want_none) rfl (q_move rfl) ?_
    refine HO.val (v := vs) (want_none) rfl (q_move rfl) ?_
    refine HO.val (v := .int .i64 (s1.length : Int)) (want_none) rfl (q_len ts_22 (shp (hS.own 0 rfl).slice) rfl rfl) ?_
    refine HO.val (v := .bool (decide (k_1 < (s1.length : Int)))) (want_none) rfl (q_lss rfl rfl) ?_
    refine HO.nil (thenQ_normal (?_))
    refine HW.cond (decide (k_1 < (s1.length : Int))) rfl (fun c_2 => ?_) (fun c_2 => ?_)
    · replace hM := hM.1 (of_decide_eq_true c_2)
      refine HW.skip (thenQ_normal (?_))
      refine HW.seq ?_
      refine HW.block ?_
      refine HW.seq ?_
      refine HW.regionA 10 mixed (fun h => (OwnIs h 0 27 17 e_api_Addr vs s1)) [] (by kernel_rfl) ?_
      refine HA.val (k := 0) (v := vs) rfl rfl (by kernel_rfl) (by kernel_rfl) (want_none) rfl (fun _ c303 => q_move rfl) ?_
      refine HA.val (k := 1) (v := .int .i64 k_1) rfl rfl (by kernel_rfl) (by kernel_rfl) (want_none) rfl (fun _ c303 => q_move rfl) ?_
      obtain ⟨ho_1, hM⟩ := hM
      refine HA.val (k := 2) (v := elemPtr 17 vs (k_1).toNat) rfl rfl (by kernel_rfl) (by kernel_rfl) (want_none) rfl (fun _ c303 => q_idx ts_22 c303.slice rfl rfl ho_1) ?_
      refine HA.val (k := 3) (v := .agg (e_api_Addr (gi s1 k_1)).toArray) rfl rfl (by kernel_rfl) (by kernel_rfl) (want_none) rfl (fun _ c303 => q_ldElemAgg (cs := (e_api_Addr (gi s1 k_1))) ta_27 c303.slice rfl ho_1 rfl) ?_
      refine HA.val (k := 4) (v := vs) rfl rfl (by kernel_rfl) (by kernel_rfl) (want_none) rfl (fun _ c303 => q_move rfl) ?_
      refine HA.val (k := 5) (v := .int .i64 k_1) rfl rfl (by kernel_rfl) (by kernel_rfl) (want_none) rfl (fun _ c303 => q_move rfl) ?_
      obtain ⟨ho_2, hM⟩ := hM
      refine HA.val (k := 6) (v := .int .i64 (k_1 - 1)) rfl rfl (by kernel_rfl) (by kernel_rfl) (want_none) rfl (fun _ c303 => q_subN _ rfl rfl rfl ho_2.1 ho_2.2) ?_
      obtain ⟨ho_3, hM⟩ := hM
      refine HA.val (k := 7) (v := elemPtr 17 vs (k_1 - 1).toNat) rfl rfl (by kernel_rfl) (by kernel_rfl) (want_none) rfl (fun _ c303 => q_idx ts_22 c303.slice rfl rfl ho_3) ?_
      refine HA.val (k := 8) (v := .agg (e_api_Addr (gi s1 (k_1 - 1))).toArray) rfl rfl (by kernel_rfl) (by kernel_rfl) (want_none) rfl (fun _ c303 => q_ldElemAgg (cs := (e_api_Addr (gi s1 (k_1 - 1)))) ta_27 c303.slice rfl ho_3 rfl) ?_
      refine HA.val (k := 9) (v := .bool (decide (((gi s1 k_1) : T_api_Addr) = (gi s1 (k_1 - 1))))) rfl rfl (by kernel_rfl) (by kernel_rfl) (want_none) rfl (fun _ c303 => q_eqlAgg (a := (gi s1 k_1)) (b := (gi s1 (k_1 - 1))) (fun a b w => teq_27 9997 a b w) (by kernel_rfl) rfl rfl rfl rfl) ?_
      refine HA.nil ⟨(hS.own 0 rfl), (Go.Wk.at_nil _ _)⟩ (by kernel_rfl) (thenQ_normal (?_))
      refine HW.cond (decide (((gi s1 k_1) : T_api_Addr) = (gi s1 (k_1 - 1)))) rfl (fun c_3 => ?_) (fun c_3 => ?_)
      · replace hM := hM.1 (of_decide_eq_true c_3)
        refine HW.seq ?_
        refine HW.region ?_
        refine HO.val (v := vs) (want_none) rfl (q_move rfl) ?_
        refine HO.val (v := .int .i64 k_1) (want_none) rfl (q_move rfl) ?_
        obtain ⟨ho_4, hM⟩ := hM
        refine HO.val (v := cutV 17 vs (k_1).toNat ((s1.length : Int)).toNat) (want_none) rfl (q_slL ts_22 (hS.own 0 rfl).slice rfl rfl ho_4) ?_
        refine HO.val (v := cutV 17 vs (k_1).toNat ((s1.length : Int)).toNat) (want_none) rfl (q_assign rfl) ?_
        refine HO.nil (thenQ_normal (?_))
        refine HW.seq ?_
        refine HW.seq ?_
        refine HW.region ?_
        refine HO.val (v := .int .i64 1) (want_none) rfl (q_assign rfl) ?_
        refine HO.nil (thenQ_normal (?_))
        refine HW.block ?_
        obtain ⟨I_2, m_2, hI_2, hR_2⟩ := hM
        refine HW.loop (S := List T_api_Addr × Int × Int) (fun s f h => match s with | (l_2, k_2, k2_1) => ∃ (F' : Fz), f 0 = vs ∧ f 2 = .slice none 0 0 ∧ f 3 = .int .i64 k_2 ∧ f 4 = cutV 17 vs (k_1).toNat ((s1.length : Int)).toNat ∧ f 5 = .int .i64 k2_1 ∧ Kp F h0 F' h ∧ St F' (Ow.own 27 17 e_api_Addr vs l_2 :: fr) h ∧ I_2 (l_2, k_2, k2_1)) m_2 (s1, k_1, 1) ⟨F_1, rfl, rfl, rfl, rfl, rfl, hK, hS, hI_2⟩ ?_
        rintro ⟨l_2, k_2, k2_1⟩ f_2 h_2 ⟨F_2, e0, e2, e3, e4, e5, hK, hS, hI0⟩
        obtain ⟨K_2, hKe_2⟩ : ∃ K : (List T_api_Addr) → Int → Int → Prop, K = fun l_2' k_2' k2_1' => I_2 (l_2', k_2', k2_1') ∧ m_2 (l_2', k_2', k2_1') < m_2 (l_2, k_2, k2_1) := ⟨_, rfl⟩
        have hM : slices_Compact_s_api_Addr_api_Addr_l3 s1 Q k_1 K_2 l_2 k_2 k2_1 := by rw [hKe_2]; exact hR_2 (l_2, k_2, k2_1) hI0
        unfold slices_Compact_s_api_Addr_api_Addr_l3 at hM
        refine HW.fr [(0, vs), (2, .slice none 0 0), (3, .int .i64 k_2), (4, cutV 17 vs (k_1).toNat ((s1.length : Int)).toNat), (5, .int .i64 k2_1)] ⟨e0, e2, e3, e4, e5, trivial⟩ ?_
        refine HW.seq ?_
        refine HW.seq ?_
        refine HW.region ?_
        refine HO.val (v := .int .i64 k2_1) (want_none) rfl (q_move rfl) ?_
        refine HO.val (v := cutV 17 vs (k_1).toNat ((s1.length : Int)).toNat) (want_none) rfl (q_move rfl) ?_
        obtain ⟨ho_5, hM⟩ := hM
        refine HO.val (v := .int .i64 ((cut l_2 k_1 (s1.length : Int)).length : Int)) (want_none) rfl (q_len ts_22 (shp (cutIs (hS.own 0 rfl).slice k_1 (s1.length : Int) ho_5.1 ho_5.2.1 ho_5.2.2)) rfl rfl) ?_
        refine HO.val (v := .bool (decide (k2_1 < ((cut l_2 k_1 (s1.length : Int)).length : Int)))) (want_none) rfl (q_lss rfl rfl) ?_
        refine HO.nil (thenQ_normal (?_))
        refine HW.cond (decide (k2_1 < ((cut l_2 k_1 (s1.length : Int)).length : Int))) rfl (fun c_4 => ?_) (fun c_4 => ?_)
        · replace hM := hM.1 (of_decide_eq_true c_4)
          refine HW.skip (thenQ_normal (?_))
          refine HW.seq ?_
          refine HW.block ?_
          refine HW.seq ?_
          refine HW.regionA 10 mixed (fun h => (OwnIs h 0 27 17 e_api_Addr vs l_2)) [] (by kernel_rfl) ?_
          refine HA.val (k := 0) (v := cutV 17 vs (k_1).toNat ((s1.length : Int)).toNat) rfl rfl (by kernel_rfl) (by kernel_rfl) (want_none) rfl (fun _ c520 => q_move rfl) ?_
          refine HA.val (k := 1) (v := .int .i64 k2_1) rfl rfl (by kernel_rfl) (by kernel_rfl) (want_none) rfl (fun _ c520 => q_move rfl) ?_
          obtain ⟨ho_6, hM⟩ := hM
          refine HA.val (k := 2) (v := elemPtr 17 (cutV 17 vs (k_1).toNat ((s1.length : Int)).toNat) (k2_1).toNat) rfl rfl (by kernel_rfl) (by kernel_rfl) (want_none) rfl (fun _ c520 => q_idx ts_22 (cutIs c520.slice k_1 (s1.length : Int) ho_5.1 ho_5.2.1 ho_5.2.2) rfl rfl ho_6) ?_
          refine HA.val (k := 3) (v := .agg (e_api_Addr ((gi (cut l_2 k_1 (s1.length : Int)) k2_1).1, ((gi (cut l_2 k_1 (s1.length : Int)) k2_1).2))).toArray) rfl rfl (by kernel_rfl) (by kernel_rfl) (want_none) rfl (fun _ c520 => q_ldElemAgg (cs := (e_api_Addr ((gi (cut l_2 k_1 (s1.length : Int)) k2_1).1, ((gi (cut l_2 k_1 (s1.length : Int)) k2_1).2)))) ta_27 (cutIs c520.slice k_1 (s1.length : Int) ho_5.1 ho_5.2.1 ho_5.2.2) rfl ho_6 rfl) ?_
          refine HA.val (k := 4) (v := cutV 17 vs (k_1).toNat ((s1.length : Int)).toNat) rfl rfl (by kernel_rfl) (by kernel_rfl) (want_none) rfl (fun _ c520 => q_move rfl) ?_
          refine HA.val (k := 5) (v := .int .i64 k2_1) rfl rfl (by kernel_rfl) (by kernel_rfl) (want_none) rfl (fun _ c520 => q_move rfl) ?_
          obtain ⟨ho_7, hM⟩ := hM
          refine HA.val (k := 6) (v := .int .i64 (k2_1 - 1)) rfl rfl (by kernel_rfl) (by kernel_rfl) (want_none) rfl (fun _ c520 => q_subN _ rfl rfl rfl ho_7.1 ho_7.2) ?_
          obtain ⟨ho_8, hM⟩ := hM
          refine HA.val (k := 7) (v := elemPtr 17 (cutV 17 vs (k_1).toNat ((s1.length : Int)).toNat) (k2_1 - 1).toNat) rfl rfl (by kernel_rfl) (by kernel_rfl) (want_none) rfl (fun _ c520 => q_idx ts_22 (cutIs c520.slice k_1 (s1.length : Int) ho_5.1 ho_5.2.1 ho_5.2.2) rfl rfl ho_8) ?_
          refine HA.val (k := 8) (v := .agg (e_api_Addr ((gi (cut l_2 k_1 (s1.length : Int)) (k2_1 - 1)).1, ((gi (cut l_2 k_1 (s1.length : Int)) (k2_1 - 1)).2))).toArray) rfl rfl (by kernel_rfl) (by kernel_rfl) (want_none) rfl (fun _ c520 => q_ldElemAgg (cs := (e_api_Addr ((gi (cut l_2 k_1 (s1.length : Int)) (k2_1 - 1)).1, ((gi (cut l_2 k_1 (s1.length : Int)) (k2_1 - 1)).2)))) ta_27 (cutIs c520.slice k_1 (s1.length : Int) ho_5.1 ho_5.2.1 ho_5.2.2) rfl ho_8 rfl) ?_
          refine HA.val (k := 9) (v := .bool (!decide ((((gi (cut l_2 k_1 (s1.length : Int)) k2_1).1, ((gi (cut l_2 k_1 (s1.length : Int)) k2_1).2)) : T_api_Addr) = ((gi (cut l_2 k_1 (s1.length : Int)) (k2_1 - 1)).1, ((gi (cut l_2 k_1 (s1.length : Int)) (k2_1 - 1)).2))))) rfl rfl (by kernel_rfl) (by kernel_rfl) (want_none) rfl (fun _ c520 => q_neqAgg (a := ((gi (cut l_2 k_1 (s1.length : Int)) k2_1).1, ((gi (cut l_2 k_1 (s1.length : Int)) k2_1).2))) (b := ((gi (cut l_2 k_1 (s1.length : Int)) (k2_1 - 1)).1, ((gi (cut l_2 k_1 (s1.length : Int)) (k2_1 - 1)).2))) (fun a b w => teq_27 9997 a b w) (by kernel_rfl) rfl rfl rfl rfl) ?_
          refine HA.nil ⟨(hS.own 0 rfl), (Go.Wk.at_nil _ _)⟩ (by kernel_rfl) (thenQ_normal (?_))
          refine HW.cond (!decide ((((gi (cut l_2 k_1 (s1.length : Int)) k2_1).1, ((gi (cut l_2 k_1 (s1.length : Int)) k2_1).2)) : T_api_Addr) = ((gi (cut l_2 k_1 (s1.length : Int)) (k2_1 - 1)).1, ((gi (cut l_2 k_1 (s1.length : Int)) (k2_1 - 1)).2)))) rfl (fun c_5 => ?_) (fun c_5 => ?_)
          · replace hM := hM.1 (nd_true c_5)
            refine HW.seq ?_
            refine HW.region ?_
            refine HO.val (v := vs) (want_none) rfl (q_move rfl) ?_
            refine HO.val (v := .int .i64 k_2) (want_none) rfl (q_move rfl) ?_
            refine HO.val (v := cutV 17 vs (k_1).toNat ((s1.length : Int)).toNat) (want_none) rfl (q_move rfl) ?_
            refine HO.val (v := .int .i64 k2_1) (want_none) rfl (q_move rfl) ?_
            refine HO.val (v := elemPtr 17 (cutV 17 vs (k_1).toNat ((s1.length : Int)).toNat) (k2_1).toNat) (want_none) rfl (q_idx ts_22 (cutIs (hS.own 0 rfl).slice k_1 (s1.length : Int) ho_5.1 ho_5.2.1 ho_5.2.2) rfl rfl ho_6) ?_
            refine HO.val (v := .agg (e_api_Addr ((gi (cut l_2 k_1 (s1.length : Int)) k2_1).1, ((gi (cut l_2 k_1 (s1.length : Int)) k2_1).2))).toArray) (want_none) rfl (q_ldElemAgg (cs := (e_api_Addr ((gi (cut l_2 k_1 (s1.length : Int)) k2_1).1, ((gi (cut l_2 k_1 (s1.length : Int)) k2_1).2)))) ta_27 (cutIs (hS.own 0 rfl).slice k_1 (s1.length : Int) ho_5.1 ho_5.2.1 ho_5.2.2) rfl ho_6 rfl) ?_
            obtain ⟨ho_9, hM⟩ := hM
            refine HO.val (v := elemPtr 17 vs (k_2).toNat) (want_none) rfl (q_idx ts_22 (hS.own 0 rfl).slice rfl rfl ho_9) ?_
            refine HO.sto (want_none) rfl (st_storeElem (a := ((gi (cut l_2 k_1 (s1.length : Int)) k2_1).1, ((gi (cut l_2 k_1 (s1.length : Int)) k2_1).2))) (t := k_2) hS (i := 0) rfl ta_27 rfl ho_9 rfl rfl rfl (one_e_api_Addr _)) ?_
            rintro h_3 ⟨hS, hk⟩
            replace hS : St F_2 (Ow.own 27 17 e_api_Addr vs (l_2.set (k_2).toNat ((gi (cut l_2 k_1 (s1.length : Int)) k2_1).1, ((gi (cut l_2 k_1 (s1.length : Int)) k2_1).2))) :: fr) h_3 := hS
            replace hK := hK.trans hk
            refine HO.nil (thenQ_normal (?_))
            refine HW.region ?_
            refine HO.val (v := .int .i64 k_2) (want_none) rfl (q_move rfl) ?_
            obtain ⟨ho_10, hM⟩ := hM
            refine HO.val (v := .int .i64 (k_2 + 1)) (want_none) rfl (q_addN _ rfl rfl rfl ho_10.1 ho_10.2) ?_
            refine HO.val (v := .int .i64 (k_2 + 1)) (want_none) rfl (q_assign rfl) ?_
            refine HO.nil (blockQ_normal (thenQ_normal (?_)))
            refine HW.region ?_
            refine HO.val (v := .int .i64 k2_1) (want_none) rfl (q_move rfl) ?_
            obtain ⟨ho_11, hM⟩ := hM
            refine HO.val (v := .int .i64 (k2_1 + 1)) (want_none) rfl (q_addN _ rfl rfl rfl ho_11.1 ho_11.2) ?_
            refine HO.val (v := .int .i64 (k2_1 + 1)) (want_none) rfl (q_assign rfl) ?_
            refine HO.nil (thenQ_normal (?_))
            rw [hKe_2] at hM
            exact ⟨(l_2.set (k_2).toNat ((gi (cut l_2 k_1 (s1.length : Int)) k2_1).1, ((gi (cut l_2 k_1 (s1.length : Int)) k2_1).2)), k_2 + 1, k2_1 + 1), ⟨F_2, rfl, rfl, rfl, rfl, rfl, hK, hS, hM.1⟩, hM.2⟩
          · replace hM := hM.2 (nd_false c_5)
            refine HW.skip (blockQ_normal (thenQ_normal (?_)))
            refine HW.region ?_
            refine HO.val (v := .int .i64 k2_1) (want_none) rfl (q_move rfl) ?_
            obtain ⟨ho_12, hM⟩ := hM
            refine HO.val (v := .int .i64 (k2_1 + 1)) (want_none) rfl (q_addN _ rfl rfl rfl ho_12.1 ho_12.2) ?_
            refine HO.val (v := .int .i64 (k2_1 + 1)) (want_none) rfl (q_assign rfl) ?_
            refine HO.nil (thenQ_normal (?_))
            rw [hKe_2] at hM
            exact ⟨(l_2, k_2, k2_1 + 1), ⟨F_2, rfl, rfl, rfl, rfl, rfl, hK, hS, hM.1⟩, hM.2⟩
        · replace hM := hM.2 (of_decide_eq_false c_4)
          refine HW.exit (thenQ_exit (thenQ_exit (blockQ_exit (thenQ_normal (?_)))))
          refine HW.seq ?_
          refine HW.region ?_
          refine HO.val (v := vs) (want_none) rfl (q_move rfl) ?_
          refine HO.val (v := .int .i64 k_2) (want_none) rfl (q_move rfl) ?_
          obtain ⟨ho_13, hM⟩ := hM
          refine HO.val (v := cutV 17 vs (k_2).toNat ((l_2.length : Int)).toNat) (want_none) rfl (q_slL ts_22 (hS.own 0 rfl).slice rfl rfl ho_13) ?_
          obtain ⟨ho_14, hM⟩ := hM
          refine HO.eff (want_none) rfl (st_clearS (lo := k_2) (hi := (l_2.length : Int)) (z := .agg #[.bool false, .int .u8 0, .int .u8 0, .int .u8 0, .int .u8 0, .int .u8 0, .int .u8 0, .int .u8 0, .int .u8 0, .int .u8 0, .int .u8 0, .int .u8 0, .int .u8 0, .int .u8 0, .int .u8 0, .int .u8 0, .int .u8 0]) hS (i := 0) rfl te_22 tz_27 rfl (by intro u hu; simp [e_api_Addr, encI, encN, encB, encT, default] at hu; rcases hu with rfl | rfl | rfl | rfl | rfl | rfl | rfl | rfl | rfl | rfl | rfl | rfl | rfl | rfl | rfl | rfl | rfl <;> rfl) rfl ho_14 rfl) ?_
          rintro _ h_4 ⟨rfl, hS, hk⟩
          replace hS : St F_2 (Ow.own 27 17 e_api_Addr vs (clr l_2 k_2 (l_2.length : Int)) :: fr) h_4 := hS
          replace hK := hK.trans hk
          refine HO.nil (thenQ_normal (?_))
          refine HW.seq ?_
          refine HW.region ?_
          refine HO.val (v := vs) (want_none) rfl (q_move rfl) ?_
          refine HO.val (v := .int .i64 k_2) (want_none) rfl (q_move rfl) ?_
          obtain ⟨ho_15, hM⟩ := hM
          refine HO.val (v := cutV 17 vs (0 : Int).toNat (k_2).toNat) (want_none) rfl (q_slH ts_22 (hS.own 0 rfl).slice rfl rfl ho_15) ?_
          refine HO.val (v := cutV 17 vs (0 : Int).toNat (k_2).toNat) (want_none) rfl (q_assign rfl) ?_
          refine HO.nil (thenQ_normal (?_))
          refine HW.ret (blockQ_ret (thenQ_ret (thenQ_ret (blockQ_ret (thenQ_ret (?_))))))
          refine ⟨.inr rfl, cutV 17 vs (0 : Int).toNat (k_2).toNat, res1 rfl (rt rfl), ?_⟩
          replace hS := hS.shrink 0 rfl k_2 ho_15.1 ho_15.2
          replace hS : St F_2 (Ow.own 27 17 e_api_Addr (cutV 17 vs (0 : Int).toNat (k_2).toNat) (cut (clr l_2 k_2 (l_2.length : Int)) 0 k_2) :: fr) h_4 := hS
          exact ⟨F_2, cut (clr l_2 k_2 (l_2.length : Int)) 0 k_2, cutV 17 vs (0 : Int).toNat (k_2).toNat, rfl, hK, hS, hM⟩
      · replace hM := hM.2 (of_decide_eq_false c_3)
        refine HW.skip (blockQ_normal (thenQ_normal (?_)))
        refine HW.region ?_
        refine HO.val (v := .int .i64 k_1) (want_none) rfl (q_move rfl) ?_
        obtain ⟨ho_16, hM⟩ := hM
        refine HO.val (v := .int .i64 (k_1 + 1)) (want_none) rfl (q_addN _ rfl rfl rfl ho_16.1 ho_16.2) ?_
        refine HO.val (v := .int .i64 (k_1 + 1)) (want_none) rfl (q_assign rfl) ?_
        refine HO.nil (thenQ_normal (?_))
        rw [hKe_1] at hM
        exact ⟨k_1 + 1, ⟨F_1, rfl, rfl, rfl, hK, hS, hM.1⟩, hM.2⟩
    · replace hM := hM.2 (of_decide_eq_false c_2)
      refine HW.exit (thenQ_exit (thenQ_exit (blockQ_exit (thenQ_normal (?_)))))
      refine HW.seq ?_
      refine HW.region ?_
      refine HO.val (v := vs) (want_none) rfl (q_move rfl) ?_
      refine HO.val (v := vs) (want_none) rfl (q_assign rfl) ?_
      refine HO.nil (thenQ_normal (?_))
      refine HW.ret (?_)
      refine ⟨.inr rfl, vs, res1 rfl (rt rfl), ?_⟩
      exact ⟨F_1, s1, vs, rfl, hK, hS, hM⟩

def srcs_Of_W (l : List T_api_Addr) (Q : (List T_api_Addr) → Prop) : Prop :=
  slices_Clone_s_api_Addr_api_Addr_W l (fun r_2 => ∃ cf_1 : T_api_Addr → Bool, (∀ x0, srcs_Of_1_W x0 (fun r => r = cf_1 x0)) ∧ (slices_DeleteFunc_s_api_Addr_api_Addr_W r_2 cf_1 (fun r_3 => ∃ cf_2 : T_api_Addr → T_api_Addr → Int, Swo cf_2 ∧ (∀ x y, addr_Cmp_W x y (fun r => r = cf_2 x y)) ∧ (r_3).length < 4611686018427387904 ∧ ∀ l_1 : List T_api_Addr, List.Perm l_1 r_3 → List.Pairwise (fun x y => ¬ cf_2 y x < 0) l_1 → (slices_Compact_s_api_Addr_api_Addr_W l_1 (fun r_4 => Q r_4)))))
set_option maxHeartbeats 40000000 in
set_option maxRecDepth 100000 in
theorem srcs_Of_walk {F : Fz} {fr : List Ow} {h0 : Heap} (l : List T_api_Addr) (vl : Value) (hS : St F (fr) h0) (hL_l : SliceF F h0 17 e_api_Addr vl l) {Q : (List T_api_Addr) → Prop} (hM : srcs_Of_W l Q) :
    HC Tryd.prog 35 #[vl] h0 fun u h' => ∃ (F' : Fz) (r_1 : List T_api_Addr) (vr_1 : Value), u = vr_1 ∧ Kp F h0 F' h' ∧ St F' (Ow.own 27 17 e_api_Addr vr_1 r_1 :: fr) h' ∧ (SliceF F' h' 17 e_api_Addr vl l) ∧ Q r_1 := by
  unfold srcs_Of_W at hM
  have hK := Kp.refl F h0
  refine HC.of_HW (n := 11) Tryd.func35 rfl rfl (Nat.le_of_ble_eq_true rfl) ?_
  refine HW.seq ?_
  refine HW.region ?_
  refine HO.val (v := .slice none 0 0) (want_none) rfl (q_assign rfl) ?_
  refine HO.nil (thenQ_normal (?_))
  refine HW.seq ?_
  refine HW.region ?_
  refine HO.val (v := vl) (want_none) rfl (q_move rfl) ?_
  refine HO.call (want_none) rfl (ec en_48 rfl rfl) (slices_Clone_s_api_Addr_api_Addr_walk (fr := (fr)) l vl hS hL_l hM) ?_
  rintro vr_2 h_1 ⟨F_1, r_2, _, rfl, hk, hS, _, hM⟩
  replace hK := hK.trans hk
  replace hL_l := hL_l.kp hk
  obtain ⟨cf_1, hc_1, hM⟩ := hM
  have hF_1 : FnP Tryd.prog F_1 h_1 56 #[] #[] (fun x : T_api_Addr => [.agg (e_api_Addr x).toArray]) (fun x => .bool (cf_1 x)) := FnP.of en_56 (fun x h' hk_ => @HC.mono ⟨true⟩ _ _ _ _ _ _ (@srcs_Of_1_walk ⟨true⟩ (allF h') [] h' x  (St.init h')  (fun r => r = cf_1 x) (hc_1 x)) (fun u h'' ⟨F', r, hu, k_, _, hr⟩ => ⟨by rw [hu, hr], F', k_⟩))
  refine HO.call (want_none) rfl (ec en_55 rfl rfl) (slices_DeleteFunc_s_api_Addr_api_Addr_walk (fr := (fr)) r_2 cf_1 vr_2 56 (#[]) (#[]) hS hF_1 hM) ?_
  rintro vr_3 h_2 ⟨F_2, r_3, _, rfl, hk, hS, _, hM⟩
  replace hK := hK.trans hk
  replace hL_l := hL_l.kp hk
  replace hF_1 := hF_1.kp hk
  refine HO.val (v := vr_3) (want_none) rfl (q_assign rfl) ?_
  refine HO.nil (thenQ_normal (?_))
  refine HW.seq ?_
  refine HW.region ?_
  refine HO.val (v := vr_3) (want_none) rfl (q_move rfl) ?_
  obtain ⟨cf_2, ho_1, hc_2, hM⟩ := hM
  obtain ⟨ho_2, hM⟩ := hM
  refine HO.call (want_none) rfl (ec en_58 rfl rfl) (sortFunc_own Tryd.sortAddr (by decide) (fun w => by kernel_rfl) (fun w => by kernel_rfl) (enc := e_api_Addr) (fun _ => rfl) (by intro a u hu; simp [e_api_Addr, encI, encN, encB, encT] at hu; rcases hu with rfl | rfl | rfl | rfl | rfl | rfl | rfl | rfl | rfl | rfl | rfl | rfl | rfl | rfl | rfl | rfl | rfl <;> rfl) ho_1 hS (fnP2 (enc := e_api_Addr) en_59 (fun x y h' => @addr_Cmp_walk ⟨true⟩ (allF h') [] h' x y (St.init h') (fun r => r = cf_2 x y) (hc_2 x y))) ho_2) ?_
  rintro _ h_3 ⟨l_1, rfl, hk, hS, hp_1, hs_1⟩
  replace hM := hM l_1 hp_1 hs_1
  replace hS : St F_2 (Ow.own 27 17 e_api_Addr vr_3 l_1 :: fr) h_3 := hS
  replace hK := hK.trans hk
  replace hL_l := hL_l.kp hk
  replace hF_1 := hF_1.kp hk
  refine HO.nil (thenQ_normal (?_))
  refine HW.seq ?_
  refine HW.region ?_
  refine HO.val (v := vr_3) (want_none) rfl (q_move rfl) ?_
  refine HO.call (want_none) rfl (ec en_60 rfl rfl) (slices_Compact_s_api_Addr_api_Addr_walk (fr := (fr)) l_1 vr_3 hS hM) ?_
  rintro vr_4 h_4 ⟨F_3, r_4, _, rfl, hk, hS, hM⟩
  replace hK := hK.trans hk
  replace hL_l := hL_l.kp hk
  replace hF_1 := hF_1.kp hk
  refine HO.val (v := vr_4) (want_none) rfl (q_assign rfl) ?_
  refine HO.nil (thenQ_normal (?_))
  refine HW.ret (?_)
  refine ⟨.inr rfl, vr_4, res1 rfl (rt rfl), ?_⟩
  exact ⟨F_3, r_4, vr_4, rfl, hK, hS, hL_l, hM⟩

def ref11_Same_l1 (a : List T_api_Addr) (b : List T_api_Addr) (Q : Bool → Prop) (K_1 : Int → Prop) (i_1 : Int) : Prop :=
  (i_1 < (a.length : Int) → ((0 : Int) ≤ i_1 ∧ i_1 < (a.length : Int)) ∧ (((0 : Int) ≤ i_1 ∧ i_1 < (b.length : Int)) ∧ ((¬ (((gi a i_1) : T_api_Addr) = (gi b i_1)) → Q false) ∧ (((gi a i_1) : T_api_Addr) = (gi b i_1) → (I64 (i_1 + 1)) ∧ (K_1 (i_1 + 1)))))) ∧ (¬ (i_1 < (a.length : Int)) → Q true)
def ref11_Same_W (a : List T_api_Addr) (b : List T_api_Addr) (Q : Bool → Prop) : Prop :=
  (¬ ((a.length : Int) = (b.length : Int)) → Q false) ∧ ((a.length : Int) = (b.length : Int) → loopW (fun (K_1 : Int → Prop) (s : Int) => ref11_Same_l1 a b Q K_1 s) 0)
set_option maxHeartbeats 40000000 in
set_option maxRecDepth 100000 in
theorem ref11_Same_walk {F : Fz} {fr : List Ow} {h0 : Heap} (a : List T_api_Addr) (b : List T_api_Addr) (va : Value) (vb : Value) (hS : St F (fr) h0) (hL_a : SliceF F h0 17 e_api_Addr va a) (hL_b : SliceF F h0 17 e_api_Addr vb b) {Q : Bool → Prop} (hM : ref11_Same_W a b Q) :
    HC Tryd.prog 27 #[va, vb] h0 fun u h' => ∃ (F' : Fz) (r_1 : Bool), u = .bool r_1 ∧ Kp F h0 F' h' ∧ St F' (fr) h' ∧ (SliceF F' h' 17 e_api_Addr va a) ∧ (SliceF F' h' 17 e_api_Addr vb b) ∧ Q r_1 := by
  unfold ref11_Same_W at hM
  have hK := Kp.refl F h0
  refine HC.of_HW (n := 26) Tryd.func27 rfl rfl (Nat.le_of_ble_eq_true rfl) ?_
  refine HW.seq ?_
  refine HW.region ?_
  refine HO.val (v := .bool false) (want_none) rfl (q_assign rfl) ?_
  refine HO.nil (thenQ_normal (?_))
  refine HW.seq ?_
  refine HW.seq ?_
  refine HW.region ?_
  refine HO.val (v := va) (want_none) rfl (q_move rfl) ?_
  refine HO.val (v := .int .i64 (a.length : Int)) (want_none) rfl (q_len ts_22 (shp hL_a.is) rfl rfl) ?_
  refine HO.val (v := vb) (want_none) rfl (q_move rfl) ?_
  refine HO.val (v := .int .i64 (b.length : Int)) (want_none) rfl (q_len ts_22 (shp hL_b.is) rfl rfl) ?_
  refine HO.val (v := .bool (!decide ((a.length : Int) = (b.length : Int)))) (want_none) rfl (q_neq rfl rfl) ?_
  refine HO.nil (thenQ_normal (?_))
  refine HW.cond (!decide ((a.length : Int) = (b.length : Int))) rfl (fun c_1 => ?_) (fun c_1 => ?_)
  · replace hM := hM.1 (nd_true c_1)
    refine HW.seq ?_
    refine HW.region ?_
    refine HO.val (v := .bool false) (want_none) rfl (q_assign rfl) ?_
    refine HO.nil (thenQ_normal (?_))
    refine HW.ret (thenQ_ret (?_))
    refine ⟨.inr rfl, .bool false, res1 rfl (rt rfl), ?_⟩
    exact ⟨F, false, rfl, hK, hS, hL_a, hL_b, hM⟩
  · replace hM := hM.2 (nd_false c_1)
    refine HW.skip (thenQ_normal (?_))
    refine HW.seq ?_
    refine HW.seq ?_
    refine HW.region ?_
    refine HO.val (v := .int .i64 0) (want_none) rfl (q_assign rfl) ?_
    refine HO.nil (thenQ_normal (?_))
    refine HW.block ?_
    obtain ⟨I_1, m_1, hI_1, hR_1⟩ := hM
    refine HW.loop (S := Int) (fun i_1 f h => ∃ (F' : Fz), f 0 = va ∧ f 1 = vb ∧ f 4 = .bool false ∧ f 5 = .int .i64 i_1 ∧ Kp F h0 F' h ∧ St F' (fr) h ∧ (SliceF F' h 17 e_api_Addr va a) ∧ (SliceF F' h 17 e_api_Addr vb b) ∧ I_1 i_1) m_1 0 ⟨F, rfl, rfl, rfl, rfl, hK, hS, hL_a, hL_b, hI_1⟩ ?_
    rintro i_1 f_1 h_1 ⟨F_1, e0, e1, e4, e5, hK, hS, hL_a, hL_b, hI0⟩
    obtain ⟨K_1, hKe_1⟩ : ∃ K : Int → Prop, K = fun i_1' => I_1 i_1' ∧ m_1 i_1' < m_1 i_1 := ⟨_, rfl⟩
    have hM : ref11_Same_l1 a b Q K_1 i_1 := by rw [hKe_1]; exact hR_1 i_1 hI0
    unfold ref11_Same_l1 at hM
    refine HW.fr [(0, va), (1, vb), (4, .bool false), (5, .int .i64 i_1)] ⟨e0, e1, e4, e5, trivial⟩ ?_
    refine HW.seq ?_
    refine HW.seq ?_
    refine HW.region ?_
    refine HO.val (v := .int .i64 i_1) (want_none) rfl (q_move rfl) ?_
    refine HO.val (v := va) (want_none) rfl (q_move rfl) ?_
    refine HO.val (v := .int .i64 (a.length : Int)) (want_none) rfl (q_len ts_22 (shp hL_a.is) rfl rfl) ?_
    refine HO.val (v := .bool (decide (i_1 < (a.length : Int)))) (want_none) rfl (q_lss rfl rfl) ?_
    refine HO.nil (thenQ_normal (?_))
    refine HW.cond (decide (i_1 < (a.length : Int))) rfl (fun c_2 => ?_) (fun c_2 => ?_)
    · replace hM := hM.1 (of_decide_eq_true c_2)
      refine HW.skip (thenQ_normal (?_))
      refine HW.seq ?_
      refine HW.block ?_
      refine HW.seq ?_
      refine HW.regionA 9 mixed (fun h => (SliceIs h 17 e_api_Addr va a) ∧ (SliceIs h 17 e_api_Addr vb b)) [] (by kernel_rfl) ?_
      refine HA.val (k := 0) (v := va) rfl rfl (by kernel_rfl) (by kernel_rfl) (want_none) rfl (fun _ ⟨hL_a, hL_b⟩ => q_move rfl) ?_
      refine HA.val (k := 1) (v := .int .i64 i_1) rfl rfl (by kernel_rfl) (by kernel_rfl) (want_none) rfl (fun _ ⟨hL_a, hL_b⟩ => q_move rfl) ?_
      obtain ⟨ho_1, hM⟩ := hM
      refine HA.val (k := 2) (v := elemPtr 17 va (i_1).toNat) rfl rfl (by kernel_rfl) (by kernel_rfl) (want_none) rfl (fun _ ⟨hL_a, hL_b⟩ => q_idx ts_22 hL_a rfl rfl ho_1) ?_
      refine HA.val (k := 3) (v := .agg (e_api_Addr (gi a i_1)).toArray) rfl rfl (by kernel_rfl) (by kernel_rfl) (want_none) rfl (fun _ ⟨hL_a, hL_b⟩ => q_ldElemAgg (cs := (e_api_Addr (gi a i_1))) ta_27 hL_a rfl ho_1 rfl) ?_
      refine HA.val (k := 4) (v := vb) rfl rfl (by kernel_rfl) (by kernel_rfl) (want_none) rfl (fun _ ⟨hL_a, hL_b⟩ => q_move rfl) ?_
      refine HA.val (k := 5) (v := .int .i64 i_1) rfl rfl (by kernel_rfl) (by kernel_rfl) (want_none) rfl (fun _ ⟨hL_a, hL_b⟩ => q_move rfl) ?_
      obtain ⟨ho_2, hM⟩ := hM
      refine HA.val (k := 6) (v := elemPtr 17 vb (i_1).toNat) rfl rfl (by kernel_rfl) (by kernel_rfl) (want_none) rfl (fun _ ⟨hL_a, hL_b⟩ => q_idx ts_22 hL_b rfl rfl ho_2) ?_
      refine HA.val (k := 7) (v := .agg (e_api_Addr (gi b i_1)).toArray) rfl rfl (by kernel_rfl) (by kernel_rfl) (want_none) rfl (fun _ ⟨hL_a, hL_b⟩ => q_ldElemAgg (cs := (e_api_Addr (gi b i_1))) ta_27 hL_b rfl ho_2 rfl) ?_
      refine HA.val (k := 8) (v := .bool (!decide (((gi a i_1) : T_api_Addr) = (gi b i_1)))) rfl rfl (by kernel_rfl) (by kernel_rfl) (want_none) rfl (fun _ ⟨hL_a, hL_b⟩ => q_neqAgg (a := (gi a i_1)) (b := (gi b i_1)) (fun a b w => teq_27 9997 a b w) (by kernel_rfl) rfl rfl rfl rfl) ?_
      refine HA.nil ⟨⟨hL_a.is, hL_b.is⟩, (Go.Wk.at_nil _ _)⟩ (by kernel_rfl) (thenQ_normal (?_))
      refine HW.cond (!decide (((gi a i_1) : T_api_Addr) = (gi b i_1))) rfl (fun c_3 => ?_) (fun c_3 => ?_)
      · replace hM := hM.1 (nd_true c_3)
        refine HW.seq ?_
        refine HW.region ?_
        refine HO.val (v := .bool false) (want_none) rfl (q_assign rfl) ?_
        refine HO.nil (thenQ_normal (?_))
        refine HW.ret (blockQ_ret (thenQ_ret (thenQ_ret (blockQ_ret (thenQ_ret (?_))))))
        refine ⟨.inr rfl, .bool false, res1 rfl (rt rfl), ?_⟩
        exact ⟨F_1, false, rfl, hK, hS, hL_a, hL_b, hM⟩
      · replace hM := hM.2 (nd_false c_3)
        refine HW.skip (blockQ_normal (thenQ_normal (?_)))
        refine HW.region ?_
        refine HO.val (v := .int .i64 i_1) (want_none) rfl (q_move rfl) ?_
        obtain ⟨ho_3, hM⟩ := hM
        refine HO.val (v := .int .i64 (i_1 + 1)) (want_none) rfl (q_addN _ rfl rfl rfl ho_3.1 ho_3.2) ?_
        refine HO.val (v := .int .i64 (i_1 + 1)) (want_none) rfl (q_assign rfl) ?_
        refine HO.nil (thenQ_normal (?_))
        rw [hKe_1] at hM
        exact ⟨i_1 + 1, ⟨F_1, rfl, rfl, rfl, rfl, hK, hS, hL_a, hL_b, hM.1⟩, hM.2⟩
    · replace hM := hM.2 (of_decide_eq_false c_2)
      refine HW.exit (thenQ_exit (thenQ_exit (blockQ_exit (thenQ_normal (?_)))))
      refine HW.seq ?_
      refine HW.region ?_
      refine HO.val (v := .bool true) (want_none) rfl (q_assign rfl) ?_
      refine HO.nil (thenQ_normal (?_))
      refine HW.ret (?_)
      refine ⟨.inr rfl, .bool true, res1 rfl (rt rfl), ?_⟩
      exact ⟨F_1, true, rfl, hK, hS, hL_a, hL_b, hM⟩

def srcs_Good_l1 (l : List T_api_Addr) (Q : Bool → Prop) (K_1 : Int → Prop) (n_1 : Int) : Prop :=
  (n_1 < (l.length : Int) → ((0 : Int) ≤ n_1 ∧ n_1 < (l.length : Int)) ∧ (addr_Good_W (gi l n_1) (fun r_2 => ((!r_2) = true → Q false) ∧ ((!r_2) = false → (0 < n_1 → (I64 (n_1 - 1)) ∧ (((0 : Int) ≤ n_1 - 1 ∧ n_1 - 1 < (l.length : Int)) ∧ (addr_Cmp_W (gi l (n_1 - 1)) (gi l n_1) (fun r_3 => (0 ≤ r_3 → Q false) ∧ (¬ (0 ≤ r_3) → (I64 (n_1 + 1)) ∧ (K_1 (n_1 + 1))))))) ∧ (¬ (0 < n_1) → (I64 (n_1 + 1)) ∧ (K_1 (n_1 + 1))))))) ∧ (¬ (n_1 < (l.length : Int)) → Q true)
def srcs_Good_W (l : List T_api_Addr) (Q : Bool → Prop) : Prop :=
  loopW (fun (K_1 : Int → Prop) (s : Int) => srcs_Good_l1 l Q K_1 s) 0
set_option maxHeartbeats 40000000 in
set_option maxRecDepth 100000 in
theorem srcs_Good_walk {F : Fz} {fr : List Ow} {h0 : Heap} (l : List T_api_Addr) (vl : Value) (hS : St F (fr) h0) (hL_l : SliceF F h0 17 e_api_Addr vl l) {Q : Bool → Prop} (hM : srcs_Good_W l Q) :
    HC Tryd.prog 36 #[vl] h0 fun u h' => ∃ (F' : Fz) (r_1 : Bool), u = .bool r_1 ∧ Kp F h0 F' h' ∧ St F' (fr) h' ∧ (SliceF F' h' 17 e_api_Addr vl l) ∧ Q r_1 := by
  unfold srcs_Good_W at hM
  have hK := Kp.refl F h0
  refine HC.of_HW (n := 30) Tryd.func36 rfl rfl (Nat.le_of_ble_eq_true rfl) ?_
  refine HW.seq ?_
  refine HW.region ?_
  refine HO.val (v := .bool false) (want_none) rfl (q_assign rfl) ?_
  refine HO.nil (thenQ_normal (?_))
  refine HW.seq ?_
  refine HW.seq ?_
  refine HW.region ?_
  refine HO.val (v := vl) (want_none) rfl (q_move rfl) ?_
  refine HO.val (v := .int .i64 (l.length : Int)) (want_none) rfl (q_len ts_22 (shp hL_l.is) rfl rfl) ?_
  refine HO.val (v := .int .i64 0) (want_none) rfl (q_move rfl) ?_
  refine HO.nil (thenQ_normal (?_))
  refine HW.block ?_
  obtain ⟨I_1, m_1, hI_1, hR_1⟩ := hM
  refine HW.loop (S := Int) (fun n_1 f h => ∃ (F' : Fz), f 0 = vl ∧ f 2 = .bool false ∧ f 5 = vl ∧ f 6 = .int .i64 (l.length : Int) ∧ f 7 = .int .i64 n_1 ∧ Kp F h0 F' h ∧ St F' (fr) h ∧ (SliceF F' h 17 e_api_Addr vl l) ∧ I_1 n_1) m_1 0 ⟨F, rfl, rfl, rfl, rfl, rfl, hK, hS, hL_l, hI_1⟩ ?_
  rintro n_1 f_1 h_1 ⟨F_1, e0, e2, e5, e6, e7, hK, hS, hL_l, hI0⟩
  obtain ⟨K_1, hKe_1⟩ : ∃ K : Int → Prop, K = fun n_1' => I_1 n_1' ∧ m_1 n_1' < m_1 n_1 := ⟨_, rfl⟩
  have hM : srcs_Good_l1 l Q K_1 n_1 := by rw [hKe_1]; exact hR_1 n_1 hI0
  unfold srcs_Good_l1 at hM
  refine HW.fr [(0, vl), (2, .bool false), (5, vl), (6, .int .i64 (l.length : Int)), (7, .int .i64 n_1)] ⟨e0, e2, e5, e6, e7, trivial⟩ ?_
  refine HW.seq ?_
  refine HW.region ?_
  refine HO.val (v := .bool (decide (n_1 < (l.length : Int)))) (want_none) rfl (q_lss rfl rfl) ?_
  refine HO.nil (thenQ_normal (?_))
  refine HW.seq ?_
  refine HW.cond (decide (n_1 < (l.length : Int))) rfl (fun c_1 => ?_) (fun c_1 => ?_)
  · replace hM := hM.1 (of_decide_eq_true c_1)
    refine HW.skip (thenQ_normal (?_))
    refine HW.seq ?_
    refine HW.block ?_
    refine HW.seq ?_
    refine HW.region ?_
    refine HO.val (v := .int .i64 n_1) (want_none) rfl (q_move rfl) ?_
    obtain ⟨ho_1, hM⟩ := hM
    refine HO.val (v := elemPtr 17 vl (n_1).toNat) (want_none) rfl (q_idx ts_22 hL_l.is rfl rfl ho_1) ?_
    refine HO.val (v := .agg (e_api_Addr (gi l n_1)).toArray) (want_none) rfl (q_ldElemAgg (cs := (e_api_Addr (gi l n_1))) ta_27 hL_l.is rfl ho_1 rfl) ?_
    refine HO.eff (want_none) rfl (st_alloc (c := (e_api_Addr (false, (default : Ba 16))).toArray) hS tz_27 rfl) ?_
    rintro _ h_2 ⟨b_1, rfl, hS, hk⟩
    replace hK := hK.trans hk
    replace hL_l := hL_l.kp hk
    refine HO.val (v := .int .i64 n_1) (want_none) rfl (q_assign rfl) ?_
    refine HO.sto (want_none) rfl (st_storeAgg (c' := (e_api_Addr (gi l n_1)).toArray) hS (i := 0) rfl ta_27 rfl rfl rfl (one_e_api_Addr _) (Nat.le_of_ble_eq_true rfl) rfl) ?_
    rintro h_3 ⟨hS, hk⟩
    replace hS : St F_1 (Ow.box b_1 27 (e_api_Addr (gi l n_1)).toArray :: fr) h_3 := hS
    replace hK := hK.trans hk
    replace hL_l := hL_l.kp hk
    refine HO.nil (thenQ_normal (?_))
    refine HW.seq ?_
    refine HW.regionA 17 mixed (fun h => (SliceIs h 17 e_api_Addr vl l) ∧ (Blk h b_1 (.cells (e_api_Addr (gi l n_1)).toArray 27 (0, 0)))) [] (by kernel_rfl) ?_
    refine HA.val (k := 0) (v := .agg (e_api_Addr (gi l n_1)).toArray) rfl rfl (by kernel_rfl) (by kernel_rfl) (want_none) rfl (fun _ ⟨hL_l, c301⟩ => q_loadAgg (cs := (e_api_Addr (gi l n_1))) ta_27 rfl rfl (Blk.cells (k := 17) c301 rfl)) ?_
    refine HA.one (k := 1) ⟨⟨hL_l.is, (hS.box 0 rfl)⟩, (Go.Wk.at_nil _ _)⟩ (by kernel_rfl) ?_
    refine HS.call rfl (want_none) rfl (ec en_57 rfl rfl) (addr_Good_walk (fr := (Ow.box b_1 27 (e_api_Addr (gi l n_1)).toArray :: fr)) (gi l n_1) hS hM) ?_
    rintro _ h_4 ⟨F_2, r_2, rfl, hk, hS, hM⟩
    replace hK := hK.trans hk
    replace hL_l := hL_l.kp hk
    refine HA.val (k := 2) (v := .bool (!r_2)) rfl rfl (by kernel_rfl) (by kernel_rfl) (want_none) rfl (fun _ ⟨hL_l, c301⟩ => q_not rfl) ?_
    refine HA.val (k := 3) (v := .bool (!r_2)) rfl rfl (by kernel_rfl) (by kernel_rfl) (want_none) rfl (fun _ ⟨hL_l, c301⟩ => q_move rfl) ?_
    rcases Bool.eq_false_or_eq_true (!r_2) with c_2 | c_2
    · replace hM := hM.1 c_2
      refine HA.past (k := 4) rfl rfl (by kernel_rfl) (by kernel_rfl) (past_by rfl rfl c_2) rfl ?_
      refine HA.past (k := 5) rfl rfl (by kernel_rfl) (by kernel_rfl) (past_by rfl rfl c_2) rfl ?_
      refine HA.past (k := 6) rfl rfl (by kernel_rfl) (by kernel_rfl) (past_by rfl rfl c_2) rfl ?_
      refine HA.past (k := 7) rfl rfl (by kernel_rfl) (by kernel_rfl) (past_undef rfl rfl) rfl ?_
      refine HA.past (k := 8) rfl rfl (by kernel_rfl) (by kernel_rfl) (past_undef rfl rfl) rfl ?_
      refine HA.past (k := 9) rfl rfl (by kernel_rfl) (by kernel_rfl) (past_undef rfl rfl) rfl ?_
      refine HA.past (k := 10) rfl rfl (by kernel_rfl) (by kernel_rfl) (past_undef rfl rfl) rfl ?_
      refine HA.past (k := 11) rfl rfl (by kernel_rfl) (by kernel_rfl) (past_undef rfl rfl) rfl ?_
      refine HA.past (k := 12) rfl rfl (by kernel_rfl) (by kernel_rfl) (past_undef rfl rfl) rfl ?_
      refine HA.one (k := 13) ⟨⟨hL_l.is, (hS.box 0 rfl)⟩, (Go.Wk.at_nil _ _)⟩ (by kernel_rfl) ?_
      refine HS.past rfl (past_undef rfl rfl) rfl ?_
      refine HA.past (k := 14) rfl rfl (by kernel_rfl) (by kernel_rfl) (past_undef rfl rfl) rfl ?_
      refine HA.past (k := 15) rfl rfl (by kernel_rfl) (by kernel_rfl) (past_by rfl rfl c_2) rfl ?_
      refine HA.val (k := 16) (v := .bool true) rfl rfl (by kernel_rfl) (by kernel_rfl) (want_none) rfl (fun _ ⟨hL_l, c301⟩ => q_pickK true rfl c_2 rfl) ?_
      refine HA.nil ⟨⟨hL_l.is, (hS.box 0 rfl)⟩, (Go.Wk.at_nil _ _)⟩ (by kernel_rfl) (thenQ_normal (?_))
      refine HW.condT rfl ?_
      refine HW.seq ?_
      refine HW.region ?_
      refine HO.val (v := .bool false) (want_none) rfl (q_assign rfl) ?_
      refine HO.nil (thenQ_normal (?_))
      refine HW.ret (blockQ_ret (thenQ_ret (thenQ_ret (blockQ_ret (thenQ_ret (?_))))))
      refine ⟨.inr rfl, .bool false, res1 rfl (rt rfl), ?_⟩
      replace hS : St F_2 (fr) h_4 := hS.perm2 [] 1 rfl rfl
      exact ⟨F_2, false, rfl, hK, hS, hL_l, hM⟩
    · replace hM := hM.2 c_2
      refine HA.val (k := 4) (v := .int .i64 n_1) rfl rfl (by kernel_rfl) (by kernel_rfl) (want_by rfl rfl c_2) rfl (fun _ ⟨hL_l, c301⟩ => q_move rfl) ?_
      refine HA.val (k := 5) (v := .bool (decide (0 < n_1))) rfl rfl (by kernel_rfl) (by kernel_rfl) (want_by rfl rfl c_2) rfl (fun _ ⟨hL_l, c301⟩ => q_gtr rfl rfl) ?_
      refine HA.val (k := 6) (v := .bool (decide (0 < n_1))) rfl rfl (by kernel_rfl) (by kernel_rfl) (want_by rfl rfl c_2) rfl (fun _ ⟨hL_l, c301⟩ => q_move rfl) ?_
      rcases Bool.eq_false_or_eq_true (decide (0 < n_1)) with c_3 | c_3
      · replace hM := hM.1 (of_decide_eq_true c_3)
        refine HA.val (k := 7) (v := vl) rfl rfl (by kernel_rfl) (by kernel_rfl) (want_by rfl rfl c_3) rfl (fun _ ⟨hL_l, c301⟩ => q_move rfl) ?_
        refine HA.val (k := 8) (v := .int .i64 n_1) rfl rfl (by kernel_rfl) (by kernel_rfl) (want_by rfl rfl c_3) rfl (fun _ ⟨hL_l, c301⟩ => q_move rfl) ?_
        obtain ⟨ho_2, hM⟩ := hM
        refine HA.val (k := 9) (v := .int .i64 (n_1 - 1)) rfl rfl (by kernel_rfl) (by kernel_rfl) (want_by rfl rfl c_3) rfl (fun _ ⟨hL_l, c301⟩ => q_subN _ rfl rfl rfl ho_2.1 ho_2.2) ?_
        obtain ⟨ho_3, hM⟩ := hM
        refine HA.val (k := 10) (v := elemPtr 17 vl (n_1 - 1).toNat) rfl rfl (by kernel_rfl) (by kernel_rfl) (want_by rfl rfl c_3) rfl (fun _ ⟨hL_l, c301⟩ => q_idx ts_22 hL_l rfl rfl ho_3) ?_
        refine HA.val (k := 11) (v := .agg (e_api_Addr (gi l (n_1 - 1))).toArray) rfl rfl (by kernel_rfl) (by kernel_rfl) (want_by rfl rfl c_3) rfl (fun _ ⟨hL_l, c301⟩ => q_ldElemAgg (cs := (e_api_Addr (gi l (n_1 - 1)))) ta_27 hL_l rfl ho_3 rfl) ?_
        refine HA.val (k := 12) (v := .agg (e_api_Addr (gi l n_1)).toArray) rfl rfl (by kernel_rfl) (by kernel_rfl) (want_by rfl rfl c_3) rfl (fun _ ⟨hL_l, c301⟩ => q_loadAgg (cs := (e_api_Addr (gi l n_1))) ta_27 rfl rfl (Blk.cells (k := 17) c301 rfl)) ?_
        refine HA.one (k := 13) ⟨⟨hL_l.is, (hS.box 0 rfl)⟩, (Go.Wk.at_nil _ _)⟩ (by kernel_rfl) ?_
        refine HS.call rfl (want_by rfl rfl c_3) rfl (ec en_59 rfl rfl) (addr_Cmp_walk (fr := (Ow.box b_1 27 (e_api_Addr (gi l n_1)).toArray :: fr)) (gi l (n_1 - 1)) (gi l n_1) hS hM) ?_
        rintro _ h_5 ⟨F_3, r_3, rfl, hk, hS, hM⟩
        replace hK := hK.trans hk
        replace hL_l := hL_l.kp hk
        refine HA.val (k := 14) (v := .bool (decide (0 ≤ r_3))) rfl rfl (by kernel_rfl) (by kernel_rfl) (want_by rfl rfl c_3) rfl (fun _ ⟨hL_l, c301⟩ => q_geq rfl rfl) ?_
        refine HA.val (k := 15) (v := .bool (decide (0 ≤ r_3))) rfl rfl (by kernel_rfl) (by kernel_rfl) (want_by rfl rfl c_2) rfl (fun _ ⟨hL_l, c301⟩ => q_pickK true rfl c_3 rfl) ?_
        refine HA.val (k := 16) (v := .bool (decide (0 ≤ r_3))) rfl rfl (by kernel_rfl) (by kernel_rfl) (want_none) rfl (fun _ ⟨hL_l, c301⟩ => q_pickK false rfl c_2 rfl) ?_
        refine HA.nil ⟨⟨hL_l.is, (hS.box 0 rfl)⟩, (Go.Wk.at_nil _ _)⟩ (by kernel_rfl) (thenQ_normal (?_))
        refine HW.cond (decide (0 ≤ r_3)) rfl (fun c_4 => ?_) (fun c_4 => ?_)
        · replace hM := hM.1 (of_decide_eq_true c_4)
          refine HW.seq ?_
          refine HW.region ?_
          refine HO.val (v := .bool false) (want_none) rfl (q_assign rfl) ?_
          refine HO.nil (thenQ_normal (?_))
          refine HW.ret (blockQ_ret (thenQ_ret (thenQ_ret (blockQ_ret (thenQ_ret (?_))))))
          refine ⟨.inr rfl, .bool false, res1 rfl (rt rfl), ?_⟩
          replace hS : St F_3 (fr) h_5 := hS.perm2 [] 1 rfl rfl
          exact ⟨F_3, false, rfl, hK, hS, hL_l, hM⟩
        · replace hM := hM.2 (of_decide_eq_false c_4)
          refine HW.skip (blockQ_normal (thenQ_normal (?_)))
          refine HW.region ?_
          obtain ⟨ho_4, hM⟩ := hM
          refine HO.val (v := .int .i64 (n_1 + 1)) (want_none) rfl (q_addN _ rfl rfl rfl ho_4.1 ho_4.2) ?_
          refine HO.val (v := .int .i64 (n_1 + 1)) (want_none) rfl (q_move rfl) ?_
          refine HO.nil (thenQ_normal (?_))
          replace hS : St F_3 (fr) h_5 := hS.perm2 [] 1 rfl rfl
          rw [hKe_1] at hM
          exact ⟨n_1 + 1, ⟨F_3, rfl, rfl, rfl, rfl, rfl, hK, hS, hL_l, hM.1⟩, hM.2⟩
      · replace hM := hM.2 (of_decide_eq_false c_3)
        refine HA.past (k := 7) rfl rfl (by kernel_rfl) (by kernel_rfl) (past_by rfl rfl c_3) rfl ?_
        refine HA.past (k := 8) rfl rfl (by kernel_rfl) (by kernel_rfl) (past_by rfl rfl c_3) rfl ?_
        refine HA.past (k := 9) rfl rfl (by kernel_rfl) (by kernel_rfl) (past_by rfl rfl c_3) rfl ?_
        refine HA.past (k := 10) rfl rfl (by kernel_rfl) (by kernel_rfl) (past_by rfl rfl c_3) rfl ?_
        refine HA.past (k := 11) rfl rfl (by kernel_rfl) (by kernel_rfl) (past_by rfl rfl c_3) rfl ?_
        refine HA.past (k := 12) rfl rfl (by kernel_rfl) (by kernel_rfl) (past_by rfl rfl c_3) rfl ?_
        refine HA.one (k := 13) ⟨⟨hL_l.is, (hS.box 0 rfl)⟩, (Go.Wk.at_nil _ _)⟩ (by kernel_rfl) ?_
        refine HS.past rfl (past_by rfl rfl c_3) rfl ?_
        refine HA.past (k := 14) rfl rfl (by kernel_rfl) (by kernel_rfl) (past_by rfl rfl c_3) rfl ?_
        refine HA.val (k := 15) (v := .bool false) rfl rfl (by kernel_rfl) (by kernel_rfl) (want_by rfl rfl c_2) rfl (fun _ ⟨hL_l, c301⟩ => q_pickK false rfl c_3 rfl) ?_
        refine HA.val (k := 16) (v := .bool false) rfl rfl (by kernel_rfl) (by kernel_rfl) (want_none) rfl (fun _ ⟨hL_l, c301⟩ => q_pickK false rfl c_2 rfl) ?_
        refine HA.nil ⟨⟨hL_l.is, (hS.box 0 rfl)⟩, (Go.Wk.at_nil _ _)⟩ (by kernel_rfl) (thenQ_normal (?_))
        refine HW.condF rfl ?_
        refine HW.skip (blockQ_normal (thenQ_normal (?_)))
        refine HW.region ?_
        obtain ⟨ho_5, hM⟩ := hM
        refine HO.val (v := .int .i64 (n_1 + 1)) (want_none) rfl (q_addN _ rfl rfl rfl ho_5.1 ho_5.2) ?_
        refine HO.val (v := .int .i64 (n_1 + 1)) (want_none) rfl (q_move rfl) ?_
        refine HO.nil (thenQ_normal (?_))
        replace hS : St F_2 (fr) h_4 := hS.perm2 [] 1 rfl rfl
        rw [hKe_1] at hM
        exact ⟨n_1 + 1, ⟨F_2, rfl, rfl, rfl, rfl, rfl, hK, hS, hL_l, hM.1⟩, hM.2⟩
  · replace hM := hM.2 (of_decide_eq_false c_1)
    refine HW.exit (thenQ_exit (thenQ_exit (blockQ_exit (thenQ_normal (?_)))))
    refine HW.seq ?_
    refine HW.region ?_
    refine HO.val (v := .bool true) (want_none) rfl (q_assign rfl) ?_
    refine HO.nil (thenQ_normal (?_))
    refine HW.ret (?_)
    refine ⟨.inr rfl, .bool true, res1 rfl (rt rfl), ?_⟩
    exact ⟨F_1, true, rfl, hK, hS, hL_l, hM⟩

def slices_BinarySearchFunc_s_api_Addr_api_Addr_api_Addr_l1 (x : List T_api_Addr) (target : T_api_Addr) (cf_cmp : T_api_Addr → T_api_Addr → Int) (Q : Int → Bool → Prop) (K_1 : Int → Int → Prop) (i_1 : Int) (j_1 : Int) : Prop :=
  (i_1 < j_1 → (I64 (i_1 + j_1)) ∧ ((I64 ((IntKind.u64.wrap (i_1 + j_1)).fdiv (2 ^ (min (1 : Int).toNat IntKind.u64.bits)))) ∧ (((0 : Int) ≤ (IntKind.u64.wrap (i_1 + j_1)).fdiv (2 ^ (min (1 : Int).toNat IntKind.u64.bits)) ∧ (IntKind.u64.wrap (i_1 + j_1)).fdiv (2 ^ (min (1 : Int).toNat IntKind.u64.bits)) < (x.length : Int)) ∧ (((cf_cmp ((gi x ((IntKind.u64.wrap (i_1 + j_1)).fdiv (2 ^ (min (1 : Int).toNat IntKind.u64.bits)))).1, ((gi x ((IntKind.u64.wrap (i_1 + j_1)).fdiv (2 ^ (min (1 : Int).toNat IntKind.u64.bits)))).2)) target) < 0 → (I64 (((IntKind.u64.wrap (i_1 + j_1)).fdiv (2 ^ (min (1 : Int).toNat IntKind.u64.bits))) + 1)) ∧ (K_1 (((IntKind.u64.wrap (i_1 + j_1)).fdiv (2 ^ (min (1 : Int).toNat IntKind.u64.bits))) + 1) j_1)) ∧ (¬ ((cf_cmp ((gi x ((IntKind.u64.wrap (i_1 + j_1)).fdiv (2 ^ (min (1 : Int).toNat IntKind.u64.bits)))).1, ((gi x ((IntKind.u64.wrap (i_1 + j_1)).fdiv (2 ^ (min (1 : Int).toNat IntKind.u64.bits)))).2)) target) < 0) → K_1 i_1 ((IntKind.u64.wrap (i_1 + j_1)).fdiv (2 ^ (min (1 : Int).toNat IntKind.u64.bits)))))))) ∧ (¬ (i_1 < j_1) → (i_1 < (x.length : Int) → ((0 : Int) ≤ i_1 ∧ i_1 < (x.length : Int)) ∧ (Q i_1 (decide ((cf_cmp (gi x i_1) target) = 0)))) ∧ (¬ (i_1 < (x.length : Int)) → Q i_1 false))
def slices_BinarySearchFunc_s_api_Addr_api_Addr_api_Addr_W (x : List T_api_Addr) (target : T_api_Addr) (cf_cmp : T_api_Addr → T_api_Addr → Int) (Q : Int → Bool → Prop) : Prop :=
  loopW (fun (K_1 : (Int × Int) → Prop) (s : Int × Int) => slices_BinarySearchFunc_s_api_Addr_api_Addr_api_Addr_l1 x target cf_cmp Q (fun i_1 j_1 => K_1 (i_1, j_1)) s.1 s.2) (0, (x.length : Int))
set_option maxHeartbeats 40000000 in
set_option maxRecDepth 100000 in
theorem slices_BinarySearchFunc_s_api_Addr_api_Addr_api_Addr_walk {F : Fz} {fr : List Ow} {h0 : Heap} (x : List T_api_Addr) (target : T_api_Addr) (cf_cmp : T_api_Addr → T_api_Addr → Int) (vx : Value) (g_cmp : Nat) (fs_cmp : Array Value) (cs_cmp : Array Value) (hS : St F (fr) h0) (hL_x : SliceF F h0 17 e_api_Addr vx x) (hF_cf_cmp : FnP Tryd.prog F h0 g_cmp fs_cmp cs_cmp (fun x : T_api_Addr × T_api_Addr => [.agg (e_api_Addr x.1).toArray, .agg (e_api_Addr x.2).toArray]) (fun x => .int .i64 (cf_cmp x.1 x.2))) {Q : Int → Bool → Prop} (hM : slices_BinarySearchFunc_s_api_Addr_api_Addr_api_Addr_W x target cf_cmp Q) :
    HC Tryd.prog 61 #[vx, .agg (e_api_Addr target).toArray, .func (.func g_cmp) fs_cmp cs_cmp] h0 fun u h' => ∃ (F' : Fz) (r0_1 : Int) (r1_1 : Bool), u = .tuple #[.int .i64 r0_1, .bool r1_1] ∧ Kp F h0 F' h' ∧ St F' (fr) h' ∧ (SliceF F' h' 17 e_api_Addr vx x) ∧ (FnP Tryd.prog F' h' g_cmp fs_cmp cs_cmp (fun x : T_api_Addr × T_api_Addr => [.agg (e_api_Addr x.1).toArray, .agg (e_api_Addr x.2).toArray]) (fun x => .int .i64 (cf_cmp x.1 x.2))) ∧ Q r0_1 r1_1 := by
  unfold slices_BinarySearchFunc_s_api_Addr_api_Addr_api_Addr_W at hM
  have hK := Kp.refl F h0
  refine HC.of_HW (n := 49) Tryd.func61 rfl rfl (Nat.le_of_ble_eq_true rfl) ?_
  refine HW.seq ?_
  refine HW.region ?_
  refine HO.eff (want_none) rfl (st_box (c := (e_api_Addr target).toArray) (k' := 17) hS rfl rfl) ?_
  rintro _ h_1 ⟨b_1, rfl, hS, hk⟩
  replace hK := hK.trans hk
  replace hL_x := hL_x.kp hk
  replace hF_cf_cmp := hF_cf_cmp.kp hk
  refine HO.val (v := .int .i64 0) (want_none) rfl (q_assign rfl) ?_
  refine HO.val (v := .bool false) (want_none) rfl (q_assign rfl) ?_
  refine HO.nil (thenQ_normal (?_))
  refine HW.seq ?_
  refine HW.region ?_
  refine HO.val (v := vx) (want_none) rfl (q_move rfl) ?_
  refine HO.val (v := .int .i64 (x.length : Int)) (want_none) rfl (q_len ts_22 (shp hL_x.is) rfl rfl) ?_
  refine HO.val (v := .int .i64 (x.length : Int)) (want_none) rfl (q_assign rfl) ?_
  refine HO.nil (thenQ_normal (?_))
  refine HW.seq ?_
  refine HW.region ?_
  refine HO.val (v := .int .i64 (x.length : Int)) (want_none) rfl (q_move rfl) ?_
  refine HO.val (v := .int .i64 0) (want_none) rfl (q_assign rfl) ?_
  refine HO.val (v := .int .i64 (x.length : Int)) (want_none) rfl (q_assign rfl) ?_
  refine HO.nil (thenQ_normal (?_))
  refine HW.seq ?_
  refine HW.block ?_
  obtain ⟨I_1, m_1, hI_1, hR_1⟩ := hM
  refine HW.loop (S := Int × Int) (fun s f h => match s with | (i_1, j_1) => ∃ (F' : Fz), f 0 = vx ∧ f 2 = .func (.func g_cmp) fs_cmp cs_cmp ∧ f 4 = .pointer (some ⟨b_1, 0, none⟩) ∧ f 6 = .int .i64 0 ∧ f 7 = .bool false ∧ f 8 = .int .i64 (x.length : Int) ∧ f 9 = .int .i64 i_1 ∧ f 10 = .int .i64 j_1 ∧ Kp F h0 F' h ∧ St F' (Ow.box b_1 27 (e_api_Addr target).toArray :: fr) h ∧ (SliceF F' h 17 e_api_Addr vx x) ∧ (FnP Tryd.prog F' h g_cmp fs_cmp cs_cmp (fun x : T_api_Addr × T_api_Addr => [.agg (e_api_Addr x.1).toArray, .agg (e_api_Addr x.2).toArray]) (fun x => .int .i64 (cf_cmp x.1 x.2))) ∧ I_1 (i_1, j_1)) m_1 (0, (x.length : Int)) ⟨F, rfl, rfl, rfl, rfl, rfl, rfl, rfl, rfl, hK, hS, hL_x, hF_cf_cmp, hI_1⟩ ?_
  rintro ⟨i_1, j_1⟩ f_1 h_2 ⟨F_1, e0, e2, e4, e6, e7, e8, e9, e10, hK, hS, hL_x, hF_cf_cmp, hI0⟩
  obtain ⟨K_1, hKe_1⟩ : ∃ K : Int → Int → Prop, K = fun i_1' j_1' => I_1 (i_1', j_1') ∧ m_1 (i_1', j_1') < m_1 (i_1, j_1) := ⟨_, rfl⟩
  have hM : slices_BinarySearchFunc_s_api_Addr_api_Addr_api_Addr_l1 x target cf_cmp Q K_1 i_1 j_1 := by rw [hKe_1]; exact hR_1 (i_1, j_1) hI0
  unfold slices_BinarySearchFunc_s_api_Addr_api_Addr_api_Addr_l1 at hM
  refine HW.fr [(0, vx), (2, .func (.func g_cmp) fs_cmp cs_cmp), (4, .pointer (some ⟨b_1, 0, none⟩)), (6, .int .i64 0), (7, .bool false), (8, .int .i64 (x.length : Int)), (9, .int .i64 i_1), (10, .int .i64 j_1)] ⟨e0, e2, e4, e6, e7, e8, e9, e10, trivial⟩ ?_
  refine HW.seq ?_
  refine HW.seq ?_
  refine HW.region ?_
  refine HO.val (v := .int .i64 i_1) (want_none) rfl (q_move rfl) ?_
  refine HO.val (v := .int .i64 j_1) (want_none) rfl (q_move rfl) ?_
  refine HO.val (v := .bool (decide (i_1 < j_1))) (want_none) rfl (q_lss rfl rfl) ?_
  refine HO.nil (thenQ_normal (?_))
  refine HW.cond (decide (i_1 < j_1)) rfl (fun c_1 => ?_) (fun c_1 => ?_)
  · replace hM := hM.1 (of_decide_eq_true c_1)
    refine HW.skip (thenQ_normal (?_))
    refine HW.block ?_
    refine HW.seq ?_
    refine HW.region ?_
    refine HO.val (v := .int .i64 i_1) (want_none) rfl (q_move rfl) ?_
    refine HO.val (v := .int .i64 j_1) (want_none) rfl (q_move rfl) ?_
    obtain ⟨ho_1, hM⟩ := hM
    refine HO.val (v := .int .i64 (i_1 + j_1)) (want_none) rfl (q_addN _ rfl rfl rfl ho_1.1 ho_1.2) ?_
    refine HO.val (v := .int .u64 (IntKind.u64.wrap (i_1 + j_1))) (want_none) rfl (q_convInt Tryd.underlying3 Tryd.underlying81 rfl rfl) ?_
    refine HO.val (v := .int .u64 ((IntKind.u64.wrap (i_1 + j_1)).fdiv (2 ^ (min (1 : Int).toNat IntKind.u64.bits)))) (want_none) rfl (q_shr rfl rfl (by decide) rfl) ?_
    obtain ⟨ho_2, hM⟩ := hM
    refine HO.val (v := .int .i64 ((IntKind.u64.wrap (i_1 + j_1)).fdiv (2 ^ (min (1 : Int).toNat IntKind.u64.bits)))) (want_none) rfl (q_convInt Tryd.underlying81 Tryd.underlying3 rfl (wrap_i64 ho_2.1 ho_2.2)) ?_
    refine HO.val (v := .int .i64 ((IntKind.u64.wrap (i_1 + j_1)).fdiv (2 ^ (min (1 : Int).toNat IntKind.u64.bits)))) (want_none) rfl (q_assign rfl) ?_
    refine HO.nil (thenQ_normal (?_))
    refine HW.seq ?_
    refine HW.regionA 8 mixed (fun h => (SliceIs h 17 e_api_Addr vx x) ∧ (Blk h b_1 (.cells (e_api_Addr target).toArray 27 (0, 0)))) [] (by kernel_rfl) ?_
    refine HA.val (k := 0) (v := .func (.func g_cmp) fs_cmp cs_cmp) rfl rfl (by kernel_rfl) (by kernel_rfl) (want_none) rfl (fun _ ⟨hL_x, c302⟩ => q_move rfl) ?_
    refine HA.val (k := 1) (v := vx) rfl rfl (by kernel_rfl) (by kernel_rfl) (want_none) rfl (fun _ ⟨hL_x, c302⟩ => q_move rfl) ?_
    refine HA.val (k := 2) (v := .int .i64 ((IntKind.u64.wrap (i_1 + j_1)).fdiv (2 ^ (min (1 : Int).toNat IntKind.u64.bits)))) rfl rfl (by kernel_rfl) (by kernel_rfl) (want_none) rfl (fun _ ⟨hL_x, c302⟩ => q_move rfl) ?_
    obtain ⟨ho_3, hM⟩ := hM
    refine HA.val (k := 3) (v := elemPtr 17 vx ((IntKind.u64.wrap (i_1 + j_1)).fdiv (2 ^ (min (1 : Int).toNat IntKind.u64.bits))).toNat) rfl rfl (by kernel_rfl) (by kernel_rfl) (want_none) rfl (fun _ ⟨hL_x, c302⟩ => q_idx ts_22 hL_x rfl rfl ho_3) ?_
    refine HA.val (k := 4) (v := .agg (e_api_Addr ((gi x ((IntKind.u64.wrap (i_1 + j_1)).fdiv (2 ^ (min (1 : Int).toNat IntKind.u64.bits)))).1, ((gi x ((IntKind.u64.wrap (i_1 + j_1)).fdiv (2 ^ (min (1 : Int).toNat IntKind.u64.bits)))).2))).toArray) rfl rfl (by kernel_rfl) (by kernel_rfl) (want_none) rfl (fun _ ⟨hL_x, c302⟩ => q_ldElemAgg (cs := (e_api_Addr ((gi x ((IntKind.u64.wrap (i_1 + j_1)).fdiv (2 ^ (min (1 : Int).toNat IntKind.u64.bits)))).1, ((gi x ((IntKind.u64.wrap (i_1 + j_1)).fdiv (2 ^ (min (1 : Int).toNat IntKind.u64.bits)))).2)))) ta_27 hL_x rfl ho_3 rfl) ?_
    refine HA.val (k := 5) (v := .agg (e_api_Addr target).toArray) rfl rfl (by kernel_rfl) (by kernel_rfl) (want_none) rfl (fun _ ⟨hL_x, c302⟩ => q_loadAgg (cs := (e_api_Addr target)) ta_27 rfl rfl (Blk.cells (k := 17) c302 rfl)) ?_
    refine HA.one (k := 6) ⟨⟨hL_x.is, (hS.box 0 rfl)⟩, (Go.Wk.at_nil _ _)⟩ (by kernel_rfl) ?_
    refine HS.call rfl (want_none) rfl (hF_cf_cmp.ec (((gi x ((IntKind.u64.wrap (i_1 + j_1)).fdiv (2 ^ (min (1 : Int).toNat IntKind.u64.bits)))).1, ((gi x ((IntKind.u64.wrap (i_1 + j_1)).fdiv (2 ^ (min (1 : Int).toNat IntKind.u64.bits)))).2)), target) rfl rfl) (hF_cf_cmp.hc (((gi x ((IntKind.u64.wrap (i_1 + j_1)).fdiv (2 ^ (min (1 : Int).toNat IntKind.u64.bits)))).1, ((gi x ((IntKind.u64.wrap (i_1 + j_1)).fdiv (2 ^ (min (1 : Int).toNat IntKind.u64.bits)))).2)), target) hS) ?_
    rintro _ h_3 ⟨rfl, hS, hk⟩
    replace hK := hK.trans hk
    replace hL_x := hL_x.kp hk
    replace hF_cf_cmp := hF_cf_cmp.kp hk
    refine HA.val (k := 7) (v := .bool (decide ((cf_cmp ((gi x ((IntKind.u64.wrap (i_1 + j_1)).fdiv (2 ^ (min (1 : Int).toNat IntKind.u64.bits)))).1, ((gi x ((IntKind.u64.wrap (i_1 + j_1)).fdiv (2 ^ (min (1 : Int).toNat IntKind.u64.bits)))).2)) target) < 0))) rfl rfl (by kernel_rfl) (by kernel_rfl) (want_none) rfl (fun _ ⟨hL_x, c302⟩ => q_lss rfl rfl) ?_
    refine HA.nil ⟨⟨hL_x.is, (hS.box 0 rfl)⟩, (Go.Wk.at_nil _ _)⟩ (by kernel_rfl) (thenQ_normal (?_))
    refine HW.cond (decide ((cf_cmp ((gi x ((IntKind.u64.wrap (i_1 + j_1)).fdiv (2 ^ (min (1 : Int).toNat IntKind.u64.bits)))).1, ((gi x ((IntKind.u64.wrap (i_1 + j_1)).fdiv (2 ^ (min (1 : Int).toNat IntKind.u64.bits)))).2)) target) < 0)) rfl (fun c_2 => ?_) (fun c_2 => ?_)
    · replace hM := hM.1 (of_decide_eq_true c_2)
      refine HW.region ?_
      refine HO.val (v := .int .i64 ((IntKind.u64.wrap (i_1 + j_1)).fdiv (2 ^ (min (1 : Int).toNat IntKind.u64.bits)))) (want_none) rfl (q_move rfl) ?_
      obtain ⟨ho_4, hM⟩ := hM
      refine HO.val (v := .int .i64 (((IntKind.u64.wrap (i_1 + j_1)).fdiv (2 ^ (min (1 : Int).toNat IntKind.u64.bits))) + 1)) (want_none) rfl (q_addN _ rfl rfl rfl ho_4.1 ho_4.2) ?_
      refine HO.val (v := .int .i64 (((IntKind.u64.wrap (i_1 + j_1)).fdiv (2 ^ (min (1 : Int).toNat IntKind.u64.bits))) + 1)) (want_none) rfl (q_assign rfl) ?_
      refine HO.nil (blockQ_normal (thenQ_normal (?_)))
      rw [hKe_1] at hM
      exact ⟨(((IntKind.u64.wrap (i_1 + j_1)).fdiv (2 ^ (min (1 : Int).toNat IntKind.u64.bits))) + 1, j_1), ⟨F_1, rfl, rfl, rfl, rfl, rfl, rfl, rfl, rfl, hK, hS, hL_x, hF_cf_cmp, hM.1⟩, hM.2⟩
    · replace hM := hM.2 (of_decide_eq_false c_2)
      refine HW.region ?_
      refine HO.val (v := .int .i64 ((IntKind.u64.wrap (i_1 + j_1)).fdiv (2 ^ (min (1 : Int).toNat IntKind.u64.bits)))) (want_none) rfl (q_move rfl) ?_
      refine HO.val (v := .int .i64 ((IntKind.u64.wrap (i_1 + j_1)).fdiv (2 ^ (min (1 : Int).toNat IntKind.u64.bits)))) (want_none) rfl (q_assign rfl) ?_
      refine HO.nil (blockQ_normal (thenQ_normal (?_)))
      rw [hKe_1] at hM
      exact ⟨(i_1, (IntKind.u64.wrap (i_1 + j_1)).fdiv (2 ^ (min (1 : Int).toNat IntKind.u64.bits))), ⟨F_1, rfl, rfl, rfl, rfl, rfl, rfl, rfl, rfl, hK, hS, hL_x, hF_cf_cmp, hM.1⟩, hM.2⟩
  · replace hM := hM.2 (of_decide_eq_false c_1)
    refine HW.exit (thenQ_exit (thenQ_exit (blockQ_exit (thenQ_normal (?_)))))
    refine HW.seq ?_
    refine HW.regionA 16 mixed (fun h => (SliceIs h 17 e_api_Addr vx x) ∧ (Blk h b_1 (.cells (e_api_Addr target).toArray 27 (0, 0)))) [] (by kernel_rfl) ?_
    refine HA.val (k := 0) (v := .int .i64 i_1) rfl rfl (by kernel_rfl) (by kernel_rfl) (want_none) rfl (fun _ ⟨hL_x, c302⟩ => q_move rfl) ?_
    refine HA.val (k := 1) (v := .int .i64 i_1) rfl rfl (by kernel_rfl) (by kernel_rfl) (want_none) rfl (fun _ ⟨hL_x, c302⟩ => q_move rfl) ?_
    refine HA.val (k := 2) (v := .int .i64 (x.length : Int)) rfl rfl (by kernel_rfl) (by kernel_rfl) (want_none) rfl (fun _ ⟨hL_x, c302⟩ => q_move rfl) ?_
    refine HA.val (k := 3) (v := .bool (decide (i_1 < (x.length : Int)))) rfl rfl (by kernel_rfl) (by kernel_rfl) (want_none) rfl (fun _ ⟨hL_x, c302⟩ => q_lss rfl rfl) ?_
    refine HA.val (k := 4) (v := .bool (decide (i_1 < (x.length : Int)))) rfl rfl (by kernel_rfl) (by kernel_rfl) (want_none) rfl (fun _ ⟨hL_x, c302⟩ => q_move rfl) ?_
    rcases Bool.eq_false_or_eq_true (decide (i_1 < (x.length : Int))) with c_3 | c_3
    · replace hM := hM.1 (of_decide_eq_true c_3)
      refine HA.val (k := 5) (v := .func (.func g_cmp) fs_cmp cs_cmp) rfl rfl (by kernel_rfl) (by kernel_rfl) (want_by rfl rfl c_3) rfl (fun _ ⟨hL_x, c302⟩ => q_move rfl) ?_
      refine HA.val (k := 6) (v := vx) rfl rfl (by kernel_rfl) (by kernel_rfl) (want_by rfl rfl c_3) rfl (fun _ ⟨hL_x, c302⟩ => q_move rfl) ?_
      refine HA.val (k := 7) (v := .int .i64 i_1) rfl rfl (by kernel_rfl) (by kernel_rfl) (want_by rfl rfl c_3) rfl (fun _ ⟨hL_x, c302⟩ => q_move rfl) ?_
      obtain ⟨ho_5, hM⟩ := hM
      refine HA.val (k := 8) (v := elemPtr 17 vx (i_1).toNat) rfl rfl (by kernel_rfl) (by kernel_rfl) (want_by rfl rfl c_3) rfl (fun _ ⟨hL_x, c302⟩ => q_idx ts_22 hL_x rfl rfl ho_5) ?_
      refine HA.val (k := 9) (v := .agg (e_api_Addr (gi x i_1)).toArray) rfl rfl (by kernel_rfl) (by kernel_rfl) (want_by rfl rfl c_3) rfl (fun _ ⟨hL_x, c302⟩ => q_ldElemAgg (cs := (e_api_Addr (gi x i_1))) ta_27 hL_x rfl ho_5 rfl) ?_
      refine HA.val (k := 10) (v := .agg (e_api_Addr target).toArray) rfl rfl (by kernel_rfl) (by kernel_rfl) (want_by rfl rfl c_3) rfl (fun _ ⟨hL_x, c302⟩ => q_loadAgg (cs := (e_api_Addr target)) ta_27 rfl rfl (Blk.cells (k := 17) c302 rfl)) ?_
      refine HA.one (k := 11) ⟨⟨hL_x.is, (hS.box 0 rfl)⟩, (Go.Wk.at_nil _ _)⟩ (by kernel_rfl) ?_
      refine HS.call rfl (want_by rfl rfl c_3) rfl (hF_cf_cmp.ec ((gi x i_1), target) rfl rfl) (hF_cf_cmp.hc ((gi x i_1), target) hS) ?_
      rintro _ h_4 ⟨rfl, hS, hk⟩
      replace hK := hK.trans hk
      replace hL_x := hL_x.kp hk
      replace hF_cf_cmp := hF_cf_cmp.kp hk
      refine HA.val (k := 12) (v := .bool (decide ((cf_cmp (gi x i_1) target) = 0))) rfl rfl (by kernel_rfl) (by kernel_rfl) (want_by rfl rfl c_3) rfl (fun _ ⟨hL_x, c302⟩ => q_eql rfl rfl) ?_
      refine HA.val (k := 13) (v := .bool (decide ((cf_cmp (gi x i_1) target) = 0))) rfl rfl (by kernel_rfl) (by kernel_rfl) (want_none) rfl (fun _ ⟨hL_x, c302⟩ => q_pickK true rfl c_3 rfl) ?_
      refine HA.val (k := 14) (v := .int .i64 i_1) rfl rfl (by kernel_rfl) (by kernel_rfl) (want_none) rfl (fun _ ⟨hL_x, c302⟩ => q_assign rfl) ?_
      refine HA.val (k := 15) (v := .bool (decide ((cf_cmp (gi x i_1) target) = 0))) rfl rfl (by kernel_rfl) (by kernel_rfl) (want_none) rfl (fun _ ⟨hL_x, c302⟩ => q_assign rfl) ?_
      refine HA.nil ⟨⟨hL_x.is, (hS.box 0 rfl)⟩, (Go.Wk.at_nil _ _)⟩ (by kernel_rfl) (thenQ_normal (?_))
      refine HW.ret (?_)
      refine ⟨.inr rfl, .tuple #[.int .i64 i_1, .bool (decide ((cf_cmp (gi x i_1) target) = 0))], res2 rfl (rt rfl) (rt rfl), ?_⟩
      replace hS : St F_1 (fr) h_4 := hS.perm2 [] 1 rfl rfl
      exact ⟨F_1, i_1, decide ((cf_cmp (gi x i_1) target) = 0), rfl, hK, hS, hL_x, hF_cf_cmp, hM⟩
    · replace hM := hM.2 (of_decide_eq_false c_3)
      refine HA.past (k := 5) rfl rfl (by kernel_rfl) (by kernel_rfl) (past_by rfl rfl c_3) rfl ?_
      refine HA.past (k := 6) rfl rfl (by kernel_rfl) (by kernel_rfl) (past_by rfl rfl c_3) rfl ?_
      refine HA.past (k := 7) rfl rfl (by kernel_rfl) (by kernel_rfl) (past_by rfl rfl c_3) rfl ?_
      refine HA.past (k := 8) rfl rfl (by kernel_rfl) (by kernel_rfl) (past_by rfl rfl c_3) rfl ?_
      refine HA.past (k := 9) rfl rfl (by kernel_rfl) (by kernel_rfl) (past_by rfl rfl c_3) rfl ?_
      refine HA.past (k := 10) rfl rfl (by kernel_rfl) (by kernel_rfl) (past_by rfl rfl c_3) rfl ?_
      refine HA.one (k := 11) ⟨⟨hL_x.is, (hS.box 0 rfl)⟩, (Go.Wk.at_nil _ _)⟩ (by kernel_rfl) ?_
      refine HS.past rfl (past_by rfl rfl c_3) rfl ?_
      refine HA.past (k := 12) rfl rfl (by kernel_rfl) (by kernel_rfl) (past_by rfl rfl c_3) rfl ?_
      refine HA.val (k := 13) (v := .bool false) rfl rfl (by kernel_rfl) (by kernel_rfl) (want_none) rfl (fun _ ⟨hL_x, c302⟩ => q_pickK false rfl c_3 rfl) ?_
      refine HA.val (k := 14) (v := .int .i64 i_1) rfl rfl (by kernel_rfl) (by kernel_rfl) (want_none) rfl (fun _ ⟨hL_x, c302⟩ => q_assign rfl) ?_
      refine HA.val (k := 15) (v := .bool false) rfl rfl (by kernel_rfl) (by kernel_rfl) (want_none) rfl (fun _ ⟨hL_x, c302⟩ => q_assign rfl) ?_
      refine HA.nil ⟨⟨hL_x.is, (hS.box 0 rfl)⟩, (Go.Wk.at_nil _ _)⟩ (by kernel_rfl) (thenQ_normal (?_))
      refine HW.ret (?_)
      refine ⟨.inr rfl, .tuple #[.int .i64 i_1, .bool false], res2 rfl (rt rfl) (rt rfl), ?_⟩
      replace hS : St F_1 (fr) h_2 := hS.perm2 [] 1 rfl rfl
      exact ⟨F_1, i_1, false, rfl, hK, hS, hL_x, hF_cf_cmp, hM⟩

def srcs_Has_W (l : List T_api_Addr) (a : T_api_Addr) (Q : Bool → Prop) : Prop :=
  ∃ cf_1 : T_api_Addr → T_api_Addr → Int, (∀ x0 x1, addr_Cmp_W x0 x1 (fun r => r = cf_1 x0 x1)) ∧ (slices_BinarySearchFunc_s_api_Addr_api_Addr_api_Addr_W l a cf_1 (fun r0_1 r1_1 => (r1_1 = true → ((0 : Int) ≤ r0_1 ∧ r0_1 < (l.length : Int)) ∧ (Q (decide (((gi l r0_1) : T_api_Addr) = a)))) ∧ (r1_1 = false → Q false)))
set_option maxHeartbeats 40000000 in
set_option maxRecDepth 100000 in
theorem srcs_Has_walk {F : Fz} {fr : List Ow} {h0 : Heap} (l : List T_api_Addr) (a : T_api_Addr) (vl : Value) (hS : St F (fr) h0) (hL_l : SliceF F h0 17 e_api_Addr vl l) {Q : Bool → Prop} (hM : srcs_Has_W l a Q) :
    HC Tryd.prog 37 #[vl, .agg (e_api_Addr a).toArray] h0 fun u h' => ∃ (F' : Fz) (r_1 : Bool), u = .bool r_1 ∧ Kp F h0 F' h' ∧ St F' (fr) h' ∧ (SliceF F' h' 17 e_api_Addr vl l) ∧ Q r_1 := by
  unfold srcs_Has_W at hM
  have hK := Kp.refl F h0
  refine HC.of_HW (n := 22) Tryd.func37 rfl rfl (Nat.le_of_ble_eq_true rfl) ?_
  refine HW.seq ?_
  refine HW.region ?_
  refine HO.eff (want_none) rfl (st_box (c := (e_api_Addr a).toArray) (k' := 17) hS rfl rfl) ?_
  rintro _ h_1 ⟨b_1, rfl, hS, hk⟩
  replace hK := hK.trans hk
  replace hL_l := hL_l.kp hk
  refine HO.val (v := .bool false) (want_none) rfl (q_assign rfl) ?_
  refine HO.nil (thenQ_normal (?_))
  refine HW.seq ?_
  refine HW.region ?_
  refine HO.val (v := vl) (want_none) rfl (q_move rfl) ?_
  refine HO.val (v := .agg (e_api_Addr a).toArray) (want_none) rfl (q_loadAgg (cs := (e_api_Addr a)) ta_27 rfl rfl (Blk.cells (k := 17) (hS.box 0 rfl) rfl)) ?_
  obtain ⟨cf_1, hc_1, hM⟩ := hM
  have hF_1 : FnP Tryd.prog F h_1 59 #[] #[] (fun x : T_api_Addr × T_api_Addr => [.agg (e_api_Addr x.1).toArray, .agg (e_api_Addr x.2).toArray]) (fun x => .int .i64 (cf_1 x.1 x.2)) := FnP.of en_59 (fun x h' hk_ => @HC.mono ⟨true⟩ _ _ _ _ _ _ (@addr_Cmp_walk ⟨true⟩ (allF h') [] h' x.1 x.2  (St.init h')  (fun r => r = cf_1 x.1 x.2) (hc_1 x.1 x.2)) (fun u h'' ⟨F', r, hu, k_, _, hr⟩ => ⟨by rw [hu, hr], F', k_⟩))
  refine HO.call (want_none) rfl (ec en_61 rfl rfl) (slices_BinarySearchFunc_s_api_Addr_api_Addr_api_Addr_walk (fr := (Ow.box b_1 27 (e_api_Addr a).toArray :: fr)) l a cf_1 vl 59 (#[]) (#[]) hS hL_l hF_1 hM) ?_
  rintro _ h_2 ⟨F_1, r0_1, r1_1, rfl, hk, hS, _, _, hM⟩
  replace hK := hK.trans hk
  replace hL_l := hL_l.kp hk
  replace hF_1 := hF_1.kp hk
  refine HO.val (v := .tuple #[.int .i64 r0_1, .bool r1_1]) (want_none) rfl (q_move rfl) ?_
  refine HO.val (v := .int .i64 r0_1) (want_none) rfl (q_extract rfl rfl) ?_
  refine HO.val (v := .bool r1_1) (want_none) rfl (q_extract rfl rfl) ?_
  refine HO.val (v := .int .i64 r0_1) (want_none) rfl (q_assign rfl) ?_
  refine HO.val (v := .bool r1_1) (want_none) rfl (q_assign rfl) ?_
  refine HO.nil (thenQ_normal (?_))
  refine HW.seq ?_
  refine HW.regionA 10 mixed (fun h => (SliceIs h 17 e_api_Addr vl l) ∧ (True) ∧ (Blk h b_1 (.cells (e_api_Addr a).toArray 27 (0, 0)))) [] (by kernel_rfl) ?_
  refine HA.val (k := 0) (v := .bool r1_1) rfl rfl (by kernel_rfl) (by kernel_rfl) (want_none) rfl (fun _ ⟨hL_l, hF_1, c201⟩ => q_move rfl) ?_
  refine HA.val (k := 1) (v := .bool r1_1) rfl rfl (by kernel_rfl) (by kernel_rfl) (want_none) rfl (fun _ ⟨hL_l, hF_1, c201⟩ => q_move rfl) ?_
  rcases Bool.eq_false_or_eq_true r1_1 with c_1 | c_1
  · replace hM := hM.1 c_1
    refine HA.val (k := 2) (v := vl) rfl rfl (by kernel_rfl) (by kernel_rfl) (want_by rfl rfl c_1) rfl (fun _ ⟨hL_l, hF_1, c201⟩ => q_move rfl) ?_
    refine HA.val (k := 3) (v := .int .i64 r0_1) rfl rfl (by kernel_rfl) (by kernel_rfl) (want_by rfl rfl c_1) rfl (fun _ ⟨hL_l, hF_1, c201⟩ => q_move rfl) ?_
    obtain ⟨ho_1, hM⟩ := hM
    refine HA.val (k := 4) (v := elemPtr 17 vl (r0_1).toNat) rfl rfl (by kernel_rfl) (by kernel_rfl) (want_by rfl rfl c_1) rfl (fun _ ⟨hL_l, hF_1, c201⟩ => q_idx ts_22 hL_l rfl rfl ho_1) ?_
    refine HA.val (k := 5) (v := .agg (e_api_Addr (gi l r0_1)).toArray) rfl rfl (by kernel_rfl) (by kernel_rfl) (want_by rfl rfl c_1) rfl (fun _ ⟨hL_l, hF_1, c201⟩ => q_ldElemAgg (cs := (e_api_Addr (gi l r0_1))) ta_27 hL_l rfl ho_1 rfl) ?_
    refine HA.val (k := 6) (v := .agg (e_api_Addr a).toArray) rfl rfl (by kernel_rfl) (by kernel_rfl) (want_by rfl rfl c_1) rfl (fun _ ⟨hL_l, hF_1, c201⟩ => q_loadAgg (cs := (e_api_Addr a)) ta_27 rfl rfl (Blk.cells (k := 17) c201 rfl)) ?_
    refine HA.val (k := 7) (v := .bool (decide (((gi l r0_1) : T_api_Addr) = a))) rfl rfl (by kernel_rfl) (by kernel_rfl) (want_by rfl rfl c_1) rfl (fun _ ⟨hL_l, hF_1, c201⟩ => q_eqlAgg (a := (gi l r0_1)) (b := a) (fun a b w => teq_27 9997 a b w) (by kernel_rfl) rfl rfl rfl rfl) ?_
    refine HA.val (k := 8) (v := .bool (decide (((gi l r0_1) : T_api_Addr) = a))) rfl rfl (by kernel_rfl) (by kernel_rfl) (want_none) rfl (fun _ ⟨hL_l, hF_1, c201⟩ => q_pickK true rfl c_1 rfl) ?_
    refine HA.val (k := 9) (v := .bool (decide (((gi l r0_1) : T_api_Addr) = a))) rfl rfl (by kernel_rfl) (by kernel_rfl) (want_none) rfl (fun _ ⟨hL_l, hF_1, c201⟩ => q_assign rfl) ?_
    refine HA.nil ⟨⟨hL_l.is, trivial, (hS.box 0 rfl)⟩, (Go.Wk.at_nil _ _)⟩ (by kernel_rfl) (thenQ_normal (?_))
    refine HW.ret (?_)
    refine ⟨.inr rfl, .bool (decide (((gi l r0_1) : T_api_Addr) = a)), res1 rfl (rt rfl), ?_⟩
    replace hS : St F_1 (fr) h_2 := hS.perm2 [] 1 rfl rfl
    exact ⟨F_1, decide (((gi l r0_1) : T_api_Addr) = a), rfl, hK, hS, hL_l, hM⟩
  · replace hM := hM.2 c_1
    refine HA.past (k := 2) rfl rfl (by kernel_rfl) (by kernel_rfl) (past_by rfl rfl c_1) rfl ?_
    refine HA.past (k := 3) rfl rfl (by kernel_rfl) (by kernel_rfl) (past_by rfl rfl c_1) rfl ?_
    refine HA.past (k := 4) rfl rfl (by kernel_rfl) (by kernel_rfl) (past_by rfl rfl c_1) rfl ?_
    refine HA.past (k := 5) rfl rfl (by kernel_rfl) (by kernel_rfl) (past_by rfl rfl c_1) rfl ?_
    refine HA.past (k := 6) rfl rfl (by kernel_rfl) (by kernel_rfl) (past_by rfl rfl c_1) rfl ?_
    refine HA.past (k := 7) rfl rfl (by kernel_rfl) (by kernel_rfl) (past_by rfl rfl c_1) rfl ?_
    refine HA.val (k := 8) (v := .bool false) rfl rfl (by kernel_rfl) (by kernel_rfl) (want_none) rfl (fun _ ⟨hL_l, hF_1, c201⟩ => q_pickK false rfl c_1 rfl) ?_
    refine HA.val (k := 9) (v := .bool false) rfl rfl (by kernel_rfl) (by kernel_rfl) (want_none) rfl (fun _ ⟨hL_l, hF_1, c201⟩ => q_assign rfl) ?_
    refine HA.nil ⟨⟨hL_l.is, trivial, (hS.box 0 rfl)⟩, (Go.Wk.at_nil _ _)⟩ (by kernel_rfl) (thenQ_normal (?_))
    refine HW.ret (?_)
    refine ⟨.inr rfl, .bool false, res1 rfl (rt rfl), ?_⟩
    replace hS : St F_1 (fr) h_2 := hS.perm2 [] 1 rfl rfl
    exact ⟨F_1, false, rfl, hK, hS, hL_l, hM⟩

def law11_four_W (last : Int) (Q : T_api_Addr → Prop) : Prop :=
  ((0 : Int) ≤ last ∧ last < 256) ∧ (Q (false, mkB 16 [10, 0, 0, last, 0, 0, 0, 0, 0, 0, 0, 0, 0, 0, 0, 0]))
set_option maxHeartbeats 40000000 in
set_option maxRecDepth 100000 in
theorem law11_four_walk {F : Fz} {fr : List Ow} {h0 : Heap} (last : Int) (hS : St F (fr) h0)  {Q : T_api_Addr → Prop} (hM : law11_four_W last Q) :
    HC Tryd.prog 62 #[.int .u8 last] h0 fun u h' => ∃ (F' : Fz) (r_1 : T_api_Addr), u = .agg (e_api_Addr r_1).toArray ∧ Kp F h0 F' h' ∧ St F' (fr) h' ∧ Q r_1 := by
  unfold law11_four_W at hM
  have hK := Kp.refl F h0
  refine HC.of_HW (n := 6) Tryd.func62 rfl rfl (Nat.le_of_ble_eq_true rfl) ?_
  refine HW.seq ?_
  refine HW.region ?_
  refine HO.eff (want_none) rfl (st_alloc (c := (e_api_Addr (false, (default : Ba 16))).toArray) hS tz_27 rfl) ?_
  rintro _ h_1 ⟨b_1, rfl, hS, hk⟩
  replace hK := hK.trans hk
  refine HO.nil (thenQ_normal (?_))
  refine HW.seq ?_
  refine HW.region ?_
  refine HO.val (v := .int .u8 last) (want_none) rfl (q_move rfl) ?_
  obtain ⟨ho_1, hM⟩ := hM
  refine HO.val (v := .agg (arrCells (mkB 16 [10, 0, 0, last, 0, 0, 0, 0, 0, 0, 0, 0, 0, 0, 0, 0])).toArray) (want_none) rfl ((q_buildA (cells := #[.int .u8 10, .int .u8 0, .int .u8 0, .int .u8 last, .int .u8 0, .int .u8 0, .int .u8 0, .int .u8 0, .int .u8 0, .int .u8 0, .int .u8 0, .int .u8 0, .int .u8 0, .int .u8 0, .int .u8 0, .int .u8 0]) tb_25 rfl).of_eq (mkB_agg (n := 16) (l := [10, 0, 0, last, 0, 0, 0, 0, 0, 0, 0, 0, 0, 0, 0, 0]) rfl ⟨⟨by decide, by decide⟩, ⟨⟨by decide, by decide⟩, ⟨⟨by decide, by decide⟩, ⟨ho_1, ⟨⟨by decide, by decide⟩, ⟨⟨by decide, by decide⟩, ⟨⟨by decide, by decide⟩, ⟨⟨by decide, by decide⟩, ⟨⟨by decide, by decide⟩, ⟨⟨by decide, by decide⟩, ⟨⟨by decide, by decide⟩, ⟨⟨by decide, by decide⟩, ⟨⟨by decide, by decide⟩, ⟨⟨by decide, by decide⟩, ⟨⟨by decide, by decide⟩, ⟨⟨by decide, by decide⟩, trivial⟩⟩⟩⟩⟩⟩⟩⟩⟩⟩⟩⟩⟩⟩⟩⟩)) ?_
  refine HO.val (v := .agg (e_api_Addr (false, mkB 16 [10, 0, 0, last, 0, 0, 0, 0, 0, 0, 0, 0, 0, 0, 0, 0])).toArray) (want_none) rfl (q_build tp_27 (fill_cons (cs' := (e_api_Addr (false, mkB 16 [10, 0, 0, last, 0, 0, 0, 0, 0, 0, 0, 0, 0, 0, 0, 0])).toArray) (vc := (arrCells (mkB 16 [10, 0, 0, last, 0, 0, 0, 0, 0, 0, 0, 0, 0, 0, 0, 0])).toArray) rfl rfl rfl (Nat.le_of_ble_eq_true rfl) rfl rfl)) ?_
  refine HO.sto (want_none) rfl (st_storeAgg (c' := (e_api_Addr (false, mkB 16 [10, 0, 0, last, 0, 0, 0, 0, 0, 0, 0, 0, 0, 0, 0, 0])).toArray) hS (i := 0) rfl ta_27 rfl rfl rfl (one_e_api_Addr _) (Nat.le_of_ble_eq_true rfl) rfl) ?_
  rintro h_2 ⟨hS, hk⟩
  replace hS : St F (Ow.box b_1 27 (e_api_Addr (false, mkB 16 [10, 0, 0, last, 0, 0, 0, 0, 0, 0, 0, 0, 0, 0, 0, 0])).toArray :: fr) h_2 := hS
  replace hK := hK.trans hk
  refine HO.nil (thenQ_normal (?_))
  refine HW.ret (?_)
  refine ⟨.inr rfl, .agg (e_api_Addr (false, mkB 16 [10, 0, 0, last, 0, 0, 0, 0, 0, 0, 0, 0, 0, 0, 0, 0])).toArray, res1 rfl (rca (cs := (e_api_Addr (false, mkB 16 [10, 0, 0, last, 0, 0, 0, 0, 0, 0, 0, 0, 0, 0, 0, 0]))) ta_27 rfl rfl (Blk.cells (k := 17) (hS.box 0 rfl) rfl)), ?_⟩
  replace hS : St F (fr) h_2 := hS.perm2 [] 1 rfl rfl
  exact ⟨F, (false, mkB 16 [10, 0, 0, last, 0, 0, 0, 0, 0, 0, 0, 0, 0, 0, 0, 0]), rfl, hK, hS, hM⟩

def addr_word_W (a : T_api_Addr) (i : Int) (Q : Int → Prop) : Prop :=
  (I64 (2 * i)) ∧ (((0 : Int) ≤ 2 * i ∧ 2 * i < 16) ∧ ((I64 ((2 * i) + 1)) ∧ (((0 : Int) ≤ (2 * i) + 1 ∧ (2 * i) + 1 < 16) ∧ (Q (bits .or .u64 (IntKind.u64.wrap ((IntKind.u64.wrap (b8 a.2 (2 * i))) * 2 ^ (min (8 : Int).toNat IntKind.u64.bits))) (IntKind.u64.wrap (b8 a.2 ((2 * i) + 1))))))))
set_option maxHeartbeats 40000000 in
set_option maxRecDepth 100000 in
theorem addr_word_walk {F : Fz} {fr : List Ow} {h0 : Heap} (a : T_api_Addr) (i : Int) (hS : St F (fr) h0)  {Q : Int → Prop} (hM : addr_word_W a i Q) :
    HC Tryd.prog 108 #[.agg (e_api_Addr a).toArray, .int .i64 i] h0 fun u h' => ∃ (F' : Fz) (r_1 : Int), u = .int .u64 r_1 ∧ Kp F h0 F' h' ∧ St F' (fr) h' ∧ Q r_1 := by
  unfold addr_word_W at hM
  have hK := Kp.refl F h0
  refine HC.of_HW (n := 20) Tryd.func108 rfl rfl (Nat.le_of_ble_eq_true rfl) ?_
  refine HW.seq ?_
  refine HW.region ?_
  refine HO.eff (want_none) rfl (st_box (c := (e_api_Addr a).toArray) (k' := 17) hS rfl rfl) ?_
  rintro _ h_1 ⟨b_1, rfl, hS, hk⟩
  replace hK := hK.trans hk
  refine HO.val (v := .int .u64 0) (want_none) rfl (q_assign rfl) ?_
  refine HO.nil (thenQ_normal (?_))
  refine HW.seq ?_
  refine HW.regionA 16 mixed (fun h => (Blk h b_1 (.cells (e_api_Addr a).toArray 27 (0, 0)))) [] (by kernel_rfl) ?_
  refine HA.val (k := 0) (v := .int .i64 i) rfl rfl (by kernel_rfl) (by kernel_rfl) (want_none) rfl (fun _ c201 => q_move rfl) ?_
  obtain ⟨ho_1, hM⟩ := hM
  refine HA.val (k := 1) (v := .int .i64 (2 * i)) rfl rfl (by kernel_rfl) (by kernel_rfl) (want_none) rfl (fun _ c201 => q_mulN _ rfl rfl rfl ho_1.1 ho_1.2) ?_
  refine HA.val (k := 2) (v := .pointer (some ⟨b_1, 1, none⟩)) rfl rfl (by kernel_rfl) (by kernel_rfl) (want_none) rfl (fun _ c201 => q_fieldAddr fa_27_1 rfl rfl) ?_
  obtain ⟨ho_2, hM⟩ := hM
  refine HA.val (k := 3) (v := .pointer (some ⟨b_1, 1 + (2 * i).toNat, none⟩)) rfl rfl (by kernel_rfl) (by kernel_rfl) (want_none) rfl (fun _ c201 => q_idxA (o := 1) (t := 2 * i) tr_25 rfl rfl ho_2) ?_
  refine HA.val (k := 4) (v := .int .u8 (b8 a.2 (2 * i))) rfl rfl (by kernel_rfl) (by kernel_rfl) (want_none) rfl (fun _ c201 => q_ldArr (o := 1) (t := 2 * i) (X := a.2) to_5 rfl c201 rfl ho_2) ?_
  refine HA.val (k := 5) (v := .int .u64 (IntKind.u64.wrap (b8 a.2 (2 * i)))) rfl rfl (by kernel_rfl) (by kernel_rfl) (want_none) rfl (fun _ c201 => q_convInt Tryd.underlying5 Tryd.underlying95 rfl rfl) ?_
  refine HA.val (k := 6) (v := .int .u64 (IntKind.u64.wrap ((IntKind.u64.wrap (b8 a.2 (2 * i))) * 2 ^ (min (8 : Int).toNat IntKind.u64.bits)))) rfl rfl (by kernel_rfl) (by kernel_rfl) (want_none) rfl (fun _ c201 => q_shl rfl rfl (by decide) rfl) ?_
  refine HA.val (k := 7) (v := .int .i64 i) rfl rfl (by kernel_rfl) (by kernel_rfl) (want_none) rfl (fun _ c201 => q_move rfl) ?_
  refine HA.val (k := 8) (v := .int .i64 (2 * i)) rfl rfl (by kernel_rfl) (by kernel_rfl) (want_none) rfl (fun _ c201 => q_mulN _ rfl rfl rfl ho_1.1 ho_1.2) ?_
  obtain ⟨ho_3, hM⟩ := hM
  refine HA.val (k := 9) (v := .int .i64 ((2 * i) + 1)) rfl rfl (by kernel_rfl) (by kernel_rfl) (want_none) rfl (fun _ c201 => q_addN _ rfl rfl rfl ho_3.1 ho_3.2) ?_
  refine HA.val (k := 10) (v := .pointer (some ⟨b_1, 1, none⟩)) rfl rfl (by kernel_rfl) (by kernel_rfl) (want_none) rfl (fun _ c201 => q_fieldAddr fa_27_1 rfl rfl) ?_
  obtain ⟨ho_4, hM⟩ := hM
  refine HA.val (k := 11) (v := .pointer (some ⟨b_1, 1 + ((2 * i) + 1).toNat, none⟩)) rfl rfl (by kernel_rfl) (by kernel_rfl) (want_none) rfl (fun _ c201 => q_idxA (o := 1) (t := (2 * i) + 1) tr_25 rfl rfl ho_4) ?_
  refine HA.val (k := 12) (v := .int .u8 (b8 a.2 ((2 * i) + 1))) rfl rfl (by kernel_rfl) (by kernel_rfl) (want_none) rfl (fun _ c201 => q_ldArr (o := 1) (t := (2 * i) + 1) (X := a.2) to_5 rfl c201 rfl ho_4) ?_
  refine HA.val (k := 13) (v := .int .u64 (IntKind.u64.wrap (b8 a.2 ((2 * i) + 1)))) rfl rfl (by kernel_rfl) (by kernel_rfl) (want_none) rfl (fun _ c201 => q_convInt Tryd.underlying5 Tryd.underlying95 rfl rfl) ?_
  refine HA.val (k := 14) (v := .int .u64 (bits .or .u64 (IntKind.u64.wrap ((IntKind.u64.wrap (b8 a.2 (2 * i))) * 2 ^ (min (8 : Int).toNat IntKind.u64.bits))) (IntKind.u64.wrap (b8 a.2 ((2 * i) + 1))))) rfl rfl (by kernel_rfl) (by kernel_rfl) (want_none) rfl (fun _ c201 => q_bits (by simp) rfl rfl) ?_
  refine HA.val (k := 15) (v := .int .u64 (bits .or .u64 (IntKind.u64.wrap ((IntKind.u64.wrap (b8 a.2 (2 * i))) * 2 ^ (min (8 : Int).toNat IntKind.u64.bits))) (IntKind.u64.wrap (b8 a.2 ((2 * i) + 1))))) rfl rfl (by kernel_rfl) (by kernel_rfl) (want_none) rfl (fun _ c201 => q_assign rfl) ?_
  refine HA.nil ⟨(hS.box 0 rfl), (Go.Wk.at_nil _ _)⟩ (by kernel_rfl) (thenQ_normal (?_))
  refine HW.ret (?_)
  refine ⟨.inr rfl, .int .u64 (bits .or .u64 (IntKind.u64.wrap ((IntKind.u64.wrap (b8 a.2 (2 * i))) * 2 ^ (min (8 : Int).toNat IntKind.u64.bits))) (IntKind.u64.wrap (b8 a.2 ((2 * i) + 1)))), res1 rfl (rt rfl), ?_⟩
  replace hS : St F (fr) h_1 := hS.perm2 [] 1 rfl rfl
  exact ⟨F, bits .or .u64 (IntKind.u64.wrap ((IntKind.u64.wrap (b8 a.2 (2 * i))) * 2 ^ (min (8 : Int).toNat IntKind.u64.bits))) (IntKind.u64.wrap (b8 a.2 ((2 * i) + 1))), rfl, hK, hS, hM⟩

def addr_row_j1 (n_1 : Int) (most_1 : Int) (i_1 : Int) (K_1 : Int → Int → Int → Prop) (n_2 : Int) : Prop :=
  (most_1 < n_2 → (I64 (n_2 + 1)) ∧ ((I64 (i_1 + (n_2 + 1))) ∧ (K_1 i_1 n_2 (i_1 + (n_2 + 1))))) ∧ (¬ (most_1 < n_2) → (I64 (n_2 + 1)) ∧ ((I64 (i_1 + (n_2 + 1))) ∧ (K_1 n_1 most_1 (i_1 + (n_2 + 1)))))
def addr_row_l2 (a : T_api_Addr) (n_1 : Int) (most_1 : Int) (i_1 : Int) (K_1 : Int → Int → Int → Prop) (K_2 : Int → Prop) (n_3 : Int) : Prop :=
  (I64 (i_1 + n_3)) ∧ (((i_1 + n_3) < 8 → addr_word_W a (i_1 + n_3) (fun r_1 => (r_1 = 0 → (I64 (n_3 + 1)) ∧ (K_2 (n_3 + 1))) ∧ (¬ (r_1 = 0) → addr_row_j1 n_1 most_1 i_1 K_1 n_3))) ∧ (¬ ((i_1 + n_3) < 8) → addr_row_j1 n_1 most_1 i_1 K_1 n_3))
def addr_row_l1 (a : T_api_Addr) (Q : Int → Int → Prop) (K_1 : Int → Int → Int → Prop) (n_1 : Int) (most_1 : Int) (i_1 : Int) : Prop :=
  (i_1 < 8 → loopW (fun (K_2 : Int → Prop) (s : Int) => addr_row_l2 a n_1 most_1 i_1 K_1 K_2 s) 0) ∧ (¬ (i_1 < 8) → Q n_1 most_1)
def addr_row_W (a : T_api_Addr) (Q : Int → Int → Prop) : Prop :=
  loopW (fun (K_1 : (Int × Int × Int) → Prop) (s : Int × Int × Int) => addr_row_l1 a Q (fun n_1 most_1 i_1 => K_1 (n_1, most_1, i_1)) s.1 s.2.1 s.2.2) (0, 1, 0)
set_option maxHeartbeats 40000000 in
set_option maxRecDepth 100000 in
theorem addr_row_walk {F : Fz} {fr : List Ow} {h0 : Heap} (a : T_api_Addr) (hS : St F (fr) h0)  {Q : Int → Int → Prop} (hM : addr_row_W a Q) :
    HC Tryd.prog 103 #[.agg (e_api_Addr a).toArray] h0 fun u h' => ∃ (F' : Fz) (r0_1 : Int) (r1_1 : Int), u = .tuple #[.int .i64 r0_1, .int .i64 r1_1] ∧ Kp F h0 F' h' ∧ St F' (fr) h' ∧ Q r0_1 r1_1 := by
  unfold addr_row_W at hM
  have hK := Kp.refl F h0
  refine HC.of_HW (n := 35) Tryd.func103 rfl rfl (Nat.le_of_ble_eq_true rfl) ?_
  refine HW.seq ?_
  refine HW.region ?_
  refine HO.eff (want_none) rfl (st_box (c := (e_api_Addr a).toArray) (k' := 17) hS rfl rfl) ?_
  rintro _ h_1 ⟨b_1, rfl, hS, hk⟩
  replace hK := hK.trans hk
  refine HO.val (v := .int .i64 0) (want_none) rfl (q_assign rfl) ?_
  refine HO.val (v := .int .i64 0) (want_none) rfl (q_assign rfl) ?_
  refine HO.nil (thenQ_normal (?_))
  refine HW.seq ?_
  refine HW.region ?_
  refine HO.val (v := .int .i64 0) (want_none) rfl (q_assign rfl) ?_
  refine HO.val (v := .int .i64 1) (want_none) rfl (q_assign rfl) ?_
  refine HO.nil (thenQ_normal (?_))
  refine HW.seq ?_
  refine HW.seq ?_
  refine HW.region ?_
  refine HO.val (v := .int .i64 0) (want_none) rfl (q_assign rfl) ?_
  refine HO.nil (thenQ_normal (?_))
  refine HW.block ?_
  obtain ⟨I_1, m_1, hI_1, hR_1⟩ := hM
  refine HW.loop (S := Int × Int × Int) (fun s f h => match s with | (n_1, most_1, i_1) => ∃ (F' : Fz), f 1 = .pointer (some ⟨b_1, 0, none⟩) ∧ f 2 = .int .i64 0 ∧ f 3 = .int .i64 0 ∧ f 4 = .int .i64 n_1 ∧ f 5 = .int .i64 most_1 ∧ f 6 = .int .i64 i_1 ∧ Kp F h0 F' h ∧ St F' (Ow.box b_1 27 (e_api_Addr a).toArray :: fr) h ∧ I_1 (n_1, most_1, i_1)) m_1 (0, 1, 0) ⟨F, rfl, rfl, rfl, rfl, rfl, rfl, hK, hS, hI_1⟩ ?_
  rintro ⟨n_1, most_1, i_1⟩ f_1 h_2 ⟨F_1, e1, e2, e3, e4, e5, e6, hK, hS, hI0⟩
  obtain ⟨K_1, hKe_1⟩ : ∃ K : Int → Int → Int → Prop, K = fun n_1' most_1' i_1' => I_1 (n_1', most_1', i_1') ∧ m_1 (n_1', most_1', i_1') < m_1 (n_1, most_1, i_1) := ⟨_, rfl⟩
  have hM : addr_row_l1 a Q K_1 n_1 most_1 i_1 := by rw [hKe_1]; exact hR_1 (n_1, most_1, i_1) hI0
  unfold addr_row_l1 at hM
  refine HW.fr [(1, .pointer (some ⟨b_1, 0, none⟩)), (2, .int .i64 0), (3, .int .i64 0), (4, .int .i64 n_1), (5, .int .i64 most_1), (6, .int .i64 i_1)] ⟨e1, e2, e3, e4, e5, e6, trivial⟩ ?_
  refine HW.seq ?_
  refine HW.seq ?_
  refine HW.region ?_
  refine HO.val (v := .int .i64 i_1) (want_none) rfl (q_move rfl) ?_
  refine HO.val (v := .bool (decide (i_1 < 8))) (want_none) rfl (q_lss rfl rfl) ?_
  refine HO.nil (thenQ_normal (?_))
  refine HW.cond (decide (i_1 < 8)) rfl (fun c_1 => ?_) (fun c_1 => ?_)
  · replace hM := hM.1 (of_decide_eq_true c_1)
    refine HW.skip (thenQ_normal (?_))
    refine HW.block ?_
    refine HW.seq ?_
    refine HW.region ?_
    refine HO.val (v := .int .i64 0) (want_none) rfl (q_assign rfl) ?_
    refine HO.nil (thenQ_normal (?_))
    refine HW.seq_mid (fun f h => ∃ (F' : Fz) (n_2 : Int), f 1 = .pointer (some ⟨b_1, 0, none⟩) ∧ f 2 = .int .i64 0 ∧ f 3 = .int .i64 0 ∧ f 4 = .int .i64 n_1 ∧ f 5 = .int .i64 most_1 ∧ f 6 = .int .i64 i_1 ∧ f 7 = .int .i64 n_2 ∧ Kp F h0 F' h ∧ St F' (Ow.box b_1 27 (e_api_Addr a).toArray :: fr) h ∧ addr_row_j1 n_1 most_1 i_1 K_1 n_2) ?_ ?_
    · refine HW.block ?_
      obtain ⟨I_2, m_2, hI_2, hR_2⟩ := hM
      refine HW.loop (S := Int) (fun n_3 f h => ∃ (F' : Fz), f 1 = .pointer (some ⟨b_1, 0, none⟩) ∧ f 2 = .int .i64 0 ∧ f 3 = .int .i64 0 ∧ f 4 = .int .i64 n_1 ∧ f 5 = .int .i64 most_1 ∧ f 6 = .int .i64 i_1 ∧ f 7 = .int .i64 n_3 ∧ Kp F h0 F' h ∧ St F' (Ow.box b_1 27 (e_api_Addr a).toArray :: fr) h ∧ I_2 n_3) m_2 0 ⟨F_1, rfl, rfl, rfl, rfl, rfl, rfl, rfl, hK, hS, hI_2⟩ ?_
      rintro n_3 f_2 h_3 ⟨F_2, e1, e2, e3, e4, e5, e6, e7, hK, hS, hI0⟩
      obtain ⟨K_2, hKe_2⟩ : ∃ K : Int → Prop, K = fun n_3' => I_2 n_3' ∧ m_2 n_3' < m_2 n_3 := ⟨_, rfl⟩
      have hM : addr_row_l2 a n_1 most_1 i_1 K_1 K_2 n_3 := by rw [hKe_2]; exact hR_2 n_3 hI0
      unfold addr_row_l2 at hM
      refine HW.fr [(1, .pointer (some ⟨b_1, 0, none⟩)), (2, .int .i64 0), (3, .int .i64 0), (4, .int .i64 n_1), (5, .int .i64 most_1), (6, .int .i64 i_1), (7, .int .i64 n_3)] ⟨e1, e2, e3, e4, e5, e6, e7, trivial⟩ ?_
      refine HW.seq ?_
      refine HW.seq ?_
      refine HW.region ?_
      refine HO.val (v := .int .i64 i_1) (want_none) rfl (q_move rfl) ?_
      refine HO.val (v := .int .i64 n_3) (want_none) rfl (q_move rfl) ?_
      obtain ⟨ho_1, hM⟩ := hM
      refine HO.val (v := .int .i64 (i_1 + n_3)) (want_none) rfl (q_addN _ rfl rfl rfl ho_1.1 ho_1.2) ?_
      refine HO.val (v := .bool (decide ((i_1 + n_3) < 8))) (want_none) rfl (q_lss rfl rfl) ?_
      refine HO.val (v := .bool (decide ((i_1 + n_3) < 8))) (want_none) rfl (q_move rfl) ?_
      rcases Bool.eq_false_or_eq_true (decide ((i_1 + n_3) < 8)) with c_2 | c_2
      · replace hM := hM.1 (of_decide_eq_true c_2)
        refine HO.val (v := .agg (e_api_Addr a).toArray) (want_by rfl rfl c_2) rfl (q_loadAgg (cs := (e_api_Addr a)) ta_27 rfl rfl (Blk.cells (k := 17) (hS.box 0 rfl) rfl)) ?_
        refine HO.val (v := .int .i64 i_1) (want_by rfl rfl c_2) rfl (q_move rfl) ?_
        refine HO.val (v := .int .i64 n_3) (want_by rfl rfl c_2) rfl (q_move rfl) ?_
        refine HO.val (v := .int .i64 (i_1 + n_3)) (want_by rfl rfl c_2) rfl (q_addN _ rfl rfl rfl ho_1.1 ho_1.2) ?_
        refine HO.call (want_by rfl rfl c_2) rfl (ec en_108 rfl rfl) (addr_word_walk (fr := (Ow.box b_1 27 (e_api_Addr a).toArray :: fr)) a (i_1 + n_3) hS hM) ?_
        rintro _ h_4 ⟨F_3, r_1, rfl, hk, hS, hM⟩
        replace hK := hK.trans hk
        refine HO.val (v := .bool (decide (r_1 = 0))) (want_by rfl rfl c_2) rfl (q_eql rfl rfl) ?_
        refine HO.val (v := .bool (decide (r_1 = 0))) (want_none) rfl (q_pickK true rfl c_2 rfl) ?_
        refine HO.nil (thenQ_normal (?_))
        refine HW.cond (decide (r_1 = 0)) rfl (fun c_3 => ?_) (fun c_3 => ?_)
        · replace hM := hM.1 (of_decide_eq_true c_3)
          refine HW.skip (thenQ_normal (?_))
          refine HW.block ?_
          refine HW.region ?_
          refine HO.val (v := .int .i64 n_3) (want_none) rfl (q_move rfl) ?_
          obtain ⟨ho_2, hM⟩ := hM
          refine HO.val (v := .int .i64 (n_3 + 1)) (want_none) rfl (q_addN _ rfl rfl rfl ho_2.1 ho_2.2) ?_
          refine HO.val (v := .int .i64 (n_3 + 1)) (want_none) rfl (q_assign rfl) ?_
          refine HO.nil (blockQ_normal (thenQ_normal (?_)))
          rw [hKe_2] at hM
          exact ⟨n_3 + 1, ⟨F_3, rfl, rfl, rfl, rfl, rfl, rfl, rfl, hK, hS, hM.1⟩, hM.2⟩
        · replace hM := hM.2 (of_decide_eq_false c_3)
          refine HW.exit (thenQ_exit (thenQ_exit (blockQ_exit (thenQ_normal (?_)))))
          exact ⟨F_3, n_3, rfl, rfl, rfl, rfl, rfl, rfl, rfl, hK, hS, hM⟩
      · replace hM := hM.2 (of_decide_eq_false c_2)
        refine HO.past (past_by rfl rfl c_2) rfl ?_
        refine HO.past (past_by rfl rfl c_2) rfl ?_
        refine HO.past (past_by rfl rfl c_2) rfl ?_
        refine HO.past (past_by rfl rfl c_2) rfl ?_
        refine HO.past (past_by rfl rfl c_2) rfl ?_
        refine HO.past (past_by rfl rfl c_2) rfl ?_
        refine HO.val (v := .bool false) (want_none) rfl (q_pickK false rfl c_2 rfl) ?_
        refine HO.nil (thenQ_normal (?_))
        refine HW.condF rfl ?_
        refine HW.exit (thenQ_exit (thenQ_exit (blockQ_exit (thenQ_normal (?_)))))
        exact ⟨F_2, n_3, rfl, rfl, rfl, rfl, rfl, rfl, rfl, hK, hS, hM⟩
    · rintro f_3 h_5 ⟨F_4, n_2, e1, e2, e3, e4, e5, e6, e7, hK, hS, hM⟩
      unfold addr_row_j1 at hM
      refine HW.fr [(1, .pointer (some ⟨b_1, 0, none⟩)), (2, .int .i64 0), (3, .int .i64 0), (4, .int .i64 n_1), (5, .int .i64 most_1), (6, .int .i64 i_1), (7, .int .i64 n_2)] ⟨e1, e2, e3, e4, e5, e6, e7, trivial⟩ ?_
      refine HW.seq ?_
      refine HW.seq ?_
      refine HW.region ?_
      refine HO.val (v := .int .i64 n_2) (want_none) rfl (q_move rfl) ?_
      refine HO.val (v := .int .i64 most_1) (want_none) rfl (q_move rfl) ?_
      refine HO.val (v := .bool (decide (most_1 < n_2))) (want_none) rfl (q_gtr rfl rfl) ?_
      refine HO.nil (thenQ_normal (?_))
      refine HW.cond (decide (most_1 < n_2)) rfl (fun c_4 => ?_) (fun c_4 => ?_)
      · replace hM := hM.1 (of_decide_eq_true c_4)
        refine HW.region ?_
        refine HO.val (v := .int .i64 i_1) (want_none) rfl (q_move rfl) ?_
        refine HO.val (v := .int .i64 n_2) (want_none) rfl (q_move rfl) ?_
        refine HO.val (v := .int .i64 i_1) (want_none) rfl (q_assign rfl) ?_
        refine HO.val (v := .int .i64 n_2) (want_none) rfl (q_assign rfl) ?_
        refine HO.nil (thenQ_normal (?_))
        refine HW.region ?_
        refine HO.val (v := .int .i64 i_1) (want_none) rfl (q_move rfl) ?_
        refine HO.val (v := .int .i64 n_2) (want_none) rfl (q_move rfl) ?_
        obtain ⟨ho_3, hM⟩ := hM
        refine HO.val (v := .int .i64 (n_2 + 1)) (want_none) rfl (q_addN _ rfl rfl rfl ho_3.1 ho_3.2) ?_
        obtain ⟨ho_4, hM⟩ := hM
        refine HO.val (v := .int .i64 (i_1 + (n_2 + 1))) (want_none) rfl (q_addN _ rfl rfl rfl ho_4.1 ho_4.2) ?_
        refine HO.val (v := .int .i64 (i_1 + (n_2 + 1))) (want_none) rfl (q_assign rfl) ?_
        refine HO.nil (blockQ_normal (thenQ_normal (?_)))
        rw [hKe_1] at hM
        exact ⟨(i_1, n_2, i_1 + (n_2 + 1)), ⟨F_4, rfl, rfl, rfl, rfl, rfl, rfl, hK, hS, hM.1⟩, hM.2⟩
      · replace hM := hM.2 (of_decide_eq_false c_4)
        refine HW.skip (thenQ_normal (?_))
        refine HW.region ?_
        refine HO.val (v := .int .i64 i_1) (want_none) rfl (q_move rfl) ?_
        refine HO.val (v := .int .i64 n_2) (want_none) rfl (q_move rfl) ?_
        obtain ⟨ho_5, hM⟩ := hM
        refine HO.val (v := .int .i64 (n_2 + 1)) (want_none) rfl (q_addN _ rfl rfl rfl ho_5.1 ho_5.2) ?_
        obtain ⟨ho_6, hM⟩ := hM
        refine HO.val (v := .int .i64 (i_1 + (n_2 + 1))) (want_none) rfl (q_addN _ rfl rfl rfl ho_6.1 ho_6.2) ?_
        refine HO.val (v := .int .i64 (i_1 + (n_2 + 1))) (want_none) rfl (q_assign rfl) ?_
        refine HO.nil (blockQ_normal (thenQ_normal (?_)))
        rw [hKe_1] at hM
        exact ⟨(n_1, most_1, i_1 + (n_2 + 1)), ⟨F_4, rfl, rfl, rfl, rfl, rfl, rfl, hK, hS, hM.1⟩, hM.2⟩
  · replace hM := hM.2 (of_decide_eq_false c_1)
    refine HW.exit (thenQ_exit (thenQ_exit (blockQ_exit (thenQ_normal (?_)))))
    refine HW.seq ?_
    refine HW.region ?_
    refine HO.val (v := .int .i64 n_1) (want_none) rfl (q_move rfl) ?_
    refine HO.val (v := .int .i64 most_1) (want_none) rfl (q_move rfl) ?_
    refine HO.val (v := .int .i64 n_1) (want_none) rfl (q_assign rfl) ?_
    refine HO.val (v := .int .i64 most_1) (want_none) rfl (q_assign rfl) ?_
    refine HO.nil (thenQ_normal (?_))
    refine HW.ret (?_)
    refine ⟨.inr rfl, .tuple #[.int .i64 n_1, .int .i64 most_1], res2 rfl (rt rfl) (rt rfl), ?_⟩
    replace hS : St F_1 (fr) h_2 := hS.perm2 [] 1 rfl rfl
    exact ⟨F_1, n_1, most_1, rfl, hK, hS, hM⟩

def addr_list_l1 (a : T_api_Addr) (from1 : Int) (to : Int) (Q : Str → Prop) (K_1 : Prop) : Prop :=
  (from1 < to → addr_word_W a from1 (fun r_2 => False)) ∧ (¬ (from1 < to) → ((([] : List Str)).length ≤ 140737488355328 ∧ (joinS ([] : List Str) ([58] : Str)).length ≤ 140737488355328) ∧ (Q (joinS ([] : List Str) ([58] : Str))))
def addr_list_W (a : T_api_Addr) (from1 : Int) (to : Int) (Q : Str → Prop) : Prop :=
  loopW (fun (K_1 : Unit → Prop) (s : Unit) => addr_list_l1 a from1 to Q (K_1 ())) ()
set_option maxHeartbeats 40000000 in
set_option maxRecDepth 100000 in
theorem addr_list_walk {F : Fz} {fr : List Ow} {h0 : Heap} (a : T_api_Addr) (from1 : Int) (to : Int) (hS : St F (fr) h0)  (hD : DM.on = false) {Q : Str → Prop} (hM : addr_list_W a from1 to Q) :
    HC Tryd.prog 104 #[.agg (e_api_Addr a).toArray, .int .i64 from1, .int .i64 to] h0 fun u h' => ∃ (F' : Fz) (r_1 : Str), u = .string (bs r_1) ∧ Kp F h0 F' h' ∧ St F' (fr) h' ∧ Q r_1 := by
  unfold addr_list_W at hM
  have hK := Kp.refl F h0
  refine HC.of_HW (n := 24) Tryd.func104 rfl rfl (Nat.le_of_ble_eq_true rfl) ?_
  refine HW.seq ?_
  refine HW.region ?_
  refine HO.eff (want_none) rfl (st_box (c := (e_api_Addr a).toArray) (k' := 17) hS rfl rfl) ?_
  rintro _ h_1 ⟨b_1, rfl, hS, hk⟩
  replace hK := hK.trans hk
  refine HO.val (v := .string (bs [])) (want_none) rfl (q_assign rfl) ?_
  refine HO.nil (thenQ_normal (?_))
  refine HW.seq ?_
  refine HW.region ?_
  refine HO.val (v := .slice none 0 0) (want_none) rfl (q_assign rfl) ?_
  refine HO.nil (thenQ_normal (?_))
  refine HW.seq ?_
  refine HW.seq ?_
  refine HW.region ?_
  refine HO.val (v := .int .i64 from1) (want_none) rfl (q_move rfl) ?_
  refine HO.val (v := .int .i64 from1) (want_none) rfl (q_assign rfl) ?_
  refine HO.nil (thenQ_normal (?_))
  refine HW.block ?_
  obtain ⟨I_1, m_1, hI_1, hR_1⟩ := hM
  refine HW.loop (S := Unit) (fun _ f h => ∃ (F' : Fz), f 2 = .int .i64 to ∧ f 3 = .pointer (some ⟨b_1, 0, none⟩) ∧ f 6 = .string (bs []) ∧ f 7 = .slice none 0 0 ∧ f 8 = .int .i64 from1 ∧ Kp F h0 F' h ∧ St F' (Ow.box b_1 27 (e_api_Addr a).toArray :: fr) h ∧ I_1 ()) m_1 () ⟨F, rfl, rfl, rfl, rfl, rfl, hK, hS, hI_1⟩ ?_
  rintro _ f_1 h_2 ⟨F_1, e2, e3, e6, e7, e8, hK, hS, hI0⟩
  obtain ⟨K_1, hKe_1⟩ : ∃ K : Prop, K = (I_1 () ∧ m_1 () < m_1 ()) := ⟨_, rfl⟩
  have hM : addr_list_l1 a from1 to Q K_1 := by rw [hKe_1]; exact hR_1 () hI0
  unfold addr_list_l1 at hM
  refine HW.fr [(2, .int .i64 to), (3, .pointer (some ⟨b_1, 0, none⟩)), (6, .string (bs [])), (7, .slice none 0 0), (8, .int .i64 from1)] ⟨e2, e3, e6, e7, e8, trivial⟩ ?_
  refine HW.seq ?_
  refine HW.seq ?_
  refine HW.region ?_
  refine HO.val (v := .int .i64 from1) (want_none) rfl (q_move rfl) ?_
  refine HO.val (v := .int .i64 to) (want_none) rfl (q_move rfl) ?_
  refine HO.val (v := .bool (decide (from1 < to))) (want_none) rfl (q_lss rfl rfl) ?_
  refine HO.nil (thenQ_normal (?_))
  refine HW.cond (decide (from1 < to)) rfl (fun c_1 => ?_) (fun c_1 => ?_)
  · replace hM := hM.1 (of_decide_eq_true c_1)
    refine HW.skip (thenQ_normal (?_))
    refine HW.seq ?_
    refine HW.block ?_
    refine HW.region ?_
    refine HO.val (v := .slice none 0 0) (want_none) rfl (q_move rfl) ?_
    refine HO.val (v := .agg (e_api_Addr a).toArray) (want_none) rfl (q_loadAgg (cs := (e_api_Addr a)) ta_27 rfl rfl (Blk.cells (k := 17) (hS.box 0 rfl) rfl)) ?_
    refine HO.val (v := .int .i64 from1) (want_none) rfl (q_move rfl) ?_
    refine HO.call (want_none) rfl (ec en_108 rfl rfl) (addr_word_walk (fr := (Ow.box b_1 27 (e_api_Addr a).toArray :: fr)) a from1 hS hM) ?_
    rintro _ h_3 ⟨F_2, r_2, rfl, hk, hS, hM⟩
    replace hK := hK.trans hk
    exact hM.elim
  · replace hM := hM.2 (of_decide_eq_false c_1)
    refine HW.exit (thenQ_exit (thenQ_exit (blockQ_exit (thenQ_normal (?_)))))
    refine HW.seq ?_
    refine HW.region ?_
    refine HO.val (v := .slice none 0 0) (want_none) rfl (q_move rfl) ?_
    obtain ⟨ho_1, hM⟩ := hM
    refine HO.call (want_none) rfl (ec en_90 rfl rfl) (strJoin_hc hD Tryd.join Tryd.joinX ([58] : Str) hS (SliceIs.nil _ _ _) ho_1.1 ho_1.2) ?_
    rintro _ h_4 ⟨rfl, hS, hk⟩
    replace hK := hK.trans hk
    refine HO.val (v := .string (bs (joinS ([] : List Str) ([58] : Str)))) (want_none) rfl (q_assign rfl) ?_
    refine HO.nil (thenQ_normal (?_))
    refine HW.ret (?_)
    refine ⟨.inr rfl, .string (bs (joinS ([] : List Str) ([58] : Str))), res1 rfl (rt rfl), ?_⟩
    replace hS : St F_1 (fr) h_4 := hS.perm2 [] 1 rfl rfl
    exact ⟨F_1, joinS ([] : List Str) ([58] : Str), rfl, hK, hS, hM⟩

def addr_text_l2 (a : T_api_Addr) (Q : Str → Prop) (K_1 : (List Str) → Int → Prop) (l_1 : List Str) (n_1 : Int) : Prop :=
  (n_1 < ((cut a.2.1 0 4).length : Int) → ((0 : Int) ≤ n_1 ∧ n_1 < ((cut a.2.1 0 4).length : Int)) ∧ ((I64 ((gi (cut a.2.1 0 4) n_1).toNat : Int)) ∧ (((0 : Int) ≤ ((gi (cut a.2.1 0 4) n_1).toNat : Int) ∧ ((gi (cut a.2.1 0 4) n_1).toNat : Int) < 100) ∧ (((l_1.length + ([dec ((gi (cut a.2.1 0 4) n_1).toNat : Int)] : List Str).length) * 16 ≤ 140737488355328) ∧ ((I64 (n_1 + 1)) ∧ (K_1 (l_1 ++ ([dec ((gi (cut a.2.1 0 4) n_1).toNat : Int)] : List Str)) (n_1 + 1))))))) ∧ (¬ (n_1 < ((cut a.2.1 0 4).length : Int)) → ((l_1).length ≤ 140737488355328 ∧ (joinS l_1 ([46] : Str)).length ≤ 140737488355328) ∧ (Q (joinS l_1 ([46] : Str))))
def addr_text_W (a : T_api_Addr) (Q : Str → Prop) : Prop :=
  ((!a.1) = true → loopW (fun (K_1 : (List Str × Int) → Prop) (s : List Str × Int) => addr_text_l2 a Q (fun l_1 n_1 => K_1 (l_1, n_1)) s.1 s.2) ([], 0)) ∧ ((!a.1) = false → addr_row_W a (fun r0_1 r1_1 => (r1_1 < 2 → addr_list_W a 0 8 (fun r_2 => Q r_2)) ∧ (¬ (r1_1 < 2) → (I64 (r0_1 + r1_1)) ∧ (addr_list_W a 0 r0_1 (fun r_3 => ((r_3.length : Int) + ((([58, 58] : Str)).length : Int) ≤ 9223372036854775807) ∧ (addr_list_W a (r0_1 + r1_1) 8 (fun r_4 => (((r_3 ++ ([58, 58] : Str)).length : Int) + (r_4.length : Int) ≤ 9223372036854775807) ∧ (Q ((r_3 ++ ([58, 58] : Str)) ++ r_4)))))))))
set_option maxHeartbeats 40000000 in
set_option maxRecDepth 100000 in
theorem addr_text_walk {F : Fz} {fr : List Ow} {h0 : Heap} (a : T_api_Addr) (hS : St F (fr) h0)  (hD : DM.on = false) {Q : Str → Prop} (hM : addr_text_W a Q) :
    HC Tryd.prog 97 #[.agg (e_api_Addr a).toArray] h0 fun u h' => ∃ (F' : Fz) (r_1 : Str), u = .string (bs r_1) ∧ Kp F h0 F' h' ∧ St F' (fr) h' ∧ Q r_1 := by
  unfold addr_text_W at hM
  have hK := Kp.refl F h0
  refine HC.of_HW (n := 46) Tryd.func97 rfl rfl (Nat.le_of_ble_eq_true rfl) ?_
  refine HW.seq ?_
  refine HW.region ?_
  refine HO.eff (want_none) rfl (st_box (c := (e_api_Addr a).toArray) (k' := 17) hS rfl rfl) ?_
  rintro _ h_1 ⟨b_1, rfl, hS, hk⟩
  replace hK := hK.trans hk
  refine HO.val (v := .string (bs [])) (want_none) rfl (q_assign rfl) ?_
  refine HO.nil (thenQ_normal (?_))
  refine HW.seq ?_
  refine HW.seq ?_
  refine HW.region ?_
  refine HO.val (v := .pointer (some ⟨b_1, 0, none⟩)) (want_none) rfl (q_fieldAddr fa_27_0 rfl rfl) ?_
  refine HO.val (v := .bool a.1) (want_none) rfl (q_load to_4 rfl (Blk.cell (hS.box 0 rfl) rfl)) ?_
  refine HO.val (v := .bool (!a.1)) (want_none) rfl (q_not rfl) ?_
  refine HO.nil (thenQ_normal (?_))
  refine HW.cond (!a.1) rfl (fun c_1 => ?_) (fun c_1 => ?_)
  · replace hM := hM.1 c_1
    refine HW.seq ?_
    refine HW.region ?_
    refine HO.val (v := .slice none 0 0) (want_none) rfl (q_assign rfl) ?_
    refine HO.nil (thenQ_normal (?_))
    refine HW.seq ?_
    refine HW.seq ?_
    refine HW.region ?_
    refine HO.val (v := .pointer (some ⟨b_1, 1, none⟩)) (want_none) rfl (q_fieldAddr fa_27_1 rfl rfl) ?_
    refine HO.val (v := arrV b_1 1 16 0 4) (want_none) rfl (q_sliceA (o := 1) (lo := 0) (hi := 4) (kl := .i64) tr_25 rfl (.inl ⟨rfl, rfl⟩) (.inr ⟨_, rfl, rfl⟩) ⟨by decide, by decide, by decide⟩) ?_
    refine HO.val (v := .int .i64 ((cut a.2.1 0 4).length : Int)) (want_none) rfl (q_len ts_96 (shp (arrSl (o := 1) (n := 16) (X := a.2) (lo := 0) (hi := 4) (hS.box 0 rfl) rfl ⟨by decide, by decide, by decide⟩ (by decide))) rfl rfl) ?_
    refine HO.val (v := .int .i64 0) (want_none) rfl (q_move rfl) ?_
    refine HO.nil (thenQ_normal (?_))
    refine HW.block ?_
    obtain ⟨I_1, m_1, hI_1, hR_1⟩ := hM
    replace hS := hS.nilOwn 9 1 encT
    replace hS : St F (Ow.box b_1 27 (e_api_Addr a).toArray :: Ow.own 9 1 encT (.slice none 0 0) ([] : List Str) :: fr) h_1 := hS.perm2 [1, 0] 2 rfl rfl
    refine HW.loop (S := List Str × Int) (fun s f h => match s with | (l_1, n_1) => ∃ (F' : Fz) (vl_1 : Value), f 1 = .pointer (some ⟨b_1, 0, none⟩) ∧ f 2 = .string (bs []) ∧ f 3 = vl_1 ∧ f 12 = arrV b_1 1 16 0 4 ∧ f 13 = .int .i64 ((cut a.2.1 0 4).length : Int) ∧ f 14 = .int .i64 n_1 ∧ Kp F h0 F' h ∧ St F' (Ow.box b_1 27 (e_api_Addr a).toArray :: Ow.own 9 1 encT vl_1 l_1 :: fr) h ∧ I_1 (l_1, n_1)) m_1 ([], 0) ⟨F, .slice none 0 0, rfl, rfl, rfl, rfl, rfl, rfl, hK, hS, hI_1⟩ ?_
    rintro ⟨l_1, n_1⟩ f_1 h_2 ⟨F_1, vl_1, e1, e2, e3, e12, e13, e14, hK, hS, hI0⟩
    obtain ⟨K_1, hKe_1⟩ : ∃ K : (List Str) → Int → Prop, K = fun l_1' n_1' => I_1 (l_1', n_1') ∧ m_1 (l_1', n_1') < m_1 (l_1, n_1) := ⟨_, rfl⟩
    have hM : addr_text_l2 a Q K_1 l_1 n_1 := by rw [hKe_1]; exact hR_1 (l_1, n_1) hI0
    unfold addr_text_l2 at hM
    refine HW.fr [(1, .pointer (some ⟨b_1, 0, none⟩)), (2, .string (bs [])), (3, vl_1), (12, arrV b_1 1 16 0 4), (13, .int .i64 ((cut a.2.1 0 4).length : Int)), (14, .int .i64 n_1)] ⟨e1, e2, e3, e12, e13, e14, trivial⟩ ?_
    refine HW.seq ?_
    refine HW.region ?_
    refine HO.val (v := .bool (decide (n_1 < ((cut a.2.1 0 4).length : Int)))) (want_none) rfl (q_lss rfl rfl) ?_
    refine HO.nil (thenQ_normal (?_))
    refine HW.seq ?_
    refine HW.cond (decide (n_1 < ((cut a.2.1 0 4).length : Int))) rfl (fun c_2 => ?_) (fun c_2 => ?_)
    · replace hM := hM.1 (of_decide_eq_true c_2)
      refine HW.skip (thenQ_normal (?_))
      refine HW.seq ?_
      refine HW.block ?_
      refine HW.seq ?_
      refine HW.region ?_
      obtain ⟨ho_1, hM⟩ := hM
      refine HO.val (v := elemPtr 1 (arrV b_1 1 16 0 4) (n_1).toNat) (want_none) rfl (q_idx ts_96 (arrSl (o := 1) (n := 16) (X := a.2) (lo := 0) (hi := 4) (hS.box 0 rfl) rfl ⟨by decide, by decide, by decide⟩ (by decide)) rfl rfl ho_1) ?_
      refine HO.val (v := .int .u8 ((gi (cut a.2.1 0 4) n_1).toNat : Int)) (want_none) rfl (q_ldElem to_5 (arrSl (o := 1) (n := 16) (X := a.2) (lo := 0) (hi := 4) (hS.box 0 rfl) rfl ⟨by decide, by decide, by decide⟩ (by decide)) rfl ho_1 rfl) ?_
      refine HO.val (v := .int .u8 ((gi (cut a.2.1 0 4) n_1).toNat : Int)) (want_none) rfl (q_assign rfl) ?_
      refine HO.nil (thenQ_normal (?_))
      refine HW.region ?_
      refine HO.val (v := vl_1) (want_none) rfl (q_move rfl) ?_
      refine HO.val (v := .int .u8 ((gi (cut a.2.1 0 4) n_1).toNat : Int)) (want_none) rfl (q_move rfl) ?_
      obtain ⟨ho_2, hM⟩ := hM
      refine HO.val (v := .int .i64 ((gi (cut a.2.1 0 4) n_1).toNat : Int)) (want_none) rfl (q_convInt Tryd.underlying5 Tryd.underlying3 rfl (wrap_i64 ho_2.1 ho_2.2)) ?_
      obtain ⟨ho_3, hM⟩ := hM
      refine HO.call (want_none) rfl (ec en_102 rfl rfl) (itoa_hc Tryd.itoa ((gi (cut a.2.1 0 4) n_1).toNat : Int) ho_3 _) ?_
      rintro _ h_3 ⟨rfl, hEq⟩
      rw [hEq]
      refine HO.eff (want_none) rfl (st_lit (enc := encT) (cells := #[.string (bs (dec ((gi (cut a.2.1 0 4) n_1).toNat : Int)))]) #[.string (bs [])] ([dec ((gi (cut a.2.1 0 4) n_1).toNat : Int)] : List Str) hS tl_97 (by decide) (by decide) (by kernel_rfl) (by kernel_rfl) rfl (by intro x hx; rfl) rfl) ?_
      rintro _ h_4 ⟨b_2, rfl, hS, hk⟩
      replace hK := hK.trans hk
      obtain ⟨ho_4, hM⟩ := hM
      refine HO.eff (want_none) rfl (st_append te_97 hS (i := 2) rfl (hS.own 0 rfl).slice rfl rfl rfl (by intro a _ u hu; simp [encT, encI, encN, encB, encT] at hu; subst hu; rfl) ho_4 (by omega)) ?_
      rintro v_1 h_5 ⟨hS, hk⟩
      replace hS : St F_1 (Ow.own 9 1 encT (.slice (some ⟨b_2, 0, none⟩) 1 1) ([dec ((gi (cut a.2.1 0 4) n_1).toNat : Int)] : List Str) :: Ow.box b_1 27 (e_api_Addr a).toArray :: Ow.own 9 1 encT v_1 (l_1 ++ ([dec ((gi (cut a.2.1 0 4) n_1).toNat : Int)] : List Str)) :: fr) h_5 := hS
      replace hK := hK.trans hk
      refine HO.val (v := v_1) (want_none) rfl (q_assign rfl) ?_
      refine HO.nil (blockQ_normal (thenQ_normal (?_)))
      refine HW.region ?_
      obtain ⟨ho_5, hM⟩ := hM
      refine HO.val (v := .int .i64 (n_1 + 1)) (want_none) rfl (q_addN _ rfl rfl rfl ho_5.1 ho_5.2) ?_
      refine HO.val (v := .int .i64 (n_1 + 1)) (want_none) rfl (q_move rfl) ?_
      refine HO.nil (thenQ_normal (?_))
      replace hS : St F_1 (Ow.box b_1 27 (e_api_Addr a).toArray :: Ow.own 9 1 encT v_1 (l_1 ++ ([dec ((gi (cut a.2.1 0 4) n_1).toNat : Int)] : List Str)) :: fr) h_5 := hS.perm2 [1, 2] 3 rfl rfl
      rw [hKe_1] at hM
      exact ⟨(l_1 ++ ([dec ((gi (cut a.2.1 0 4) n_1).toNat : Int)] : List Str), n_1 + 1), ⟨F_1, v_1, rfl, rfl, rfl, rfl, rfl, rfl, hK, hS, hM.1⟩, hM.2⟩
    · replace hM := hM.2 (of_decide_eq_false c_2)
      refine HW.exit (thenQ_exit (thenQ_exit (blockQ_exit (thenQ_normal (?_)))))
      refine HW.seq ?_
      refine HW.region ?_
      refine HO.val (v := vl_1) (want_none) rfl (q_move rfl) ?_
      obtain ⟨ho_6, hM⟩ := hM
      refine HO.call (want_none) rfl (ec en_90 rfl rfl) (strJoin_hc hD Tryd.join Tryd.joinX ([46] : Str) hS (hS.own 1 rfl).slice ho_6.1 ho_6.2) ?_
      rintro _ h_6 ⟨rfl, hS, hk⟩
      replace hK := hK.trans hk
      refine HO.val (v := .string (bs (joinS l_1 ([46] : Str)))) (want_none) rfl (q_assign rfl) ?_
      refine HO.nil (thenQ_normal (?_))
      refine HW.ret (thenQ_ret (?_))
      refine ⟨.inr rfl, .string (bs (joinS l_1 ([46] : Str))), res1 rfl (rt rfl), ?_⟩
      replace hS : St F_1 (fr) h_6 := hS.perm2 [] 2 rfl rfl
      exact ⟨F_1, joinS l_1 ([46] : Str), rfl, hK, hS, hM⟩
  · replace hM := hM.2 c_1
    refine HW.skip (thenQ_normal (?_))
    refine HW.seq ?_
    refine HW.region ?_
    refine HO.val (v := .agg (e_api_Addr a).toArray) (want_none) rfl (q_loadAgg (cs := (e_api_Addr a)) ta_27 rfl rfl (Blk.cells (k := 17) (hS.box 0 rfl) rfl)) ?_
    refine HO.call (want_none) rfl (ec en_103 rfl rfl) (addr_row_walk (fr := (Ow.box b_1 27 (e_api_Addr a).toArray :: fr)) a hS hM) ?_
    rintro _ h_7 ⟨F_2, r0_1, r1_1, rfl, hk, hS, hM⟩
    replace hK := hK.trans hk
    refine HO.val (v := .tuple #[.int .i64 r0_1, .int .i64 r1_1]) (want_none) rfl (q_move rfl) ?_
    refine HO.val (v := .int .i64 r0_1) (want_none) rfl (q_extract rfl rfl) ?_
    refine HO.val (v := .int .i64 r1_1) (want_none) rfl (q_extract rfl rfl) ?_
    refine HO.val (v := .int .i64 r0_1) (want_none) rfl (q_assign rfl) ?_
    refine HO.val (v := .int .i64 r1_1) (want_none) rfl (q_assign rfl) ?_
    refine HO.nil (thenQ_normal (?_))
    refine HW.seq ?_
    refine HW.seq ?_
    refine HW.region ?_
    refine HO.val (v := .int .i64 r1_1) (want_none) rfl (q_move rfl) ?_
    refine HO.val (v := .bool (decide (r1_1 < 2))) (want_none) rfl (q_lss rfl rfl) ?_
    refine HO.nil (thenQ_normal (?_))
    refine HW.cond (decide (r1_1 < 2)) rfl (fun c_3 => ?_) (fun c_3 => ?_)
    · replace hM := hM.1 (of_decide_eq_true c_3)
      refine HW.seq ?_
      refine HW.region ?_
      refine HO.val (v := .agg (e_api_Addr a).toArray) (want_none) rfl (q_loadAgg (cs := (e_api_Addr a)) ta_27 rfl rfl (Blk.cells (k := 17) (hS.box 0 rfl) rfl)) ?_
      refine HO.call (want_none) rfl (ec en_104 rfl rfl) (addr_list_walk (fr := (Ow.box b_1 27 (e_api_Addr a).toArray :: fr)) a 0 8 hS hD hM) ?_
      rintro _ h_8 ⟨F_3, r_2, rfl, hk, hS, hM⟩
      replace hK := hK.trans hk
      refine HO.val (v := .string (bs r_2)) (want_none) rfl (q_assign rfl) ?_
      refine HO.nil (thenQ_normal (?_))
      refine HW.ret (thenQ_ret (?_))
      refine ⟨.inr rfl, .string (bs r_2), res1 rfl (rt rfl), ?_⟩
      replace hS : St F_3 (fr) h_8 := hS.perm2 [] 1 rfl rfl
      exact ⟨F_3, r_2, rfl, hK, hS, hM⟩
    · replace hM := hM.2 (of_decide_eq_false c_3)
      refine HW.skip (thenQ_normal (?_))
      refine HW.seq ?_
      refine HW.regionA 11 mixed (fun h => (Blk h b_1 (.cells (e_api_Addr a).toArray 27 (0, 0)))) [] (by kernel_rfl) ?_
      refine HA.val (k := 0) (v := .agg (e_api_Addr a).toArray) rfl rfl (by kernel_rfl) (by kernel_rfl) (want_none) rfl (fun _ c201 => q_loadAgg (cs := (e_api_Addr a)) ta_27 rfl rfl (Blk.cells (k := 17) c201 rfl)) ?_
      refine HA.val (k := 1) (v := .int .i64 r0_1) rfl rfl (by kernel_rfl) (by kernel_rfl) (want_none) rfl (fun _ c201 => q_move rfl) ?_
      refine HA.val (k := 4) (v := .agg (e_api_Addr a).toArray) rfl rfl (by kernel_rfl) (by kernel_rfl) (want_none) rfl (fun _ c201 => q_loadAgg (cs := (e_api_Addr a)) ta_27 rfl rfl (Blk.cells (k := 17) c201 rfl)) ?_
      refine HA.val (k := 5) (v := .int .i64 r0_1) rfl rfl (by kernel_rfl) (by kernel_rfl) (want_none) rfl (fun _ c201 => q_move rfl) ?_
      refine HA.val (k := 6) (v := .int .i64 r1_1) rfl rfl (by kernel_rfl) (by kernel_rfl) (want_none) rfl (fun _ c201 => q_move rfl) ?_
      obtain ⟨ho_7, hM⟩ := hM
      refine HA.val (k := 7) (v := .int .i64 (r0_1 + r1_1)) rfl rfl (by kernel_rfl) (by kernel_rfl) (want_none) rfl (fun _ c201 => q_addN _ rfl rfl rfl ho_7.1 ho_7.2) ?_
      refine HA.one (k := 2) ⟨(hS.box 0 rfl), (Go.Wk.at_nil _ _)⟩ (by kernel_rfl) ?_
      refine HS.call rfl (want_none) rfl (ec en_104 rfl rfl) (addr_list_walk (fr := (Ow.box b_1 27 (e_api_Addr a).toArray :: fr)) a 0 r0_1 hS hD hM) ?_
      rintro _ h_9 ⟨F_4, r_3, rfl, hk, hS, hM⟩
      replace hK := hK.trans hk
      obtain ⟨ho_8, hM⟩ := hM
      refine HA.val (k := 3) (v := .string (bs (r_3 ++ ([58, 58] : Str)))) rfl rfl (by kernel_rfl) (by kernel_rfl) (want_none) rfl (fun _ c201 => q_addT rfl rfl ho_8) ?_
      refine HA.one (k := 8) ⟨(hS.box 0 rfl), (Go.Wk.at_nil _ _)⟩ (by kernel_rfl) ?_
      refine HS.call rfl (want_none) rfl (ec en_104 rfl rfl) (addr_list_walk (fr := (Ow.box b_1 27 (e_api_Addr a).toArray :: fr)) a (r0_1 + r1_1) 8 hS hD hM) ?_
      rintro _ h_10 ⟨F_5, r_4, rfl, hk, hS, hM⟩
      replace hK := hK.trans hk
      obtain ⟨ho_9, hM⟩ := hM
      refine HA.val (k := 9) (v := .string (bs ((r_3 ++ ([58, 58] : Str)) ++ r_4))) rfl rfl (by kernel_rfl) (by kernel_rfl) (want_none) rfl (fun _ c201 => q_addT rfl rfl ho_9) ?_
      refine HA.val (k := 10) (v := .string (bs ((r_3 ++ ([58, 58] : Str)) ++ r_4))) rfl rfl (by kernel_rfl) (by kernel_rfl) (want_none) rfl (fun _ c201 => q_assign rfl) ?_
      refine HA.nil ⟨(hS.box 0 rfl), (Go.Wk.at_nil _ _)⟩ (by kernel_rfl) (thenQ_normal (?_))
      refine HW.ret (?_)
      refine ⟨.inr rfl, .string (bs ((r_3 ++ ([58, 58] : Str)) ++ r_4)), res1 rfl (rt rfl), ?_⟩
      replace hS : St F_5 (fr) h_10 := hS.perm2 [] 1 rfl rfl
      exact ⟨F_5, (r_3 ++ ([58, 58] : Str)) ++ r_4, rfl, hK, hS, hM⟩

def addr_Print_W (a : T_api_Addr) (Q : Str → Prop) : Prop :=
  addr_text_W a (fun r_2 => Q r_2)
set_option maxHeartbeats 40000000 in
set_option maxRecDepth 100000 in
theorem addr_Print_walk {F : Fz} {fr : List Ow} {h0 : Heap} (a : T_api_Addr) (hS : St F (fr) h0)  (hD : DM.on = false) {Q : Str → Prop} (hM : addr_Print_W a Q) :
    HC Tryd.prog 89 #[.agg (e_api_Addr a).toArray] h0 fun u h' => ∃ (F' : Fz) (r_1 : Str), u = .string (bs r_1) ∧ Kp F h0 F' h' ∧ St F' (fr) h' ∧ Q r_1 := by
  unfold addr_Print_W at hM
  have hK := Kp.refl F h0
  refine HC.of_HW (n := 5) Tryd.func89 rfl rfl (Nat.le_of_ble_eq_true rfl) ?_
  refine HW.seq ?_
  refine HW.region ?_
  refine HO.eff (want_none) rfl (st_box (c := (e_api_Addr a).toArray) (k' := 17) hS rfl rfl) ?_
  rintro _ h_1 ⟨b_1, rfl, hS, hk⟩
  replace hK := hK.trans hk
  refine HO.val (v := .string (bs [])) (want_none) rfl (q_assign rfl) ?_
  refine HO.nil (thenQ_normal (?_))
  refine HW.seq ?_
  refine HW.region ?_
  refine HO.val (v := .agg (e_api_Addr a).toArray) (want_none) rfl (q_loadAgg (cs := (e_api_Addr a)) ta_27 rfl rfl (Blk.cells (k := 17) (hS.box 0 rfl) rfl)) ?_
  refine HO.call (want_none) rfl (ec en_97 rfl rfl) (addr_text_walk (fr := (Ow.box b_1 27 (e_api_Addr a).toArray :: fr)) a hS hD hM) ?_
  rintro _ h_2 ⟨F_1, r_2, rfl, hk, hS, hM⟩
  replace hK := hK.trans hk
  refine HO.val (v := .string (bs r_2)) (want_none) rfl (q_assign rfl) ?_
  refine HO.nil (thenQ_normal (?_))
  refine HW.ret (?_)
  refine ⟨.inr rfl, .string (bs r_2), res1 rfl (rt rfl), ?_⟩
  replace hS : St F_1 (fr) h_2 := hS.perm2 [] 1 rfl rfl
  exact ⟨F_1, r_2, rfl, hK, hS, hM⟩

def srcs_text_l1 (l : List T_api_Addr) (Q : Str → Prop) (K_1 : (List Str) → Int → Prop) (out_1 : List Str) (n_1 : Int) : Prop :=
  (n_1 < (l.length : Int) → ((0 : Int) ≤ n_1 ∧ n_1 < (l.length : Int)) ∧ (addr_Print_W (gi l n_1) (fun r_2 => ((out_1.length + ([r_2] : List Str).length) * 16 ≤ 140737488355328) ∧ ((I64 (n_1 + 1)) ∧ (K_1 (out_1 ++ ([r_2] : List Str)) (n_1 + 1)))))) ∧ (¬ (n_1 < (l.length : Int)) → ((out_1).length ≤ 140737488355328 ∧ (joinS out_1 ([44] : Str)).length ≤ 140737488355328) ∧ (Q (joinS out_1 ([44] : Str))))
def srcs_text_W (l : List T_api_Addr) (Q : Str → Prop) : Prop :=
  ((l.length : Int) = 0 → Q [45]) ∧ (¬ ((l.length : Int) = 0) → loopW (fun (K_1 : (List Str × Int) → Prop) (s : List Str × Int) => srcs_text_l1 l Q (fun out_1 n_1 => K_1 (out_1, n_1)) s.1 s.2) ([], 0))
set_option maxHeartbeats 40000000 in
set_option maxRecDepth 100000 in
theorem srcs_text_walk {F : Fz} {fr : List Ow} {h0 : Heap} (l : List T_api_Addr) (vl : Value) (hS : St F (fr) h0) (hL_l : SliceF F h0 17 e_api_Addr vl l) (hD : DM.on = false) {Q : Str → Prop} (hM : srcs_text_W l Q) :
    HC Tryd.prog 76 #[vl] h0 fun u h' => ∃ (F' : Fz) (r_1 : Str), u = .string (bs r_1) ∧ Kp F h0 F' h' ∧ St F' (fr) h' ∧ (SliceF F' h' 17 e_api_Addr vl l) ∧ Q r_1 := by
  unfold srcs_text_W at hM
  have hK := Kp.refl F h0
  refine HC.of_HW (n := 23) Tryd.func76 rfl rfl (Nat.le_of_ble_eq_true rfl) ?_
  refine HW.seq ?_
  refine HW.region ?_
  refine HO.val (v := .string (bs [])) (want_none) rfl (q_assign rfl) ?_
  refine HO.nil (thenQ_normal (?_))
  refine HW.seq ?_
  refine HW.seq ?_
  refine HW.region ?_
  refine HO.val (v := vl) (want_none) rfl (q_move rfl) ?_
  refine HO.val (v := .int .i64 (l.length : Int)) (want_none) rfl (q_len ts_22 (shp hL_l.is) rfl rfl) ?_
  refine HO.val (v := .bool (decide ((l.length : Int) = 0))) (want_none) rfl (q_eql rfl rfl) ?_
  refine HO.nil (thenQ_normal (?_))
  refine HW.cond (decide ((l.length : Int) = 0)) rfl (fun c_1 => ?_) (fun c_1 => ?_)
  · replace hM := hM.1 (of_decide_eq_true c_1)
    refine HW.seq ?_
    refine HW.region ?_
    refine HO.val (v := .string (bs [45])) (want_none) rfl (q_assign rfl) ?_
    refine HO.nil (thenQ_normal (?_))
    refine HW.ret (thenQ_ret (?_))
    refine ⟨.inr rfl, .string (bs [45]), res1 rfl (rt rfl), ?_⟩
    exact ⟨F, [45], rfl, hK, hS, hL_l, hM⟩
  · replace hM := hM.2 (of_decide_eq_false c_1)
    refine HW.skip (thenQ_normal (?_))
    refine HW.seq ?_
    refine HW.region ?_
    refine HO.val (v := .slice none 0 0) (want_none) rfl (q_assign rfl) ?_
    refine HO.nil (thenQ_normal (?_))
    refine HW.seq ?_
    refine HW.seq ?_
    refine HW.region ?_
    refine HO.val (v := vl) (want_none) rfl (q_move rfl) ?_
    refine HO.val (v := .int .i64 (l.length : Int)) (want_none) rfl (q_len ts_22 (shp hL_l.is) rfl rfl) ?_
    refine HO.val (v := .int .i64 0) (want_none) rfl (q_move rfl) ?_
    refine HO.nil (thenQ_normal (?_))
    refine HW.block ?_
    obtain ⟨I_1, m_1, hI_1, hR_1⟩ := hM
    replace hS := hS.nilOwn 9 1 encT
    refine HW.loop (S := List Str × Int) (fun s f h => match s with | (out_1, n_1) => ∃ (F' : Fz) (vout_1 : Value), f 2 = .string (bs []) ∧ f 3 = vout_1 ∧ f 9 = vl ∧ f 10 = .int .i64 (l.length : Int) ∧ f 11 = .int .i64 n_1 ∧ Kp F h0 F' h ∧ St F' (Ow.own 9 1 encT vout_1 out_1 :: fr) h ∧ (SliceF F' h 17 e_api_Addr vl l) ∧ I_1 (out_1, n_1)) m_1 ([], 0) ⟨F, .slice none 0 0, rfl, rfl, rfl, rfl, rfl, hK, hS, hL_l, hI_1⟩ ?_
    rintro ⟨out_1, n_1⟩ f_1 h_1 ⟨F_1, vout_1, e2, e3, e9, e10, e11, hK, hS, hL_l, hI0⟩
    obtain ⟨K_1, hKe_1⟩ : ∃ K : (List Str) → Int → Prop, K = fun out_1' n_1' => I_1 (out_1', n_1') ∧ m_1 (out_1', n_1') < m_1 (out_1, n_1) := ⟨_, rfl⟩
    have hM : srcs_text_l1 l Q K_1 out_1 n_1 := by rw [hKe_1]; exact hR_1 (out_1, n_1) hI0
    unfold srcs_text_l1 at hM
    refine HW.fr [(2, .string (bs [])), (3, vout_1), (9, vl), (10, .int .i64 (l.length : Int)), (11, .int .i64 n_1)] ⟨e2, e3, e9, e10, e11, trivial⟩ ?_
    refine HW.seq ?_
    refine HW.region ?_
    refine HO.val (v := .bool (decide (n_1 < (l.length : Int)))) (want_none) rfl (q_lss rfl rfl) ?_
    refine HO.nil (thenQ_normal (?_))
    refine HW.seq ?_
    refine HW.cond (decide (n_1 < (l.length : Int))) rfl (fun c_2 => ?_) (fun c_2 => ?_)
    · replace hM := hM.1 (of_decide_eq_true c_2)
      refine HW.skip (thenQ_normal (?_))
      refine HW.seq ?_
      refine HW.block ?_
      refine HW.seq ?_
      refine HW.region ?_
      obtain ⟨ho_1, hM⟩ := hM
      refine HO.val (v := elemPtr 17 vl (n_1).toNat) (want_none) rfl (q_idx ts_22 hL_l.is rfl rfl ho_1) ?_
      refine HO.val (v := .agg (e_api_Addr (gi l n_1)).toArray) (want_none) rfl (q_ldElemAgg (cs := (e_api_Addr (gi l n_1))) ta_27 hL_l.is rfl ho_1 rfl) ?_
      refine HO.eff (want_none) rfl (st_alloc (c := (e_api_Addr (false, (default : Ba 16))).toArray) hS tz_27 rfl) ?_
      rintro _ h_2 ⟨b_1, rfl, hS, hk⟩
      replace hK := hK.trans hk
      replace hL_l := hL_l.kp hk
      refine HO.sto (want_none) rfl (st_storeAgg (c' := (e_api_Addr (gi l n_1)).toArray) hS (i := 0) rfl ta_27 rfl rfl rfl (one_e_api_Addr _) (Nat.le_of_ble_eq_true rfl) rfl) ?_
      rintro h_3 ⟨hS, hk⟩
      replace hS : St F_1 (Ow.box b_1 27 (e_api_Addr (gi l n_1)).toArray :: Ow.own 9 1 encT vout_1 out_1 :: fr) h_3 := hS
      replace hK := hK.trans hk
      replace hL_l := hL_l.kp hk
      refine HO.nil (thenQ_normal (?_))
      refine HW.region ?_
      refine HO.val (v := vout_1) (want_none) rfl (q_move rfl) ?_
      refine HO.val (v := .agg (e_api_Addr (gi l n_1)).toArray) (want_none) rfl (q_loadAgg (cs := (e_api_Addr (gi l n_1))) ta_27 rfl rfl (Blk.cells (k := 17) (hS.box 0 rfl) rfl)) ?_
      refine HO.call (want_none) rfl (ec en_89 rfl rfl) (addr_Print_walk (fr := (Ow.box b_1 27 (e_api_Addr (gi l n_1)).toArray :: Ow.own 9 1 encT vout_1 out_1 :: fr)) (gi l n_1) hS hD hM) ?_
      rintro _ h_4 ⟨F_2, r_2, rfl, hk, hS, hM⟩
      replace hK := hK.trans hk
      replace hL_l := hL_l.kp hk
      refine HO.eff (want_none) rfl (st_lit (enc := encT) (cells := #[.string (bs r_2)]) #[.string (bs [])] ([r_2] : List Str) hS tl_97 (by decide) (by decide) (by kernel_rfl) (by kernel_rfl) rfl (by intro x hx; rfl) rfl) ?_
      rintro _ h_5 ⟨b_2, rfl, hS, hk⟩
      replace hK := hK.trans hk
      replace hL_l := hL_l.kp hk
      obtain ⟨ho_2, hM⟩ := hM
      refine HO.eff (want_none) rfl (st_append te_97 hS (i := 2) rfl (hS.own 0 rfl).slice rfl rfl rfl (by intro a _ u hu; simp [encT, encI, encN, encB, encT] at hu; subst hu; rfl) ho_2 (by omega)) ?_
      rintro v_1 h_6 ⟨hS, hk⟩
      replace hS : St F_2 (Ow.own 9 1 encT (.slice (some ⟨b_2, 0, none⟩) 1 1) ([r_2] : List Str) :: Ow.box b_1 27 (e_api_Addr (gi l n_1)).toArray :: Ow.own 9 1 encT v_1 (out_1 ++ ([r_2] : List Str)) :: fr) h_6 := hS
      replace hK := hK.trans hk
      replace hL_l := hL_l.kp hk
      refine HO.val (v := v_1) (want_none) rfl (q_assign rfl) ?_
      refine HO.nil (blockQ_normal (thenQ_normal (?_)))
      refine HW.region ?_
      obtain ⟨ho_3, hM⟩ := hM
      refine HO.val (v := .int .i64 (n_1 + 1)) (want_none) rfl (q_addN _ rfl rfl rfl ho_3.1 ho_3.2) ?_
      refine HO.val (v := .int .i64 (n_1 + 1)) (want_none) rfl (q_move rfl) ?_
      refine HO.nil (thenQ_normal (?_))
      replace hS : St F_2 (Ow.own 9 1 encT v_1 (out_1 ++ ([r_2] : List Str)) :: fr) h_6 := hS.perm2 [2] 3 rfl rfl
      rw [hKe_1] at hM
      exact ⟨(out_1 ++ ([r_2] : List Str), n_1 + 1), ⟨F_2, v_1, rfl, rfl, rfl, rfl, rfl, hK, hS, hL_l, hM.1⟩, hM.2⟩
    · replace hM := hM.2 (of_decide_eq_false c_2)
      refine HW.exit (thenQ_exit (thenQ_exit (blockQ_exit (thenQ_normal (?_)))))
      refine HW.seq ?_
      refine HW.region ?_
      refine HO.val (v := vout_1) (want_none) rfl (q_move rfl) ?_
      obtain ⟨ho_4, hM⟩ := hM
      refine HO.call (want_none) rfl (ec en_90 rfl rfl) (strJoin_hc hD Tryd.join Tryd.joinX ([44] : Str) hS (hS.own 0 rfl).slice ho_4.1 ho_4.2) ?_
      rintro _ h_7 ⟨rfl, hS, hk⟩
      replace hK := hK.trans hk
      replace hL_l := hL_l.kp hk
      refine HO.val (v := .string (bs (joinS out_1 ([44] : Str)))) (want_none) rfl (q_assign rfl) ?_
      refine HO.nil (thenQ_normal (?_))
      refine HW.ret (?_)
      refine ⟨.inr rfl, .string (bs (joinS out_1 ([44] : Str))), res1 rfl (rt rfl), ?_⟩
      replace hS : St F_1 (fr) h_7 := hS.perm2 [] 1 rfl rfl
      exact ⟨F_1, joinS out_1 ([44] : Str), rfl, hK, hS, hL_l, hM⟩

def srcs_Print_W (l : List T_api_Addr) (Q : Str → Prop) : Prop :=
  srcs_text_W l (fun r_2 => Q r_2)
set_option maxHeartbeats 40000000 in
set_option maxRecDepth 100000 in
theorem srcs_Print_walk {F : Fz} {fr : List Ow} {h0 : Heap} (l : List T_api_Addr) (vl : Value) (hS : St F (fr) h0) (hL_l : SliceF F h0 17 e_api_Addr vl l) (hD : DM.on = false) {Q : Str → Prop} (hM : srcs_Print_W l Q) :
    HC Tryd.prog 63 #[vl] h0 fun u h' => ∃ (F' : Fz) (r_1 : Str), u = .string (bs r_1) ∧ Kp F h0 F' h' ∧ St F' (fr) h' ∧ (SliceF F' h' 17 e_api_Addr vl l) ∧ Q r_1 := by
  unfold srcs_Print_W at hM
  have hK := Kp.refl F h0
  refine HC.of_HW (n := 5) Tryd.func63 rfl rfl (Nat.le_of_ble_eq_true rfl) ?_
  refine HW.seq ?_
  refine HW.region ?_
  refine HO.val (v := .string (bs [])) (want_none) rfl (q_assign rfl) ?_
  refine HO.nil (thenQ_normal (?_))
  refine HW.seq ?_
  refine HW.region ?_
  refine HO.val (v := vl) (want_none) rfl (q_move rfl) ?_
  refine HO.call (want_none) rfl (ec en_76 rfl rfl) (srcs_text_walk (fr := (fr)) l vl hS hL_l hD hM) ?_
  rintro _ h_1 ⟨F_1, r_2, rfl, hk, hS, _, hM⟩
  replace hK := hK.trans hk
  replace hL_l := hL_l.kp hk
  refine HO.val (v := .string (bs r_2)) (want_none) rfl (q_assign rfl) ?_
  refine HO.nil (thenQ_normal (?_))
  refine HW.ret (?_)
  refine ⟨.inr rfl, .string (bs r_2), res1 rfl (rt rfl), ?_⟩
  exact ⟨F_1, r_2, rfl, hK, hS, hL_l, hM⟩

def law11_lives_W (Q : Bool → Prop) : Prop :=
  law11_four_W 2 (fun r_2 => law11_four_W 1 (fun r_3 => law11_four_W 2 (fun r_4 => srcs_Of_W ([r_2, r_3, r_4] : List T_api_Addr) (fun r_5 => ((r_5.length : Int) = 2 → ((0 : Int) ≤ 0 ∧ 0 < (r_5.length : Int)) ∧ (law11_four_W 1 (fun r_6 => (((gi r_5 0) : T_api_Addr) = r_6 → law11_four_W 2 (fun r_7 => srcs_Has_W r_5 r_7 (fun r_8 => (r_8 = true → law11_four_W 3 (fun r_9 => srcs_Has_W r_5 r_9 (fun r_10 => ((!r_10) = true → srcs_Print_W r_5 (fun r_11 => Q (decide ((r_11 : Str) = [49, 48, 46, 48, 46, 48, 46, 49, 44, 49, 48, 46, 48, 46, 48, 46, 50])))) ∧ ((!r_10) = false → Q false)))) ∧ (r_8 = false → Q false)))) ∧ (¬ (((gi r_5 0) : T_api_Addr) = r_6) → Q false)))) ∧ (¬ ((r_5.length : Int) = 2) → Q false)))))
set_option maxHeartbeats 40000000 in
set_option maxRecDepth 100000 in
theorem law11_lives_walk {F : Fz} {fr : List Ow} {h0 : Heap}  (hS : St F (fr) h0)  (hD : DM.on = false) {Q : Bool → Prop} (hM : law11_lives_W Q) :
    HC Tryd.prog 39 #[] h0 fun u h' => ∃ (F' : Fz) (r_1 : Bool), u = .bool r_1 ∧ Kp F h0 F' h' ∧ St F' (fr) h' ∧ Q r_1 := by
  unfold law11_lives_W at hM
  have hK := Kp.refl F h0
  refine HC.of_HW (n := 33) Tryd.func39 rfl rfl (Nat.le_of_ble_eq_true rfl) ?_
  refine HW.seq ?_
  refine HW.region ?_
  refine HO.val (v := .bool false) (want_none) rfl (q_assign rfl) ?_
  refine HO.nil (thenQ_normal (?_))
  refine HW.seq ?_
  refine HW.region ?_
  refine HO.call (want_none) rfl (ec en_62 rfl rfl) (law11_four_walk (fr := (fr)) 2 hS hM) ?_
  rintro _ h_1 ⟨F_1, r_2, rfl, hk, hS, hM⟩
  replace hK := hK.trans hk
  refine HO.call (want_none) rfl (ec en_62 rfl rfl) (law11_four_walk (fr := (fr)) 1 hS hM) ?_
  rintro _ h_2 ⟨F_2, r_3, rfl, hk, hS, hM⟩
  replace hK := hK.trans hk
  refine HO.call (want_none) rfl (ec en_62 rfl rfl) (law11_four_walk (fr := (fr)) 2 hS hM) ?_
  rintro _ h_3 ⟨F_3, r_4, rfl, hk, hS, hM⟩
  replace hK := hK.trans hk
  refine HO.eff (want_none) rfl (st_lit (enc := e_api_Addr) (cells := #[.bool r_2.1, .int .u8 (b8 r_2.2 0), .int .u8 (b8 r_2.2 1), .int .u8 (b8 r_2.2 2), .int .u8 (b8 r_2.2 3), .int .u8 (b8 r_2.2 4), .int .u8 (b8 r_2.2 5), .int .u8 (b8 r_2.2 6), .int .u8 (b8 r_2.2 7), .int .u8 (b8 r_2.2 8), .int .u8 (b8 r_2.2 9), .int .u8 (b8 r_2.2 10), .int .u8 (b8 r_2.2 11), .int .u8 (b8 r_2.2 12), .int .u8 (b8 r_2.2 13), .int .u8 (b8 r_2.2 14), .int .u8 (b8 r_2.2 15), .bool r_3.1, .int .u8 (b8 r_3.2 0), .int .u8 (b8 r_3.2 1), .int .u8 (b8 r_3.2 2), .int .u8 (b8 r_3.2 3), .int .u8 (b8 r_3.2 4), .int .u8 (b8 r_3.2 5), .int .u8 (b8 r_3.2 6), .int .u8 (b8 r_3.2 7), .int .u8 (b8 r_3.2 8), .int .u8 (b8 r_3.2 9), .int .u8 (b8 r_3.2 10), .int .u8 (b8 r_3.2 11), .int .u8 (b8 r_3.2 12), .int .u8 (b8 r_3.2 13), .int .u8 (b8 r_3.2 14), .int .u8 (b8 r_3.2 15), .bool r_4.1, .int .u8 (b8 r_4.2 0), .int .u8 (b8 r_4.2 1), .int .u8 (b8 r_4.2 2), .int .u8 (b8 r_4.2 3), .int .u8 (b8 r_4.2 4), .int .u8 (b8 r_4.2 5), .int .u8 (b8 r_4.2 6), .int .u8 (b8 r_4.2 7), .int .u8 (b8 r_4.2 8), .int .u8 (b8 r_4.2 9), .int .u8 (b8 r_4.2 10), .int .u8 (b8 r_4.2 11), .int .u8 (b8 r_4.2 12), .int .u8 (b8 r_4.2 13), .int .u8 (b8 r_4.2 14), .int .u8 (b8 r_4.2 15)]) #[.bool false, .int .u8 0, .int .u8 0, .int .u8 0, .int .u8 0, .int .u8 0, .int .u8 0, .int .u8 0, .int .u8 0, .int .u8 0, .int .u8 0, .int .u8 0, .int .u8 0, .int .u8 0, .int .u8 0, .int .u8 0, .int .u8 0, .bool false, .int .u8 0, .int .u8 0, .int .u8 0, .int .u8 0, .int .u8 0, .int .u8 0, .int .u8 0, .int .u8 0, .int .u8 0, .int .u8 0, .int .u8 0, .int .u8 0, .int .u8 0, .int .u8 0, .int .u8 0, .int .u8 0, .bool false, .int .u8 0, .int .u8 0, .int .u8 0, .int .u8 0, .int .u8 0, .int .u8 0, .int .u8 0, .int .u8 0, .int .u8 0, .int .u8 0, .int .u8 0, .int .u8 0, .int .u8 0, .int .u8 0, .int .u8 0, .int .u8 0] ([r_2, r_3, r_4] : List T_api_Addr) hS tl_22 (by decide) (by decide) (by kernel_rfl) (by kernel_rfl) rfl (by intro x hx; rfl) rfl) ?_
  rintro _ h_4 ⟨b_1, rfl, hS, hk⟩
  replace hK := hK.trans hk
  have hZ_1 := hS
  have hkz_1 := (hS.freeze).2
  replace hS := hS.freeze.1
  have hL_1 : SliceF (fun b => F_3 b ∨ (Ow.own 27 17 e_api_Addr (.slice (some ⟨b_1, 0, none⟩) 3 3) ([r_2, r_3, r_4] : List T_api_Addr)).foot b) h_4 17 e_api_Addr (.slice (some ⟨b_1, 0, none⟩) 3 3) ([r_2, r_3, r_4] : List T_api_Addr) := ⟨(hZ_1.own 0 rfl).slice, fun _ b hb => .inr hb⟩
  refine HO.call (want_none) rfl (ec en_35 rfl rfl) (srcs_Of_walk (fr := (fr)) ([r_2, r_3, r_4] : List T_api_Addr) (.slice (some ⟨b_1, 0, none⟩) 3 3) hS hL_1 hM) ?_
  rintro vr_1 h_5 ⟨F_4, r_5, _, rfl, hk, hS, _, hM⟩
  obtain ⟨hS, hk⟩ := hZ_1.back hk hS
  generalize (fun b => F_4 b ∧ ¬ (Ow.own 27 17 e_api_Addr (.slice (some ⟨b_1, 0, none⟩) 3 3) ([r_2, r_3, r_4] : List T_api_Addr)).foot b) = F_5 at hS hk
  replace hK := hK.trans hk
  refine HO.val (v := vr_1) (want_none) rfl (q_assign rfl) ?_
  refine HO.nil (thenQ_normal (?_))
  refine HW.seq ?_
  refine HW.regionA 27 mixed (fun h => (OwnIs h 0 27 17 e_api_Addr vr_1 r_5)) [] (by kernel_rfl) ?_
  refine HA.val (k := 0) (v := vr_1) rfl rfl (by kernel_rfl) (by kernel_rfl) (want_none) rfl (fun _ c202 => q_move rfl) ?_
  refine HA.val (k := 1) (v := .int .i64 (r_5.length : Int)) rfl rfl (by kernel_rfl) (by kernel_rfl) (want_none) rfl (fun _ c202 => q_len ts_22 (shp c202.slice) rfl rfl) ?_
  refine HA.val (k := 2) (v := .bool (decide ((r_5.length : Int) = 2))) rfl rfl (by kernel_rfl) (by kernel_rfl) (want_none) rfl (fun _ c202 => q_eql rfl rfl) ?_
  refine HA.val (k := 3) (v := .bool (decide ((r_5.length : Int) = 2))) rfl rfl (by kernel_rfl) (by kernel_rfl) (want_none) rfl (fun _ c202 => q_move rfl) ?_
  rcases Bool.eq_false_or_eq_true (decide ((r_5.length : Int) = 2)) with c_1 | c_1
  · replace hM := hM.1 (of_decide_eq_true c_1)
    refine HA.val (k := 4) (v := vr_1) rfl rfl (by kernel_rfl) (by kernel_rfl) (want_by rfl rfl c_1) rfl (fun _ c202 => q_move rfl) ?_
    obtain ⟨ho_1, hM⟩ := hM
    refine HA.val (k := 5) (v := elemPtr 17 vr_1 (0 : Int).toNat) rfl rfl (by kernel_rfl) (by kernel_rfl) (want_by rfl rfl c_1) rfl (fun _ c202 => q_idx ts_22 c202.slice rfl rfl ho_1) ?_
    refine HA.val (k := 6) (v := .agg (e_api_Addr (gi r_5 0)).toArray) rfl rfl (by kernel_rfl) (by kernel_rfl) (want_by rfl rfl c_1) rfl (fun _ c202 => q_ldElemAgg (cs := (e_api_Addr (gi r_5 0))) ta_27 c202.slice rfl ho_1 rfl) ?_
    refine HA.one (k := 7) ⟨(hS.own 1 rfl), (Go.Wk.at_nil _ _)⟩ (by kernel_rfl) ?_
    refine HS.call rfl (want_by rfl rfl c_1) rfl (ec en_62 rfl rfl) (law11_four_walk (fr := (Ow.own 27 17 e_api_Addr (.slice (some ⟨b_1, 0, none⟩) 3 3) ([r_2, r_3, r_4] : List T_api_Addr) :: Ow.own 27 17 e_api_Addr vr_1 r_5 :: fr)) 1 hS hM) ?_
    rintro _ h_6 ⟨F_6, r_6, rfl, hk, hS, hM⟩
    replace hK := hK.trans hk
    refine HA.val (k := 8) (v := .bool (decide (((gi r_5 0) : T_api_Addr) = r_6))) rfl rfl (by kernel_rfl) (by kernel_rfl) (want_by rfl rfl c_1) rfl (fun _ c202 => q_eqlAgg (a := (gi r_5 0)) (b := r_6) (fun a b w => teq_27 9997 a b w) (by kernel_rfl) rfl rfl rfl rfl) ?_
    refine HA.val (k := 9) (v := .bool (decide (((gi r_5 0) : T_api_Addr) = r_6))) rfl rfl (by kernel_rfl) (by kernel_rfl) (want_none) rfl (fun _ c202 => q_pickK true rfl c_1 rfl) ?_
    refine HA.val (k := 10) (v := .bool (decide (((gi r_5 0) : T_api_Addr) = r_6))) rfl rfl (by kernel_rfl) (by kernel_rfl) (want_none) rfl (fun _ c202 => q_move rfl) ?_
    rcases Bool.eq_false_or_eq_true (decide (((gi r_5 0) : T_api_Addr) = r_6)) with c_2 | c_2
    · replace hM := hM.1 (of_decide_eq_true c_2)
      refine HA.val (k := 11) (v := vr_1) rfl rfl (by kernel_rfl) (by kernel_rfl) (want_by rfl rfl c_2) rfl (fun _ c202 => q_move rfl) ?_
      refine HA.one (k := 12) ⟨(hS.own 1 rfl), (Go.Wk.at_nil _ _)⟩ (by kernel_rfl) ?_
      refine HS.call rfl (want_by rfl rfl c_2) rfl (ec en_62 rfl rfl) (law11_four_walk (fr := (Ow.own 27 17 e_api_Addr (.slice (some ⟨b_1, 0, none⟩) 3 3) ([r_2, r_3, r_4] : List T_api_Addr) :: Ow.own 27 17 e_api_Addr vr_1 r_5 :: fr)) 2 hS hM) ?_
      rintro _ h_7 ⟨F_7, r_7, rfl, hk, hS, hM⟩
      replace hK := hK.trans hk
      refine HA.one (k := 13) ⟨(hS.own 1 rfl), (Go.Wk.at_nil _ _)⟩ (by kernel_rfl) ?_
      replace hS : St F_7 (Ow.own 27 17 e_api_Addr vr_1 r_5 :: Ow.own 27 17 e_api_Addr (.slice (some ⟨b_1, 0, none⟩) 3 3) ([r_2, r_3, r_4] : List T_api_Addr) :: fr) h_7 := hS.perm2 [1, 0] 2 rfl rfl
      have hZ_2 := hS
      have hkz_2 := (hS.freeze).2
      replace hS := hS.freeze.1
      have hL_2 : SliceF (fun b => F_7 b ∨ (Ow.own 27 17 e_api_Addr vr_1 r_5).foot b) h_7 17 e_api_Addr vr_1 r_5 := ⟨(hZ_2.own 0 rfl).slice, fun _ b hb => .inr hb⟩
      refine HS.call rfl (want_by rfl rfl c_2) rfl (ec en_37 rfl rfl) (srcs_Has_walk (fr := (Ow.own 27 17 e_api_Addr (.slice (some ⟨b_1, 0, none⟩) 3 3) ([r_2, r_3, r_4] : List T_api_Addr) :: fr)) r_5 r_7 vr_1 hS hL_2 hM) ?_
      rintro _ h_8 ⟨F_8, r_8, rfl, hk, hS, _, hM⟩
      obtain ⟨hS, hk⟩ := hZ_2.back hk hS
      generalize (fun b => F_8 b ∧ ¬ (Ow.own 27 17 e_api_Addr vr_1 r_5).foot b) = F_9 at hS hk
      replace hK := hK.trans hk
      refine HA.val (k := 14) (v := .bool r_8) rfl rfl (by kernel_rfl) (by kernel_rfl) (want_none) rfl (fun _ c202 => q_pickK true rfl c_2 rfl) ?_
      refine HA.val (k := 15) (v := .bool r_8) rfl rfl (by kernel_rfl) (by kernel_rfl) (want_none) rfl (fun _ c202 => q_move rfl) ?_
      rcases Bool.eq_false_or_eq_true r_8 with c_3 | c_3
      · replace hM := hM.1 c_3
        refine HA.val (k := 16) (v := vr_1) rfl rfl (by kernel_rfl) (by kernel_rfl) (want_by rfl rfl c_3) rfl (fun _ c202 => q_move rfl) ?_
        refine HA.one (k := 17) ⟨(hS.own 0 rfl), (Go.Wk.at_nil _ _)⟩ (by kernel_rfl) ?_
        refine HS.call rfl (want_by rfl rfl c_3) rfl (ec en_62 rfl rfl) (law11_four_walk (fr := (Ow.own 27 17 e_api_Addr vr_1 r_5 :: Ow.own 27 17 e_api_Addr (.slice (some ⟨b_1, 0, none⟩) 3 3) ([r_2, r_3, r_4] : List T_api_Addr) :: fr)) 3 hS hM) ?_
        rintro _ h_9 ⟨F_10, r_9, rfl, hk, hS, hM⟩
        replace hK := hK.trans hk
        refine HA.one (k := 18) ⟨(hS.own 0 rfl), (Go.Wk.at_nil _ _)⟩ (by kernel_rfl) ?_
        have hZ_3 := hS
        have hkz_3 := (hS.freeze).2
        replace hS := hS.freeze.1
        have hL_3 : SliceF (fun b => F_10 b ∨ (Ow.own 27 17 e_api_Addr vr_1 r_5).foot b) h_9 17 e_api_Addr vr_1 r_5 := ⟨(hZ_3.own 0 rfl).slice, fun _ b hb => .inr hb⟩
        refine HS.call rfl (want_by rfl rfl c_3) rfl (ec en_37 rfl rfl) (srcs_Has_walk (fr := (Ow.own 27 17 e_api_Addr (.slice (some ⟨b_1, 0, none⟩) 3 3) ([r_2, r_3, r_4] : List T_api_Addr) :: fr)) r_5 r_9 vr_1 hS hL_3 hM) ?_
        rintro _ h_10 ⟨F_11, r_10, rfl, hk, hS, _, hM⟩
        obtain ⟨hS, hk⟩ := hZ_3.back hk hS
        generalize (fun b => F_11 b ∧ ¬ (Ow.own 27 17 e_api_Addr vr_1 r_5).foot b) = F_12 at hS hk
        replace hK := hK.trans hk
        refine HA.val (k := 19) (v := .bool (!r_10)) rfl rfl (by kernel_rfl) (by kernel_rfl) (want_by rfl rfl c_3) rfl (fun _ c202 => q_not rfl) ?_
        refine HA.val (k := 20) (v := .bool (!r_10)) rfl rfl (by kernel_rfl) (by kernel_rfl) (want_none) rfl (fun _ c202 => q_pickK true rfl c_3 rfl) ?_
        refine HA.val (k := 21) (v := .bool (!r_10)) rfl rfl (by kernel_rfl) (by kernel_rfl) (want_none) rfl (fun _ c202 => q_move rfl) ?_
        rcases Bool.eq_false_or_eq_true (!r_10) with c_4 | c_4
        · replace hM := hM.1 c_4
          refine HA.val (k := 22) (v := vr_1) rfl rfl (by kernel_rfl) (by kernel_rfl) (want_by rfl rfl c_4) rfl (fun _ c202 => q_move rfl) ?_
          refine HA.one (k := 23) ⟨(hS.own 0 rfl), (Go.Wk.at_nil _ _)⟩ (by kernel_rfl) ?_
          have hZ_4 := hS
          have hkz_4 := (hS.freeze).2
          replace hS := hS.freeze.1
          have hL_4 : SliceF (fun b => F_12 b ∨ (Ow.own 27 17 e_api_Addr vr_1 r_5).foot b) h_10 17 e_api_Addr vr_1 r_5 := ⟨(hZ_4.own 0 rfl).slice, fun _ b hb => .inr hb⟩
          refine HS.call rfl (want_by rfl rfl c_4) rfl (ec en_63 rfl rfl) (srcs_Print_walk (fr := (Ow.own 27 17 e_api_Addr (.slice (some ⟨b_1, 0, none⟩) 3 3) ([r_2, r_3, r_4] : List T_api_Addr) :: fr)) r_5 vr_1 hS hL_4 hD hM) ?_
          rintro _ h_11 ⟨F_13, r_11, rfl, hk, hS, _, hM⟩
          obtain ⟨hS, hk⟩ := hZ_4.back hk hS
          generalize (fun b => F_13 b ∧ ¬ (Ow.own 27 17 e_api_Addr vr_1 r_5).foot b) = F_14 at hS hk
          replace hK := hK.trans hk
          refine HA.val (k := 24) (v := .bool (decide ((r_11 : Str) = [49, 48, 46, 48, 46, 48, 46, 49, 44, 49, 48, 46, 48, 46, 48, 46, 50]))) rfl rfl (by kernel_rfl) (by kernel_rfl) (want_by rfl rfl c_4) rfl (fun _ c202 => q_eqlT rfl rfl) ?_
          refine HA.val (k := 25) (v := .bool (decide ((r_11 : Str) = [49, 48, 46, 48, 46, 48, 46, 49, 44, 49, 48, 46, 48, 46, 48, 46, 50]))) rfl rfl (by kernel_rfl) (by kernel_rfl) (want_none) rfl (fun _ c202 => q_pickK true rfl c_4 rfl) ?_
          refine HA.val (k := 26) (v := .bool (decide ((r_11 : Str) = [49, 48, 46, 48, 46, 48, 46, 49, 44, 49, 48, 46, 48, 46, 48, 46, 50]))) rfl rfl (by kernel_rfl) (by kernel_rfl) (want_none) rfl (fun _ c202 => q_assign rfl) ?_
          refine HA.nil ⟨(hS.own 0 rfl), (Go.Wk.at_nil _ _)⟩ (by kernel_rfl) (thenQ_normal (?_))
          refine HW.ret (?_)
          refine ⟨.inr rfl, .bool (decide ((r_11 : Str) = [49, 48, 46, 48, 46, 48, 46, 49, 44, 49, 48, 46, 48, 46, 48, 46, 50])), res1 rfl (rt rfl), ?_⟩
          replace hS : St F_14 (fr) h_11 := hS.perm2 [] 2 rfl rfl
          exact ⟨F_14, decide ((r_11 : Str) = [49, 48, 46, 48, 46, 48, 46, 49, 44, 49, 48, 46, 48, 46, 48, 46, 50]), rfl, hK, hS, hM⟩
        · replace hM := hM.2 c_4
          refine HA.past (k := 22) rfl rfl (by kernel_rfl) (by kernel_rfl) (past_by rfl rfl c_4) rfl ?_
          refine HA.one (k := 23) ⟨(hS.own 0 rfl), (Go.Wk.at_nil _ _)⟩ (by kernel_rfl) ?_
          refine HS.past rfl (past_by rfl rfl c_4) rfl ?_
          refine HA.past (k := 24) rfl rfl (by kernel_rfl) (by kernel_rfl) (past_by rfl rfl c_4) rfl ?_
          refine HA.val (k := 25) (v := .bool false) rfl rfl (by kernel_rfl) (by kernel_rfl) (want_none) rfl (fun _ c202 => q_pickK false rfl c_4 rfl) ?_
          refine HA.val (k := 26) (v := .bool false) rfl rfl (by kernel_rfl) (by kernel_rfl) (want_none) rfl (fun _ c202 => q_assign rfl) ?_
          refine HA.nil ⟨(hS.own 0 rfl), (Go.Wk.at_nil _ _)⟩ (by kernel_rfl) (thenQ_normal (?_))
          refine HW.ret (?_)
          refine ⟨.inr rfl, .bool false, res1 rfl (rt rfl), ?_⟩
          replace hS : St F_12 (fr) h_10 := hS.perm2 [] 2 rfl rfl
          exact ⟨F_12, false, rfl, hK, hS, hM⟩
      · replace hM := hM.2 c_3
        refine HA.past (k := 16) rfl rfl (by kernel_rfl) (by kernel_rfl) (past_by rfl rfl c_3) rfl ?_
        refine HA.one (k := 17) ⟨(hS.own 0 rfl), (Go.Wk.at_nil _ _)⟩ (by kernel_rfl) ?_
        refine HS.past rfl (past_by rfl rfl c_3) rfl ?_
        refine HA.one (k := 18) ⟨(hS.own 0 rfl), (Go.Wk.at_nil _ _)⟩ (by kernel_rfl) ?_
        refine HS.past rfl (past_by rfl rfl c_3) rfl ?_
        refine HA.past (k := 19) rfl rfl (by kernel_rfl) (by kernel_rfl) (past_by rfl rfl c_3) rfl ?_
        refine HA.val (k := 20) (v := .bool false) rfl rfl (by kernel_rfl) (by kernel_rfl) (want_none) rfl (fun _ c202 => q_pickK false rfl c_3 rfl) ?_
        refine HA.val (k := 21) (v := .bool false) rfl rfl (by kernel_rfl) (by kernel_rfl) (want_none) rfl (fun _ c202 => q_move rfl) ?_
        refine HA.past (k := 22) rfl rfl (by kernel_rfl) (by kernel_rfl) (past_some rfl rfl) rfl ?_
        refine HA.one (k := 23) ⟨(hS.own 0 rfl), (Go.Wk.at_nil _ _)⟩ (by kernel_rfl) ?_
        refine HS.past rfl (past_some rfl rfl) rfl ?_
        refine HA.past (k := 24) rfl rfl (by kernel_rfl) (by kernel_rfl) (past_some rfl rfl) rfl ?_
        refine HA.val (k := 25) (v := .bool false) rfl rfl (by kernel_rfl) (by kernel_rfl) (want_none) rfl (fun _ c202 => q_pick rfl rfl) ?_
        refine HA.val (k := 26) (v := .bool false) rfl rfl (by kernel_rfl) (by kernel_rfl) (want_none) rfl (fun _ c202 => q_assign rfl) ?_
        refine HA.nil ⟨(hS.own 0 rfl), (Go.Wk.at_nil _ _)⟩ (by kernel_rfl) (thenQ_normal (?_))
        refine HW.ret (?_)
        refine ⟨.inr rfl, .bool false, res1 rfl (rt rfl), ?_⟩
        replace hS : St F_9 (fr) h_8 := hS.perm2 [] 2 rfl rfl
        exact ⟨F_9, false, rfl, hK, hS, hM⟩
    · replace hM := hM.2 (of_decide_eq_false c_2)
      refine HA.past (k := 11) rfl rfl (by kernel_rfl) (by kernel_rfl) (past_by rfl rfl c_2) rfl ?_
      refine HA.one (k := 12) ⟨(hS.own 1 rfl), (Go.Wk.at_nil _ _)⟩ (by kernel_rfl) ?_
      refine HS.past rfl (past_by rfl rfl c_2) rfl ?_
      refine HA.one (k := 13) ⟨(hS.own 1 rfl), (Go.Wk.at_nil _ _)⟩ (by kernel_rfl) ?_
      refine HS.past rfl (past_by rfl rfl c_2) rfl ?_
      refine HA.val (k := 14) (v := .bool false) rfl rfl (by kernel_rfl) (by kernel_rfl) (want_none) rfl (fun _ c202 => q_pickK false rfl c_2 rfl) ?_
      refine HA.val (k := 15) (v := .bool false) rfl rfl (by kernel_rfl) (by kernel_rfl) (want_none) rfl (fun _ c202 => q_move rfl) ?_
      refine HA.past (k := 16) rfl rfl (by kernel_rfl) (by kernel_rfl) (past_some rfl rfl) rfl ?_
      refine HA.one (k := 17) ⟨(hS.own 1 rfl), (Go.Wk.at_nil _ _)⟩ (by kernel_rfl) ?_
      refine HS.past rfl (past_some rfl rfl) rfl ?_
      refine HA.one (k := 18) ⟨(hS.own 1 rfl), (Go.Wk.at_nil _ _)⟩ (by kernel_rfl) ?_
      refine HS.past rfl (past_some rfl rfl) rfl ?_
      refine HA.past (k := 19) rfl rfl (by kernel_rfl) (by kernel_rfl) (past_some rfl rfl) rfl ?_
      refine HA.val (k := 20) (v := .bool false) rfl rfl (by kernel_rfl) (by kernel_rfl) (want_none) rfl (fun _ c202 => q_pick rfl rfl) ?_
      refine HA.val (k := 21) (v := .bool false) rfl rfl (by kernel_rfl) (by kernel_rfl) (want_none) rfl (fun _ c202 => q_move rfl) ?_
      refine HA.past (k := 22) rfl rfl (by kernel_rfl) (by kernel_rfl) (past_some rfl rfl) rfl ?_
      refine HA.one (k := 23) ⟨(hS.own 1 rfl), (Go.Wk.at_nil _ _)⟩ (by kernel_rfl) ?_
      refine HS.past rfl (past_some rfl rfl) rfl ?_
      refine HA.past (k := 24) rfl rfl (by kernel_rfl) (by kernel_rfl) (past_some rfl rfl) rfl ?_
      refine HA.val (k := 25) (v := .bool false) rfl rfl (by kernel_rfl) (by kernel_rfl) (want_none) rfl (fun _ c202 => q_pick rfl rfl) ?_
      refine HA.val (k := 26) (v := .bool false) rfl rfl (by kernel_rfl) (by kernel_rfl) (want_none) rfl (fun _ c202 => q_assign rfl) ?_
      refine HA.nil ⟨(hS.own 1 rfl), (Go.Wk.at_nil _ _)⟩ (by kernel_rfl) (thenQ_normal (?_))
      refine HW.ret (?_)
      refine ⟨.inr rfl, .bool false, res1 rfl (rt rfl), ?_⟩
      replace hS : St F_6 (fr) h_6 := hS.perm2 [] 2 rfl rfl
      exact ⟨F_6, false, rfl, hK, hS, hM⟩
  · replace hM := hM.2 (of_decide_eq_false c_1)
    refine HA.past (k := 4) rfl rfl (by kernel_rfl) (by kernel_rfl) (past_by rfl rfl c_1) rfl ?_
    refine HA.past (k := 5) rfl rfl (by kernel_rfl) (by kernel_rfl) (past_by rfl rfl c_1) rfl ?_
    refine HA.past (k := 6) rfl rfl (by kernel_rfl) (by kernel_rfl) (past_by rfl rfl c_1) rfl ?_
    refine HA.one (k := 7) ⟨(hS.own 1 rfl), (Go.Wk.at_nil _ _)⟩ (by kernel_rfl) ?_
    refine HS.past rfl (past_by rfl rfl c_1) rfl ?_
    refine HA.past (k := 8) rfl rfl (by kernel_rfl) (by kernel_rfl) (past_by rfl rfl c_1) rfl ?_
    refine HA.val (k := 9) (v := .bool false) rfl rfl (by kernel_rfl) (by kernel_rfl) (want_none) rfl (fun _ c202 => q_pickK false rfl c_1 rfl) ?_
    refine HA.val (k := 10) (v := .bool false) rfl rfl (by kernel_rfl) (by kernel_rfl) (want_none) rfl (fun _ c202 => q_move rfl) ?_
    refine HA.past (k := 11) rfl rfl (by kernel_rfl) (by kernel_rfl) (past_some rfl rfl) rfl ?_
    refine HA.one (k := 12) ⟨(hS.own 1 rfl), (Go.Wk.at_nil _ _)⟩ (by kernel_rfl) ?_
    refine HS.past rfl (past_some rfl rfl) rfl ?_
    refine HA.one (k := 13) ⟨(hS.own 1 rfl), (Go.Wk.at_nil _ _)⟩ (by kernel_rfl) ?_
    refine HS.past rfl (past_some rfl rfl) rfl ?_
    refine HA.val (k := 14) (v := .bool false) rfl rfl (by kernel_rfl) (by kernel_rfl) (want_none) rfl (fun _ c202 => q_pick rfl rfl) ?_
    refine HA.val (k := 15) (v := .bool false) rfl rfl (by kernel_rfl) (by kernel_rfl) (want_none) rfl (fun _ c202 => q_move rfl) ?_
    refine HA.past (k := 16) rfl rfl (by kernel_rfl) (by kernel_rfl) (past_some rfl rfl) rfl ?_
    refine HA.one (k := 17) ⟨(hS.own 1 rfl), (Go.Wk.at_nil _ _)⟩ (by kernel_rfl) ?_
    refine HS.past rfl (past_some rfl rfl) rfl ?_
    refine HA.one (k := 18) ⟨(hS.own 1 rfl), (Go.Wk.at_nil _ _)⟩ (by kernel_rfl) ?_
    refine HS.past rfl (past_some rfl rfl) rfl ?_
    refine HA.past (k := 19) rfl rfl (by kernel_rfl) (by kernel_rfl) (past_some rfl rfl) rfl ?_
    refine HA.val (k := 20) (v := .bool false) rfl rfl (by kernel_rfl) (by kernel_rfl) (want_none) rfl (fun _ c202 => q_pick rfl rfl) ?_
    refine HA.val (k := 21) (v := .bool false) rfl rfl (by kernel_rfl) (by kernel_rfl) (want_none) rfl (fun _ c202 => q_move rfl) ?_
    refine HA.past (k := 22) rfl rfl (by kernel_rfl) (by kernel_rfl) (past_some rfl rfl) rfl ?_
    refine HA.one (k := 23) ⟨(hS.own 1 rfl), (Go.Wk.at_nil _ _)⟩ (by kernel_rfl) ?_
    refine HS.past rfl (past_some rfl rfl) rfl ?_
    refine HA.past (k := 24) rfl rfl (by kernel_rfl) (by kernel_rfl) (past_some rfl rfl) rfl ?_
    refine HA.val (k := 25) (v := .bool false) rfl rfl (by kernel_rfl) (by kernel_rfl) (want_none) rfl (fun _ c202 => q_pick rfl rfl) ?_
    refine HA.val (k := 26) (v := .bool false) rfl rfl (by kernel_rfl) (by kernel_rfl) (want_none) rfl (fun _ c202 => q_assign rfl) ?_
    refine HA.nil ⟨(hS.own 1 rfl), (Go.Wk.at_nil _ _)⟩ (by kernel_rfl) (thenQ_normal (?_))
    refine HW.ret (?_)
    refine ⟨.inr rfl, .bool false, res1 rfl (rt rfl), ?_⟩
    replace hS : St F_5 (fr) h_5 := hS.perm2 [] 2 rfl rfl
    exact ⟨F_5, false, rfl, hK, hS, hM⟩
end Go.Wk
