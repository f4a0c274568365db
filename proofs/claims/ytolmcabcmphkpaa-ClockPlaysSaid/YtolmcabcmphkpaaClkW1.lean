/- Walks of Clock laws. -/
import Derived.Test.YtolmcabcmphkpaaIterT
import Derived.Test.YtolmcabcmphkpaaSosW2
set_option linter.unusedSimpArgs false
set_option linter.unusedVariables false
set_option linter.unusedSectionVars false
namespace Go.Wk
open Go.HL
open Go.Proofs hiding encI
variable [DM]
abbrev T_acequiaref12_Entry := Str × Int
abbrev T_acequiaref12_Act := Int × Str × Int
def e_acequiaref12_Entry (x : T_acequiaref12_Entry) : List Value := [.string (bs x.1), .int .i64 x.2]
def e_acequiaref12_Act (x : T_acequiaref12_Act) : List Value := [.int .i64 x.1, .string (bs x.2.1), .int .i64 x.2.2]
theorem tp_78 : TPlaces Try.prog 78 #[(0, 1)] #[.map none] := tplaces Try.runUnderlying78 Try.zeroValue78 rfl (fun w => by kernel_rfl)
theorem ts_25 : TSlice Try.prog 25 80 2 := ⟨Try.underlying25, Try.sizeOf80⟩
theorem fa_80_0 : FieldAt Try.prog 80 0 0 := fun a w => by kernel_rfl
theorem fa_80_1 : FieldAt Try.prog 80 1 1 := fun a w => by kernel_rfl
theorem fa_78_0 : FieldAt Try.prog 78 0 0 := fun a w => by kernel_rfl
theorem to_76 : TOne Try.prog 76 := ⟨Try.isAgg76, Try.sizeOf76⟩
theorem tmk_76 : TMapK Try.prog 76 9 3 (.int .i64 0) := ⟨Try.underlying76, tz_3⟩
theorem ka_9 : KeyAt Try.prog 9 kT := keyAt_of keyOk_T Try.underlying9
theorem tz_80 : TZero Try.prog 80 (.agg #[.string (bs []), .int .i64 0]) := Try.zeroValue80
theorem tl_25 : TLit Try.prog 25 80 2 #[.string (bs []), .int .i64 0] := tlit ts_25 tz_80 rfl
theorem ta_80 : TAgg Try.prog 80 2 := ⟨Try.isAgg80, Try.sizeOf80⟩
theorem te_25 : TElem Try.prog 25 80 2 24 := ⟨Try.underlying25, ⟨Try.t80, .agg #[.string (bs []), .int .i64 0], by kernel_rfl, by kernel_rfl, by kernel_rfl, by kernel_rfl, by kernel_rfl⟩, by decide⟩
theorem en_14 (args : Array Value) (w : World) : (callFunc 14 args).run Try.prog w = .ok (.enter 14 args) w := by kernel_rfl
theorem tp_80 : TPlaces Try.prog 80 #[(0, 1), (1, 1)] #[.string (bs []), .int .i64 0] := tplaces Try.runUnderlying80 Try.zeroValue80 rfl (fun w => by kernel_rfl)
theorem en_45 (args : Array Value) (w : World) : (callFunc 45 args).run Try.prog w = .ok (.enter 45 args) w := by kernel_rfl
theorem en_75 (args : Array Value) (w : World) : (callFunc 75 args).run Try.prog w = .ok (.enter 75 args) w := by kernel_rfl
theorem en_76 (args : Array Value) (w : World) : (callFunc 76 args).run Try.prog w = .ok (.enter 76 args) w := by kernel_rfl
theorem ts_68 : TSlice Try.prog 68 3 1 := ⟨Try.underlying68, Try.sizeOf3⟩
theorem en_66 (args : Array Value) (w : World) : (callFunc 66 args).run Try.prog w = .ok (.enter 66 args) w := by kernel_rfl
theorem en_67 (args : Array Value) (w : World) : (callFunc 67 args).run Try.prog w = .ok (.enter 67 args) w := by kernel_rfl
theorem tl_68 : TLit Try.prog 68 3 1 #[.int .i64 0] := tlit ts_68 tz_3 rfl
theorem en_65 (args : Array Value) (w : World) : (callFunc 65 args).run Try.prog w = .ok (.enter 65 args) w := by kernel_rfl
theorem tz_9 : TZero Try.prog 9 (.string (bs [])) := Try.zeroValue9
theorem tl_36 : TLit Try.prog 36 9 1 #[.string (bs [])] := tlit ts_36 tz_9 rfl
theorem te_36 : TElem Try.prog 36 9 1 16 := ⟨Try.underlying36, ⟨Try.t9, .string (bs []), by kernel_rfl, by kernel_rfl, by kernel_rfl, by kernel_rfl, by kernel_rfl⟩, by decide⟩
theorem en_49 (args : Array Value) (w : World) : (callFunc 49 args).run Try.prog w = .ok (.enter 49 args) w := by kernel_rfl
theorem en_64 (args : Array Value) (w : World) : (callFunc 64 args).run Try.prog w = .ok (.enter 64 args) w := by kernel_rfl
theorem en_46 (args : Array Value) (w : World) : (callFunc 46 args).run Try.prog w = .ok (.enter 46 args) w := by kernel_rfl
theorem en_51 (args : Array Value) (w : World) : (callFunc 51 args).run Try.prog w = .ok (.enter 51 args) w := by kernel_rfl
theorem en_50 (args : Array Value) (w : World) : (callFunc 50 args).run Try.prog w = .ok (.enter 50 args) w := by kernel_rfl
theorem en_22 (args : Array Value) (w : World) : (callFunc 22 args).run Try.prog w = .ok (.enter 22 args) w := by kernel_rfl
theorem en_9 (args : Array Value) (w : World) : (callFunc 9 args).run Try.prog w = .ok (.enter 9 args) w := by kernel_rfl
theorem en_23 (args : Array Value) (w : World) : (callFunc 23 args).run Try.prog w = .ok (.enter 23 args) w := by kernel_rfl
theorem en_25 (args : Array Value) (w : World) : (callFunc 25 args).run Try.prog w = .ok (.enter 25 args) w := by kernel_rfl
theorem en_24 (args : Array Value) (w : World) : (callFunc 24 args).run Try.prog w = .ok (.enter 24 args) w := by kernel_rfl
theorem en_17 (args : Array Value) (w : World) : (callFunc 17 args).run Try.prog w = .ok (.enter 17 args) w := by kernel_rfl
theorem en_47 (args : Array Value) (w : World) : (callFunc 47 args).run Try.prog w = .ok (.enter 47 args) w := by kernel_rfl
theorem en_15 (args : Array Value) (w : World) : (callFunc 15 args).run Try.prog w = .ok (.enter 15 args) w := by kernel_rfl
theorem en_7 (args : Array Value) (w : World) : (callFunc 7 args).run Try.prog w = .ok (.enter 7 args) w := by kernel_rfl
theorem en_11 (args : Array Value) (w : World) : (callFunc 11 args).run Try.prog w = .ok (.enter 11 args) w := by kernel_rfl
theorem en_18 (args : Array Value) (w : World) : (callFunc 18 args).run Try.prog w = .ok (.enter 18 args) w := by kernel_rfl
theorem en_8 (args : Array Value) (w : World) : (callFunc 8 args).run Try.prog w = .ok (.enter 8 args) w := by kernel_rfl
theorem ts_22 : TSlice Try.prog 22 28 3 := ⟨Try.underlying22, Try.sizeOf28⟩
theorem ta_28 : TAgg Try.prog 28 3 := ⟨Try.isAgg28, Try.sizeOf28⟩
theorem tz_28 : TZero Try.prog 28 (.agg #[.int .i64 0, .string (bs []), .int .i64 0]) := Try.zeroValue28
theorem fa_28_1 : FieldAt Try.prog 28 1 1 := fun a w => by kernel_rfl
theorem fa_28_2 : FieldAt Try.prog 28 2 2 := fun a w => by kernel_rfl
theorem en_10 (args : Array Value) (w : World) : (callFunc 10 args).run Try.prog w = .ok (.enter 10 args) w := by kernel_rfl
theorem fa_28_0 : FieldAt Try.prog 28 0 0 := fun a w => by kernel_rfl
theorem en_12 (args : Array Value) (w : World) : (callFunc 12 args).run Try.prog w = .ok (.enter 12 args) w := by kernel_rfl
theorem en_13 (args : Array Value) (w : World) : (callFunc 13 args).run Try.prog w = .ok (.enter 13 args) w := by kernel_rfl
theorem en_16 (args : Array Value) (w : World) : (callFunc 16 args).run Try.prog w = .ok (.enter 16 args) w := by kernel_rfl
theorem en_19 (args : Array Value) (w : World) : (callFunc 19 args).run Try.prog w = .ok (.enter 19 args) w := by kernel_rfl
theorem en_20 (args : Array Value) (w : World) : (callFunc 20 args).run Try.prog w = .ok (.enter 20 args) w := by kernel_rfl
theorem en_48 (args : Array Value) (w : World) : (callFunc 48 args).run Try.prog w = .ok (.enter 48 args) w := by kernel_rfl
theorem en_21 (args : Array Value) (w : World) : (callFunc 21 args).run Try.prog w = .ok (.enter 21 args) w := by kernel_rfl
def clock_New_string_W (Q : Prop) : Prop :=
  Q
set_option maxHeartbeats 40000000 in
set_option maxRecDepth 100000 in
theorem clock_New_string_walk {F : Fz} {fr : List Ow} {h0 : Heap}  (hS : St F (fr) h0)  {Q : Prop} (hM : clock_New_string_W Q) :
    HC Try.prog 7 #[] h0 fun u h' => ∃ (F' : Fz) (b_1 : Nat) (r_1 : Nat), u = .pointer (some ⟨b_1, 0, none⟩) ∧ Kp F h0 F' h' ∧ St F' (Ow.box b_1 78 #[.map (some r_1)] :: Ow.map r_1 kT kI ([] : List (Str × Int)) :: fr) h' ∧ Q := by
  unfold clock_New_string_W at hM
  have hK := Kp.refl F h0
  refine HC.of_HW (n := 4) Try.func7 rfl rfl (Nat.le_of_ble_eq_true rfl) ?_
  refine HW.seq ?_
  refine HW.region ?_
  refine HO.val (v := .pointer none) (want_none) rfl (q_assign rfl) ?_
  refine HO.nil (thenQ_normal (?_))
  refine HW.seq ?_
  refine HW.region ?_
  refine HO.eff (want_none) rfl (st_makeMap (κ := Str) (ν := Int) kT kI hS) ?_
  rintro _ h_1 ⟨r_2, rfl, hS, hk⟩
  replace hK := hK.trans hk
  refine HO.val (v := .agg #[.map (some r_2)]) (want_none) rfl (q_build tp_78 rfl) ?_
  refine HO.eff (want_none) rfl (st_box (c := #[.map (some r_2)]) (k' := 1) hS rfl rfl) ?_
  rintro _ h_2 ⟨b_2, rfl, hS, hk⟩
  replace hK := hK.trans hk
  refine HO.val (v := .pointer (some ⟨b_2, 0, none⟩)) (want_none) rfl (q_assign rfl) ?_
  refine HO.nil (thenQ_normal (?_))
  refine HW.ret (?_)
  refine ⟨.inr rfl, .pointer (some ⟨b_2, 0, none⟩), res1 rfl (rt rfl), ?_⟩
  exact ⟨F, b_2, r_2, rfl, hK, hS, hM⟩

def law01_Cut_W (s1 : Str) (most : Int) (Q : Str → Prop) : Prop :=
  (most < (s1.length : Int) → ((0 : Int) ≤ most ∧ most ≤ (s1.length : Int)) ∧ (Q (cut s1 0 most))) ∧ (¬ (most < (s1.length : Int)) → Q s1)
set_option maxHeartbeats 40000000 in
set_option maxRecDepth 100000 in
theorem law01_Cut_walk {F : Fz} {fr : List Ow} {h0 : Heap} (s1 : Str) (most : Int) (hS : St F (fr) h0)  {Q : Str → Prop} (hM : law01_Cut_W s1 most Q) :
    HC Try.prog 8 #[.string (bs s1), .int .i64 most] h0 fun u h' => ∃ (F' : Fz) (r_1 : Str), u = .string (bs r_1) ∧ Kp F h0 F' h' ∧ St F' (fr) h' ∧ Q r_1 := by
  unfold law01_Cut_W at hM
  have hK := Kp.refl F h0
  refine HC.of_HW (n := 13) Try.func8 rfl rfl (Nat.le_of_ble_eq_true rfl) ?_
  refine HW.seq ?_
  refine HW.region ?_
  refine HO.val (v := .string (bs [])) (want_none) rfl (q_assign rfl) ?_
  refine HO.nil (thenQ_normal (?_))
  refine HW.seq ?_
  refine HW.seq ?_
  refine HW.region ?_
  refine HO.val (v := .string (bs s1)) (want_none) rfl (q_move rfl) ?_
  refine HO.val (v := .int .i64 (s1.length : Int)) (want_none) rfl (q_lenT Try.underlying9 rfl rfl) ?_
  refine HO.val (v := .int .i64 most) (want_none) rfl (q_move rfl) ?_
  refine HO.val (v := .bool (decide (most < (s1.length : Int)))) (want_none) rfl (q_gtr rfl rfl) ?_
  refine HO.nil (thenQ_normal (?_))
  refine HW.cond (decide (most < (s1.length : Int))) rfl (fun c_1 => ?_) (fun c_1 => ?_)
  · replace hM := hM.1 (of_decide_eq_true c_1)
    refine HW.seq ?_
    refine HW.region ?_
    refine HO.val (v := .string (bs s1)) (want_none) rfl (q_move rfl) ?_
    refine HO.val (v := .int .i64 most) (want_none) rfl (q_move rfl) ?_
    obtain ⟨ho_1, hM⟩ := hM
    refine HO.val (v := .string (bs (cut s1 0 most))) (want_none) rfl (q_strH Try.underlying9 rfl rfl ho_1) ?_
    refine HO.val (v := .string (bs (cut s1 0 most))) (want_none) rfl (q_assign rfl) ?_
    refine HO.nil (thenQ_normal (?_))
    refine HW.ret (thenQ_ret (?_))
    refine ⟨.inr rfl, .string (bs (cut s1 0 most)), res1 rfl (rt rfl), ?_⟩
    exact ⟨F, cut s1 0 most, rfl, hK, hS, hM⟩
  · replace hM := hM.2 (of_decide_eq_false c_1)
    refine HW.skip (thenQ_normal (?_))
    refine HW.seq ?_
    refine HW.region ?_
    refine HO.val (v := .string (bs s1)) (want_none) rfl (q_move rfl) ?_
    refine HO.val (v := .string (bs s1)) (want_none) rfl (q_assign rfl) ?_
    refine HO.nil (thenQ_normal (?_))
    refine HW.ret (?_)
    refine ⟨.inr rfl, .string (bs s1), res1 rfl (rt rfl), ?_⟩
    exact ⟨F, s1, rfl, hK, hS, hM⟩

def ref12_Find_l1 (l : List T_acequiaref12_Entry) (key : Str) (Q : Int → Prop) (K_1 : Int → Prop) (i_1 : Int) : Prop :=
  (i_1 < (l.length : Int) → ((0 : Int) ≤ i_1 ∧ i_1 < (l.length : Int)) ∧ ((((gi l i_1).1 : Str) = key → Q i_1) ∧ (¬ (((gi l i_1).1 : Str) = key) → (I64 (i_1 + 1)) ∧ (K_1 (i_1 + 1))))) ∧ (¬ (i_1 < (l.length : Int)) → Q (-1))
def ref12_Find_W (l : List T_acequiaref12_Entry) (key : Str) (Q : Int → Prop) : Prop :=
  loopW (fun (K_1 : Int → Prop) (s : Int) => ref12_Find_l1 l key Q K_1 s) 0
set_option maxHeartbeats 40000000 in
set_option maxRecDepth 100000 in
theorem ref12_Find_walk {F : Fz} {fr : List Ow} {h0 : Heap} (l : List T_acequiaref12_Entry) (key : Str) (vl : Value) (hS : St F (fr) h0) (hL_l : SliceF F h0 2 e_acequiaref12_Entry vl l) {Q : Int → Prop} (hM : ref12_Find_W l key Q) :
    HC Try.prog 9 #[vl, .string (bs key)] h0 fun u h' => ∃ (F' : Fz) (r_1 : Int), u = .int .i64 r_1 ∧ Kp F h0 F' h' ∧ St F' (fr) h' ∧ (SliceF F' h' 2 e_acequiaref12_Entry vl l) ∧ Q r_1 := by
  unfold ref12_Find_W at hM
  have hK := Kp.refl F h0
  refine HC.of_HW (n := 20) Try.func9 rfl rfl (Nat.le_of_ble_eq_true rfl) ?_
  refine HW.seq ?_
  refine HW.region ?_
  refine HO.val (v := .int .i64 0) (want_none) rfl (q_assign rfl) ?_
  refine HO.nil (thenQ_normal (?_))
  refine HW.seq ?_
  refine HW.seq ?_
  refine HW.region ?_
  refine HO.val (v := .int .i64 0) (want_none) rfl (q_assign rfl) ?_
  refine HO.nil (thenQ_normal (?_))
  refine HW.block ?_
  obtain ⟨I_1, m_1, hI_1, hR_1⟩ := hM
  refine HW.loop (S := Int) (fun i_1 f h => ∃ (F' : Fz), f 0 = vl ∧ f 1 = .string (bs key) ∧ f 4 = .int .i64 0 ∧ f 5 = .int .i64 i_1 ∧ Kp F h0 F' h ∧ St F' (fr) h ∧ (SliceF F' h 2 e_acequiaref12_Entry vl l) ∧ I_1 i_1) m_1 0 ⟨F, rfl, rfl, rfl, rfl, hK, hS, hL_l, hI_1⟩ ?_
  rintro i_1 f_1 h_1 ⟨F_1, e0, e1, e4, e5, hK, hS, hL_l, hI0⟩
  obtain ⟨K_1, hKe_1⟩ : ∃ K : Int → Prop, K = fun i_1' => I_1 i_1' ∧ m_1 i_1' < m_1 i_1 := ⟨_, rfl⟩
  have hM : ref12_Find_l1 l key Q K_1 i_1 := by rw [hKe_1]; exact hR_1 i_1 hI0
  unfold ref12_Find_l1 at hM
  refine HW.fr [(0, vl), (1, .string (bs key)), (4, .int .i64 0), (5, .int .i64 i_1)] ⟨e0, e1, e4, e5, trivial⟩ ?_
  refine HW.seq ?_
  refine HW.seq ?_
  refine HW.region ?_
  refine HO.val (v := .int .i64 i_1) (want_none) rfl (q_move rfl) ?_
  refine HO.val (v := vl) (want_none) rfl (q_move rfl) ?_
  refine HO.val (v := .int .i64 (l.length : Int)) (want_none) rfl (q_len ts_25 (shp hL_l.is) rfl rfl) ?_
  refine HO.val (v := .bool (decide (i_1 < (l.length : Int)))) (want_none) rfl (q_lss rfl rfl) ?_
  refine HO.nil (thenQ_normal (?_))
  refine HW.cond (decide (i_1 < (l.length : Int))) rfl (fun c_1 => ?_) (fun c_1 => ?_)
  · replace hM := hM.1 (of_decide_eq_true c_1)
    refine HW.skip (thenQ_normal (?_))
    refine HW.seq ?_
    refine HW.block ?_
    refine HW.seq ?_
    refine HW.region ?_
    refine HO.val (v := vl) (want_none) rfl (q_move rfl) ?_
    refine HO.val (v := .int .i64 i_1) (want_none) rfl (q_move rfl) ?_
    obtain ⟨ho_1, hM⟩ := hM
    refine HO.val (v := elemPtr 2 vl (i_1).toNat) (want_none) rfl (q_idx ts_25 hL_l.is rfl rfl ho_1) ?_
    refine HO.val (v := fieldPtr 2 vl (i_1).toNat 0) (want_none) rfl (q_fldElem fa_80_0 hL_l.is rfl ho_1) ?_
    refine HO.val (v := .string (bs ((gi l i_1).1))) (want_none) rfl (q_ldField to_9 hL_l.is rfl ho_1 (by decide) rfl) ?_
    refine HO.val (v := .string (bs key)) (want_none) rfl (q_move rfl) ?_
    refine HO.val (v := .bool (decide (((gi l i_1).1 : Str) = key))) (want_none) rfl (q_eqlT rfl rfl) ?_
    refine HO.nil (thenQ_normal (?_))
    refine HW.cond (decide (((gi l i_1).1 : Str) = key)) rfl (fun c_2 => ?_) (fun c_2 => ?_)
    · replace hM := hM.1 (of_decide_eq_true c_2)
      refine HW.seq ?_
      refine HW.region ?_
      refine HO.val (v := .int .i64 i_1) (want_none) rfl (q_move rfl) ?_
      refine HO.val (v := .int .i64 i_1) (want_none) rfl (q_assign rfl) ?_
      refine HO.nil (thenQ_normal (?_))
      refine HW.ret (blockQ_ret (thenQ_ret (thenQ_ret (blockQ_ret (thenQ_ret (?_))))))
      refine ⟨.inr rfl, .int .i64 i_1, res1 rfl (rt rfl), ?_⟩
      exact ⟨F_1, i_1, rfl, hK, hS, hL_l, hM⟩
    · replace hM := hM.2 (of_decide_eq_false c_2)
      refine HW.skip (blockQ_normal (thenQ_normal (?_)))
      refine HW.region ?_
      refine HO.val (v := .int .i64 i_1) (want_none) rfl (q_move rfl) ?_
      obtain ⟨ho_2, hM⟩ := hM
      refine HO.val (v := .int .i64 (i_1 + 1)) (want_none) rfl (q_addN _ rfl rfl rfl ho_2.1 ho_2.2) ?_
      refine HO.val (v := .int .i64 (i_1 + 1)) (want_none) rfl (q_assign rfl) ?_
      refine HO.nil (thenQ_normal (?_))
      rw [hKe_1] at hM
      exact ⟨i_1 + 1, ⟨F_1, rfl, rfl, rfl, rfl, hK, hS, hL_l, hM.1⟩, hM.2⟩
  · replace hM := hM.2 (of_decide_eq_false c_1)
    refine HW.exit (thenQ_exit (thenQ_exit (blockQ_exit (thenQ_normal (?_)))))
    refine HW.seq ?_
    refine HW.region ?_
    refine HO.val (v := .int .i64 (-1)) (want_none) rfl (q_assign rfl) ?_
    refine HO.nil (thenQ_normal (?_))
    refine HW.ret (?_)
    refine ⟨.inr rfl, .int .i64 (-1), res1 rfl (rt rfl), ?_⟩
    exact ⟨F_1, (-1), rfl, hK, hS, hL_l, hM⟩

def ref12_Due_l1 (l : List T_acequiaref12_Entry) (now : Int) (Q : Int → Prop) (K_1 : Int → Prop) (n_1 : Int) : Prop :=
  (n_1 < (l.length : Int) → ((0 : Int) ≤ n_1 ∧ n_1 < (l.length : Int)) ∧ ((((gi l n_1).2) ≤ now → (I64 (n_1 + 1)) ∧ (K_1 (n_1 + 1))) ∧ (¬ (((gi l n_1).2) ≤ now) → Q n_1))) ∧ (¬ (n_1 < (l.length : Int)) → Q n_1)
def ref12_Due_W (l : List T_acequiaref12_Entry) (now : Int) (Q : Int → Prop) : Prop :=
  loopW (fun (K_1 : Int → Prop) (s : Int) => ref12_Due_l1 l now Q K_1 s) 0
set_option maxHeartbeats 40000000 in
set_option maxRecDepth 100000 in
theorem ref12_Due_walk {F : Fz} {fr : List Ow} {h0 : Heap} (l : List T_acequiaref12_Entry) (now : Int) (vl : Value) (hS : St F (fr) h0) (hL_l : SliceF F h0 2 e_acequiaref12_Entry vl l) {Q : Int → Prop} (hM : ref12_Due_W l now Q) :
    HC Try.prog 10 #[vl, .int .i64 now] h0 fun u h' => ∃ (F' : Fz) (r_1 : Int), u = .int .i64 r_1 ∧ Kp F h0 F' h' ∧ St F' (fr) h' ∧ (SliceF F' h' 2 e_acequiaref12_Entry vl l) ∧ Q r_1 := by
  unfold ref12_Due_W at hM
  have hK := Kp.refl F h0
  refine HC.of_HW (n := 22) Try.func10 rfl rfl (Nat.le_of_ble_eq_true rfl) ?_
  refine HW.seq ?_
  refine HW.region ?_
  refine HO.val (v := .int .i64 0) (want_none) rfl (q_assign rfl) ?_
  refine HO.nil (thenQ_normal (?_))
  refine HW.seq ?_
  refine HW.region ?_
  refine HO.val (v := .int .i64 0) (want_none) rfl (q_assign rfl) ?_
  refine HO.nil (thenQ_normal (?_))
  refine HW.seq ?_
  refine HW.block ?_
  obtain ⟨I_1, m_1, hI_1, hR_1⟩ := hM
  refine HW.loop (S := Int) (fun n_1 f h => ∃ (F' : Fz), f 0 = vl ∧ f 1 = .int .i64 now ∧ f 4 = .int .i64 0 ∧ f 5 = .int .i64 n_1 ∧ Kp F h0 F' h ∧ St F' (fr) h ∧ (SliceF F' h 2 e_acequiaref12_Entry vl l) ∧ I_1 n_1) m_1 0 ⟨F, rfl, rfl, rfl, rfl, hK, hS, hL_l, hI_1⟩ ?_
  rintro n_1 f_1 h_1 ⟨F_1, e0, e1, e4, e5, hK, hS, hL_l, hI0⟩
  obtain ⟨K_1, hKe_1⟩ : ∃ K : Int → Prop, K = fun n_1' => I_1 n_1' ∧ m_1 n_1' < m_1 n_1 := ⟨_, rfl⟩
  have hM : ref12_Due_l1 l now Q K_1 n_1 := by rw [hKe_1]; exact hR_1 n_1 hI0
  unfold ref12_Due_l1 at hM
  refine HW.fr [(0, vl), (1, .int .i64 now), (4, .int .i64 0), (5, .int .i64 n_1)] ⟨e0, e1, e4, e5, trivial⟩ ?_
  refine HW.seq ?_
  refine HW.seq ?_
  refine HW.region ?_
  refine HO.val (v := .int .i64 n_1) (want_none) rfl (q_move rfl) ?_
  refine HO.val (v := vl) (want_none) rfl (q_move rfl) ?_
  refine HO.val (v := .int .i64 (l.length : Int)) (want_none) rfl (q_len ts_25 (shp hL_l.is) rfl rfl) ?_
  refine HO.val (v := .bool (decide (n_1 < (l.length : Int)))) (want_none) rfl (q_lss rfl rfl) ?_
  refine HO.val (v := .bool (decide (n_1 < (l.length : Int)))) (want_none) rfl (q_move rfl) ?_
  rcases Bool.eq_false_or_eq_true (decide (n_1 < (l.length : Int))) with c_1 | c_1
  · replace hM := hM.1 (of_decide_eq_true c_1)
    refine HO.val (v := vl) (want_by rfl rfl c_1) rfl (q_move rfl) ?_
    refine HO.val (v := .int .i64 n_1) (want_by rfl rfl c_1) rfl (q_move rfl) ?_
    obtain ⟨ho_1, hM⟩ := hM
    refine HO.val (v := elemPtr 2 vl (n_1).toNat) (want_by rfl rfl c_1) rfl (q_idx ts_25 hL_l.is rfl rfl ho_1) ?_
    refine HO.val (v := fieldPtr 2 vl (n_1).toNat 1) (want_by rfl rfl c_1) rfl (q_fldElem fa_80_1 hL_l.is rfl ho_1) ?_
    refine HO.val (v := .int .i64 ((gi l n_1).2)) (want_by rfl rfl c_1) rfl (q_ldField to_3 hL_l.is rfl ho_1 (by decide) rfl) ?_
    refine HO.val (v := .int .i64 now) (want_by rfl rfl c_1) rfl (q_move rfl) ?_
    refine HO.val (v := .bool (decide (((gi l n_1).2) ≤ now))) (want_by rfl rfl c_1) rfl (q_leq rfl rfl) ?_
    refine HO.val (v := .bool (decide (((gi l n_1).2) ≤ now))) (want_none) rfl (q_pickK true rfl c_1 rfl) ?_
    refine HO.nil (thenQ_normal (?_))
    refine HW.cond (decide (((gi l n_1).2) ≤ now)) rfl (fun c_2 => ?_) (fun c_2 => ?_)
    · replace hM := hM.1 (of_decide_eq_true c_2)
      refine HW.skip (thenQ_normal (?_))
      refine HW.block ?_
      refine HW.region ?_
      refine HO.val (v := .int .i64 n_1) (want_none) rfl (q_move rfl) ?_
      obtain ⟨ho_2, hM⟩ := hM
      refine HO.val (v := .int .i64 (n_1 + 1)) (want_none) rfl (q_addN _ rfl rfl rfl ho_2.1 ho_2.2) ?_
      refine HO.val (v := .int .i64 (n_1 + 1)) (want_none) rfl (q_assign rfl) ?_
      refine HO.nil (blockQ_normal (thenQ_normal (?_)))
      rw [hKe_1] at hM
      exact ⟨n_1 + 1, ⟨F_1, rfl, rfl, rfl, rfl, hK, hS, hL_l, hM.1⟩, hM.2⟩
    · replace hM := hM.2 (of_decide_eq_false c_2)
      refine HW.exit (thenQ_exit (thenQ_exit (blockQ_exit (thenQ_normal (?_)))))
      refine HW.seq ?_
      refine HW.region ?_
      refine HO.val (v := .int .i64 n_1) (want_none) rfl (q_move rfl) ?_
      refine HO.val (v := .int .i64 n_1) (want_none) rfl (q_assign rfl) ?_
      refine HO.nil (thenQ_normal (?_))
      refine HW.ret (?_)
      refine ⟨.inr rfl, .int .i64 n_1, res1 rfl (rt rfl), ?_⟩
      exact ⟨F_1, n_1, rfl, hK, hS, hL_l, hM⟩
  · replace hM := hM.2 (of_decide_eq_false c_1)
    refine HO.past (past_by rfl rfl c_1) rfl ?_
    refine HO.past (past_by rfl rfl c_1) rfl ?_
    refine HO.past (past_by rfl rfl c_1) rfl ?_
    refine HO.past (past_by rfl rfl c_1) rfl ?_
    refine HO.past (past_by rfl rfl c_1) rfl ?_
    refine HO.past (past_by rfl rfl c_1) rfl ?_
    refine HO.past (past_by rfl rfl c_1) rfl ?_
    refine HO.val (v := .bool false) (want_none) rfl (q_pickK false rfl c_1 rfl) ?_
    refine HO.nil (thenQ_normal (?_))
    refine HW.condF rfl ?_
    refine HW.exit (thenQ_exit (thenQ_exit (blockQ_exit (thenQ_normal (?_)))))
    refine HW.seq ?_
    refine HW.region ?_
    refine HO.val (v := .int .i64 n_1) (want_none) rfl (q_move rfl) ?_
    refine HO.val (v := .int .i64 n_1) (want_none) rfl (q_assign rfl) ?_
    refine HO.nil (thenQ_normal (?_))
    refine HW.ret (?_)
    refine ⟨.inr rfl, .int .i64 n_1, res1 rfl (rt rfl), ?_⟩
    exact ⟨F_1, n_1, rfl, hK, hS, hL_l, hM⟩

def clock_Clock_Set_string_W (c_at : List (Str × Int)) (key : Str) (at1 : Int) (Q : Bool → (List (Str × Int)) → Prop) : Prop :=
  Q (!((mget c_at key).isSome)) (mset c_at key at1)
set_option maxHeartbeats 40000000 in
set_option maxRecDepth 100000 in
theorem clock_Clock_Set_string_walk {F : Fz} {fr : List Ow} {h0 : Heap} (c_at : List (Str × Int)) (key : Str) (at1 : Int) (bc : Nat) (rc_at : Nat) (hS : St F (Ow.box bc 78 #[.map (some rc_at)] :: Ow.map rc_at kT kI c_at :: fr) h0)  {Q : Bool → (List (Str × Int)) → Prop} (hM : clock_Clock_Set_string_W c_at key at1 Q) :
    HC Try.prog 11 #[.pointer (some ⟨bc, 0, none⟩), .string (bs key), .int .i64 at1] h0 fun u h' => ∃ (F' : Fz) (r_1 : Bool) (cm_1 : List (Str × Int)), u = .bool r_1 ∧ Kp F h0 F' h' ∧ St F' (Ow.box bc 78 #[.map (some rc_at)] :: Ow.map rc_at kT kI cm_1 :: fr) h' ∧ Q r_1 cm_1 := by
  unfold clock_Clock_Set_string_W at hM
  have hK := Kp.refl F h0
  refine HC.of_HW (n := 28) Try.func11 rfl rfl (Nat.le_of_ble_eq_true rfl) ?_
  refine HW.seq ?_
  refine HW.region ?_
  refine HO.val (v := .bool false) (want_none) rfl (q_assign rfl) ?_
  refine HO.nil (thenQ_normal (?_))
  refine HW.seq ?_
  refine HW.seq ?_
  refine HW.region ?_
  refine HO.val (v := .pointer (some ⟨bc, 0, none⟩)) (want_none) rfl (q_move rfl) ?_
  refine HO.val (v := .bool false) (want_none) rfl (q_eqlPnil Try.underlying23 rfl rfl rfl) ?_
  refine HO.nil (thenQ_normal (?_))
  refine HW.condF rfl ?_
  refine HW.skip (thenQ_normal (?_))
  refine HW.seq ?_
  refine HW.region ?_
  refine HO.val (v := .pointer (some ⟨bc, 0, none⟩)) (want_none) rfl (q_move rfl) ?_
  refine HO.val (v := .pointer (some ⟨bc, 0, none⟩)) (want_none) rfl (q_nilCheck rfl) ?_
  refine HO.val (v := .pointer (some ⟨bc, 0, none⟩)) (want_none) rfl (q_fieldAddr fa_78_0 rfl rfl) ?_
  refine HO.val (v := .map (some rc_at)) (want_none) rfl (q_load to_76 rfl (Blk.cell (hS.box 0 rfl) rfl)) ?_
  refine HO.val (v := .string (bs key)) (want_none) rfl (q_move rfl) ?_
  refine HO.val (v := .tuple #[.int .i64 (mget0 c_at key), .bool ((mget c_at key).isSome)]) (want_none) rfl ((q_lookupOk (k := key) ka_9 tmk_76 (hS.mp 1 rfl) rfl rfl).of_eq (congrArg (fun v => Value.tuple #[v, _]) (mval0 (z := .int .i64 0) rfl))) ?_
  refine HO.val (v := .tuple #[.int .i64 (mget0 c_at key), .bool ((mget c_at key).isSome)]) (want_none) rfl (q_move rfl) ?_
  refine HO.val (v := .int .i64 (mget0 c_at key)) (want_none) rfl (q_extract rfl rfl) ?_
  refine HO.val (v := .bool ((mget c_at key).isSome)) (want_none) rfl (q_extract rfl rfl) ?_
  refine HO.val (v := .int .i64 (mget0 c_at key)) (want_none) rfl (q_assign rfl) ?_
  refine HO.val (v := .bool ((mget c_at key).isSome)) (want_none) rfl (q_assign rfl) ?_
  refine HO.nil (thenQ_normal (?_))
  refine HW.seq ?_
  refine HW.region ?_
  refine HO.val (v := .pointer (some ⟨bc, 0, none⟩)) (want_none) rfl (q_move rfl) ?_
  refine HO.val (v := .pointer (some ⟨bc, 0, none⟩)) (want_none) rfl (q_nilCheck rfl) ?_
  refine HO.val (v := .pointer (some ⟨bc, 0, none⟩)) (want_none) rfl (q_fieldAddr fa_78_0 rfl rfl) ?_
  refine HO.val (v := .map (some rc_at)) (want_none) rfl (q_load to_76 rfl (Blk.cell (hS.box 0 rfl) rfl)) ?_
  refine HO.val (v := .string (bs key)) (want_none) rfl (q_move rfl) ?_
  refine HO.val (v := .int .i64 at1) (want_none) rfl (q_move rfl) ?_
  refine HO.sto (want_none) rfl (st_mapUpdateK (k := key) (v := at1) hS (i := 1) rfl ka_9 tmk_76 rfl rfl rfl) ?_
  rintro h_1 ⟨hS, hk⟩
  replace hS : St F (Ow.box bc 78 #[.map (some rc_at)] :: Ow.map rc_at kT kI (mset c_at key at1) :: fr) h_1 := hS
  replace hK := hK.trans hk
  refine HO.nil (thenQ_normal (?_))
  refine HW.seq ?_
  refine HW.region ?_
  refine HO.val (v := .bool ((mget c_at key).isSome)) (want_none) rfl (q_move rfl) ?_
  refine HO.val (v := .bool (!((mget c_at key).isSome))) (want_none) rfl (q_not rfl) ?_
  refine HO.val (v := .bool (!((mget c_at key).isSome))) (want_none) rfl (q_assign rfl) ?_
  refine HO.nil (thenQ_normal (?_))
  refine HW.ret (?_)
  refine ⟨.inr rfl, .bool (!((mget c_at key).isSome)), res1 rfl (rt rfl), ?_⟩
  exact ⟨F, !((mget c_at key).isSome), mset c_at key at1, rfl, hK, hS, hM⟩

def ref12_Cut_l1 (l : List T_acequiaref12_Entry) (key : Str) (Q : (List T_acequiaref12_Entry) → Prop) (K_1 : (List T_acequiaref12_Entry) → Int → Prop) (out_1 : List T_acequiaref12_Entry) (i_1 : Int) : Prop :=
  (i_1 < (l.length : Int) → ((0 : Int) ≤ i_1 ∧ i_1 < (l.length : Int)) ∧ ((¬ (((gi l i_1).1 : Str) = key) → ((out_1.length + ([(gi l i_1)] : List T_acequiaref12_Entry).length) * 24 ≤ 140737488355328) ∧ ((I64 (i_1 + 1)) ∧ (K_1 (out_1 ++ ([(gi l i_1)] : List T_acequiaref12_Entry)) (i_1 + 1)))) ∧ (((gi l i_1).1 : Str) = key → (I64 (i_1 + 1)) ∧ (K_1 out_1 (i_1 + 1))))) ∧ (¬ (i_1 < (l.length : Int)) → Q out_1)
def ref12_Cut_W (l : List T_acequiaref12_Entry) (key : Str) (Q : (List T_acequiaref12_Entry) → Prop) : Prop :=
  loopW (fun (K_1 : (List T_acequiaref12_Entry × Int) → Prop) (s : List T_acequiaref12_Entry × Int) => ref12_Cut_l1 l key Q (fun out_1 i_1 => K_1 (out_1, i_1)) s.1 s.2) ([], 0)
set_option maxHeartbeats 40000000 in
set_option maxRecDepth 100000 in
theorem ref12_Cut_walk {F : Fz} {fr : List Ow} {h0 : Heap} (l : List T_acequiaref12_Entry) (key : Str) (vl : Value) (hS : St F (fr) h0) (hL_l : SliceF F h0 2 e_acequiaref12_Entry vl l) {Q : (List T_acequiaref12_Entry) → Prop} (hM : ref12_Cut_W l key Q) :
    HC Try.prog 14 #[vl, .string (bs key)] h0 fun u h' => ∃ (F' : Fz) (r_1 : List T_acequiaref12_Entry) (vr_1 : Value), u = vr_1 ∧ Kp F h0 F' h' ∧ St F' (Ow.own 80 2 e_acequiaref12_Entry vr_1 r_1 :: fr) h' ∧ (SliceF F' h' 2 e_acequiaref12_Entry vl l) ∧ Q r_1 := by
  unfold ref12_Cut_W at hM
  have hK := Kp.refl F h0
  refine HC.of_HW (n := 29) Try.func14 rfl rfl (Nat.le_of_ble_eq_true rfl) ?_
  refine HW.seq ?_
  refine HW.region ?_
  refine HO.val (v := .slice none 0 0) (want_none) rfl (q_assign rfl) ?_
  refine HO.nil (thenQ_normal (?_))
  refine HW.seq ?_
  refine HW.region ?_
  refine HO.eff (want_none) rfl (st_litEmpty (α := T_acequiaref12_Entry) e_acequiaref12_Entry hS tl_25) ?_
  rintro _ h_1 ⟨b_1, rfl, hS, hk⟩
  replace hK := hK.trans hk
  replace hL_l := hL_l.kp hk
  refine HO.val (v := .slice (some ⟨b_1, 0, none⟩) 0 0) (want_none) rfl (q_assign rfl) ?_
  refine HO.nil (thenQ_normal (?_))
  refine HW.seq ?_
  refine HW.seq ?_
  refine HW.region ?_
  refine HO.val (v := .int .i64 0) (want_none) rfl (q_assign rfl) ?_
  refine HO.nil (thenQ_normal (?_))
  refine HW.block ?_
  obtain ⟨I_1, m_1, hI_1, hR_1⟩ := hM
  refine HW.loop (S := List T_acequiaref12_Entry × Int) (fun s f h => match s with | (out_1, i_1) => ∃ (F' : Fz) (vout_1 : Value), f 0 = vl ∧ f 1 = .string (bs key) ∧ f 4 = .slice none 0 0 ∧ f 5 = vout_1 ∧ f 6 = .int .i64 i_1 ∧ Kp F h0 F' h ∧ St F' (Ow.own 80 2 e_acequiaref12_Entry vout_1 out_1 :: fr) h ∧ (SliceF F' h 2 e_acequiaref12_Entry vl l) ∧ I_1 (out_1, i_1)) m_1 ([], 0) ⟨F, .slice (some ⟨b_1, 0, none⟩) 0 0, rfl, rfl, rfl, rfl, rfl, hK, hS, hL_l, hI_1⟩ ?_
  rintro ⟨out_1, i_1⟩ f_1 h_2 ⟨F_1, vout_1, e0, e1, e4, e5, e6, hK, hS, hL_l, hI0⟩
  obtain ⟨K_1, hKe_1⟩ : ∃ K : (List T_acequiaref12_Entry) → Int → Prop, K = fun out_1' i_1' => I_1 (out_1', i_1') ∧ m_1 (out_1', i_1') < m_1 (out_1, i_1) := ⟨_, rfl⟩
  have hM : ref12_Cut_l1 l key Q K_1 out_1 i_1 := by rw [hKe_1]; exact hR_1 (out_1, i_1) hI0
  unfold ref12_Cut_l1 at hM
  refine HW.fr [(0, vl), (1, .string (bs key)), (4, .slice none 0 0), (5, vout_1), (6, .int .i64 i_1)] ⟨e0, e1, e4, e5, e6, trivial⟩ ?_
  refine HW.seq ?_
  refine HW.seq ?_
  refine HW.region ?_
  refine HO.val (v := .int .i64 i_1) (want_none) rfl (q_move rfl) ?_
  refine HO.val (v := vl) (want_none) rfl (q_move rfl) ?_
  refine HO.val (v := .int .i64 (l.length : Int)) (want_none) rfl (q_len ts_25 (shp hL_l.is) rfl rfl) ?_
  refine HO.val (v := .bool (decide (i_1 < (l.length : Int)))) (want_none) rfl (q_lss rfl rfl) ?_
  refine HO.nil (thenQ_normal (?_))
  refine HW.cond (decide (i_1 < (l.length : Int))) rfl (fun c_1 => ?_) (fun c_1 => ?_)
  · replace hM := hM.1 (of_decide_eq_true c_1)
    refine HW.skip (thenQ_normal (?_))
    refine HW.seq ?_
    refine HW.block ?_
    refine HW.seq ?_
    refine HW.region ?_
    refine HO.val (v := vl) (want_none) rfl (q_move rfl) ?_
    refine HO.val (v := .int .i64 i_1) (want_none) rfl (q_move rfl) ?_
    obtain ⟨ho_1, hM⟩ := hM
    refine HO.val (v := elemPtr 2 vl (i_1).toNat) (want_none) rfl (q_idx ts_25 hL_l.is rfl rfl ho_1) ?_
    refine HO.val (v := fieldPtr 2 vl (i_1).toNat 0) (want_none) rfl (q_fldElem fa_80_0 hL_l.is rfl ho_1) ?_
    refine HO.val (v := .string (bs ((gi l i_1).1))) (want_none) rfl (q_ldField to_9 hL_l.is rfl ho_1 (by decide) rfl) ?_
    refine HO.val (v := .string (bs key)) (want_none) rfl (q_move rfl) ?_
    refine HO.val (v := .bool (!decide (((gi l i_1).1 : Str) = key))) (want_none) rfl (q_neqT rfl rfl) ?_
    refine HO.nil (thenQ_normal (?_))
    refine HW.cond (!decide (((gi l i_1).1 : Str) = key)) rfl (fun c_2 => ?_) (fun c_2 => ?_)
    · replace hM := hM.1 (nd_true c_2)
      refine HW.region ?_
      refine HO.val (v := vout_1) (want_none) rfl (q_move rfl) ?_
      refine HO.val (v := vl) (want_none) rfl (q_move rfl) ?_
      refine HO.val (v := .int .i64 i_1) (want_none) rfl (q_move rfl) ?_
      refine HO.val (v := elemPtr 2 vl (i_1).toNat) (want_none) rfl (q_idx ts_25 hL_l.is rfl rfl ho_1) ?_
      refine HO.val (v := .agg #[.string (bs ((gi l i_1).1)), .int .i64 ((gi l i_1).2)]) (want_none) rfl (q_ldElemAgg (cs := [.string (bs ((gi l i_1).1)), .int .i64 ((gi l i_1).2)]) ta_80 hL_l.is rfl ho_1 rfl) ?_
      refine HO.eff (want_none) rfl (st_lit (enc := e_acequiaref12_Entry) (cells := #[.string (bs ((gi l i_1).1)), .int .i64 ((gi l i_1).2)]) #[.string (bs []), .int .i64 0] ([(gi l i_1)] : List T_acequiaref12_Entry) hS tl_25 (by decide) (by decide) (by kernel_rfl) (by kernel_rfl) rfl (by intro x hx; rfl) rfl) ?_
      rintro _ h_3 ⟨b_2, rfl, hS, hk⟩
      replace hK := hK.trans hk
      replace hL_l := hL_l.kp hk
      obtain ⟨ho_2, hM⟩ := hM
      refine HO.eff (want_none) rfl (st_append te_25 hS (i := 1) rfl (hS.own 0 rfl).slice rfl rfl rfl (by intro a _ u hu; simp [e_acequiaref12_Entry, encI, encN, encB, encT] at hu; rcases hu with rfl | rfl <;> rfl) ho_2 (by omega)) ?_
      rintro v_1 h_4 ⟨hS, hk⟩
      replace hS : St F_1 (Ow.own 80 2 e_acequiaref12_Entry (.slice (some ⟨b_2, 0, none⟩) 1 1) ([(gi l i_1)] : List T_acequiaref12_Entry) :: Ow.own 80 2 e_acequiaref12_Entry v_1 (out_1 ++ ([(gi l i_1)] : List T_acequiaref12_Entry)) :: fr) h_4 := hS
      replace hK := hK.trans hk
      replace hL_l := hL_l.kp hk
      refine HO.val (v := v_1) (want_none) rfl (q_assign rfl) ?_
      refine HO.nil (blockQ_normal (thenQ_normal (?_)))
      refine HW.region ?_
      refine HO.val (v := .int .i64 i_1) (want_none) rfl (q_move rfl) ?_
      obtain ⟨ho_3, hM⟩ := hM
      refine HO.val (v := .int .i64 (i_1 + 1)) (want_none) rfl (q_addN _ rfl rfl rfl ho_3.1 ho_3.2) ?_
      refine HO.val (v := .int .i64 (i_1 + 1)) (want_none) rfl (q_assign rfl) ?_
      refine HO.nil (thenQ_normal (?_))
      replace hS : St F_1 (Ow.own 80 2 e_acequiaref12_Entry v_1 (out_1 ++ ([(gi l i_1)] : List T_acequiaref12_Entry)) :: fr) h_4 := hS.perm2 [1] 2 rfl rfl
      rw [hKe_1] at hM
      exact ⟨(out_1 ++ ([(gi l i_1)] : List T_acequiaref12_Entry), i_1 + 1), ⟨F_1, v_1, rfl, rfl, rfl, rfl, rfl, hK, hS, hL_l, hM.1⟩, hM.2⟩
    · replace hM := hM.2 (nd_false c_2)
      refine HW.skip (blockQ_normal (thenQ_normal (?_)))
      refine HW.region ?_
      refine HO.val (v := .int .i64 i_1) (want_none) rfl (q_move rfl) ?_
      obtain ⟨ho_4, hM⟩ := hM
      refine HO.val (v := .int .i64 (i_1 + 1)) (want_none) rfl (q_addN _ rfl rfl rfl ho_4.1 ho_4.2) ?_
      refine HO.val (v := .int .i64 (i_1 + 1)) (want_none) rfl (q_assign rfl) ?_
      refine HO.nil (thenQ_normal (?_))
      rw [hKe_1] at hM
      exact ⟨(out_1, i_1 + 1), ⟨F_1, vout_1, rfl, rfl, rfl, rfl, rfl, hK, hS, hL_l, hM.1⟩, hM.2⟩
  · replace hM := hM.2 (of_decide_eq_false c_1)
    refine HW.exit (thenQ_exit (thenQ_exit (blockQ_exit (thenQ_normal (?_)))))
    refine HW.seq ?_
    refine HW.region ?_
    refine HO.val (v := vout_1) (want_none) rfl (q_move rfl) ?_
    refine HO.val (v := vout_1) (want_none) rfl (q_assign rfl) ?_
    refine HO.nil (thenQ_normal (?_))
    refine HW.ret (?_)
    refine ⟨.inr rfl, vout_1, res1 rfl (rt rfl), ?_⟩
    exact ⟨F_1, out_1, vout_1, rfl, hK, hS, hL_l, hM⟩

def ref12_before_W (a : T_acequiaref12_Entry) (b : T_acequiaref12_Entry) (Q : Bool → Prop) : Prop :=
  (a.2 < b.2 → Q true) ∧ (¬ (a.2 < b.2) → (a.2 = b.2 → Q (decide ((a.1 : Str) < (b.1 : Str)))) ∧ (¬ (a.2 = b.2) → Q false))
set_option maxHeartbeats 40000000 in
set_option maxRecDepth 100000 in
theorem ref12_before_walk {F : Fz} {fr : List Ow} {h0 : Heap} (a : T_acequiaref12_Entry) (b : T_acequiaref12_Entry) (hS : St F (fr) h0)  {Q : Bool → Prop} (hM : ref12_before_W a b Q) :
    HC Try.prog 45 #[.agg #[.string (bs a.1), .int .i64 a.2], .agg #[.string (bs b.1), .int .i64 b.2]] h0 fun u h' => ∃ (F' : Fz) (r_1 : Bool), u = .bool r_1 ∧ Kp F h0 F' h' ∧ St F' (fr) h' ∧ Q r_1 := by
  unfold ref12_before_W at hM
  have hK := Kp.refl F h0
  refine HC.of_HW (n := 24) Try.func45 rfl rfl (Nat.le_of_ble_eq_true rfl) ?_
  refine HW.seq ?_
  refine HW.region ?_
  refine HO.eff (want_none) rfl (st_box (c := #[.string (bs a.1), .int .i64 a.2]) (k' := 2) hS rfl rfl) ?_
  rintro _ h_1 ⟨b_1, rfl, hS, hk⟩
  replace hK := hK.trans hk
  refine HO.eff (want_none) rfl (st_box (c := #[.string (bs b.1), .int .i64 b.2]) (k' := 2) hS rfl rfl) ?_
  rintro _ h_2 ⟨b_2, rfl, hS, hk⟩
  replace hK := hK.trans hk
  refine HO.val (v := .bool false) (want_none) rfl (q_assign rfl) ?_
  refine HO.nil (thenQ_normal (?_))
  refine HW.seq ?_
  refine HW.region ?_
  refine HO.val (v := .pointer (some ⟨b_1, 1, none⟩)) (want_none) rfl (q_fieldAddr fa_80_1 rfl rfl) ?_
  refine HO.val (v := .int .i64 a.2) (want_none) rfl (q_load to_3 rfl (Blk.cell (hS.box 1 rfl) rfl)) ?_
  refine HO.val (v := .pointer (some ⟨b_2, 1, none⟩)) (want_none) rfl (q_fieldAddr fa_80_1 rfl rfl) ?_
  refine HO.val (v := .int .i64 b.2) (want_none) rfl (q_load to_3 rfl (Blk.cell (hS.box 0 rfl) rfl)) ?_
  refine HO.val (v := .bool (decide (a.2 < b.2))) (want_none) rfl (q_lss rfl rfl) ?_
  refine HO.val (v := .bool (decide (a.2 < b.2))) (want_none) rfl (q_move rfl) ?_
  rcases Bool.eq_false_or_eq_true (decide (a.2 < b.2)) with c_1 | c_1
  · replace hM := hM.1 (of_decide_eq_true c_1)
    refine HO.past (past_by rfl rfl c_1) rfl ?_
    refine HO.past (past_by rfl rfl c_1) rfl ?_
    refine HO.past (past_by rfl rfl c_1) rfl ?_
    refine HO.past (past_by rfl rfl c_1) rfl ?_
    refine HO.past (past_by rfl rfl c_1) rfl ?_
    refine HO.past (past_by rfl rfl c_1) rfl ?_
    refine HO.past (past_undef rfl rfl) rfl ?_
    refine HO.past (past_undef rfl rfl) rfl ?_
    refine HO.past (past_undef rfl rfl) rfl ?_
    refine HO.past (past_undef rfl rfl) rfl ?_
    refine HO.past (past_undef rfl rfl) rfl ?_
    refine HO.past (past_by rfl rfl c_1) rfl ?_
    refine HO.val (v := .bool true) (want_none) rfl (q_pickK true rfl c_1 rfl) ?_
    refine HO.val (v := .bool true) (want_none) rfl (q_assign rfl) ?_
    refine HO.nil (thenQ_normal (?_))
    refine HW.ret (?_)
    refine ⟨.inr rfl, .bool true, res1 rfl (rt rfl), ?_⟩
    replace hS : St F (fr) h_2 := hS.perm2 [] 2 rfl rfl
    exact ⟨F, true, rfl, hK, hS, hM⟩
  · replace hM := hM.2 (of_decide_eq_false c_1)
    refine HO.val (v := .pointer (some ⟨b_1, 1, none⟩)) (want_by rfl rfl c_1) rfl (q_fieldAddr fa_80_1 rfl rfl) ?_
    refine HO.val (v := .int .i64 a.2) (want_by rfl rfl c_1) rfl (q_load to_3 rfl (Blk.cell (hS.box 1 rfl) rfl)) ?_
    refine HO.val (v := .pointer (some ⟨b_2, 1, none⟩)) (want_by rfl rfl c_1) rfl (q_fieldAddr fa_80_1 rfl rfl) ?_
    refine HO.val (v := .int .i64 b.2) (want_by rfl rfl c_1) rfl (q_load to_3 rfl (Blk.cell (hS.box 0 rfl) rfl)) ?_
    refine HO.val (v := .bool (decide (a.2 = b.2))) (want_by rfl rfl c_1) rfl (q_eql rfl rfl) ?_
    refine HO.val (v := .bool (decide (a.2 = b.2))) (want_by rfl rfl c_1) rfl (q_move rfl) ?_
    rcases Bool.eq_false_or_eq_true (decide (a.2 = b.2)) with c_2 | c_2
    · replace hM := hM.1 (of_decide_eq_true c_2)
      refine HO.val (v := .pointer (some ⟨b_1, 0, none⟩)) (want_by rfl rfl c_2) rfl (q_fieldAddr fa_80_0 rfl rfl) ?_
      refine HO.val (v := .string (bs a.1)) (want_by rfl rfl c_2) rfl (q_load to_9 rfl (Blk.cell (hS.box 1 rfl) rfl)) ?_
      refine HO.val (v := .pointer (some ⟨b_2, 0, none⟩)) (want_by rfl rfl c_2) rfl (q_fieldAddr fa_80_0 rfl rfl) ?_
      refine HO.val (v := .string (bs b.1)) (want_by rfl rfl c_2) rfl (q_load to_9 rfl (Blk.cell (hS.box 0 rfl) rfl)) ?_
      refine HO.val (v := .bool (decide ((a.1 : Str) < (b.1 : Str)))) (want_by rfl rfl c_2) rfl (q_lssT rfl rfl) ?_
      refine HO.val (v := .bool (decide ((a.1 : Str) < (b.1 : Str)))) (want_by rfl rfl c_1) rfl (q_pickK true rfl c_2 rfl) ?_
      refine HO.val (v := .bool (decide ((a.1 : Str) < (b.1 : Str)))) (want_none) rfl (q_pickK false rfl c_1 rfl) ?_
      refine HO.val (v := .bool (decide ((a.1 : Str) < (b.1 : Str)))) (want_none) rfl (q_assign rfl) ?_
      refine HO.nil (thenQ_normal (?_))
      refine HW.ret (?_)
      refine ⟨.inr rfl, .bool (decide ((a.1 : Str) < (b.1 : Str))), res1 rfl (rt rfl), ?_⟩
      replace hS : St F (fr) h_2 := hS.perm2 [] 2 rfl rfl
      exact ⟨F, decide ((a.1 : Str) < (b.1 : Str)), rfl, hK, hS, hM⟩
    · replace hM := hM.2 (of_decide_eq_false c_2)
      refine HO.past (past_by rfl rfl c_2) rfl ?_
      refine HO.past (past_by rfl rfl c_2) rfl ?_
      refine HO.past (past_by rfl rfl c_2) rfl ?_
      refine HO.past (past_by rfl rfl c_2) rfl ?_
      refine HO.past (past_by rfl rfl c_2) rfl ?_
      refine HO.val (v := .bool false) (want_by rfl rfl c_1) rfl (q_pickK false rfl c_2 rfl) ?_
      refine HO.val (v := .bool false) (want_none) rfl (q_pickK false rfl c_1 rfl) ?_
      refine HO.val (v := .bool false) (want_none) rfl (q_assign rfl) ?_
      refine HO.nil (thenQ_normal (?_))
      refine HW.ret (?_)
      refine ⟨.inr rfl, .bool false, res1 rfl (rt rfl), ?_⟩
      replace hS : St F (fr) h_2 := hS.perm2 [] 2 rfl rfl
      exact ⟨F, false, rfl, hK, hS, hM⟩

def ref12_Set_j1 (key : Str) (at1 : Int) (Q : (List T_acequiaref12_Entry) → Prop) (r_2 : List T_acequiaref12_Entry) (i_1 : Int) : Prop :=
  ((0 : Int) ≤ i_1 ∧ i_1 ≤ (r_2.length : Int)) ∧ (((0 : Int) ≤ 0 ∧ 0 ≤ i_1 ∧ i_1 ≤ (r_2.length : Int)) ∧ (((([] : List T_acequiaref12_Entry).length + (cut r_2 0 i_1).length) * 24 ≤ 140737488355328) ∧ ((((([] : List T_acequiaref12_Entry) ++ (cut r_2 0 i_1)).length + ([(key, at1)] : List T_acequiaref12_Entry).length) * 24 ≤ 140737488355328) ∧ (((0 : Int) ≤ i_1 ∧ i_1 ≤ (r_2.length : Int) ∧ (r_2.length : Int) ≤ (r_2.length : Int)) ∧ (((((([] : List T_acequiaref12_Entry) ++ (cut r_2 0 i_1)) ++ ([(key, at1)] : List T_acequiaref12_Entry)).length + (cut r_2 i_1 (r_2.length : Int)).length) * 24 ≤ 140737488355328) ∧ (Q (((([] : List T_acequiaref12_Entry) ++ (cut r_2 0 i_1)) ++ ([(key, at1)] : List T_acequiaref12_Entry)) ++ (cut r_2 i_1 (r_2.length : Int)))))))))
def ref12_Set_l1 (key : Str) (at1 : Int) (Q : (List T_acequiaref12_Entry) → Prop) (r_2 : List T_acequiaref12_Entry) (K_1 : Int → Prop) (i_2 : Int) : Prop :=
  (i_2 < (r_2.length : Int) → ((0 : Int) ≤ i_2 ∧ i_2 < (r_2.length : Int)) ∧ (ref12_before_W (gi r_2 i_2) (key, at1) (fun r_3 => (r_3 = true → (I64 (i_2 + 1)) ∧ (K_1 (i_2 + 1))) ∧ (r_3 = false → ref12_Set_j1 key at1 Q r_2 i_2)))) ∧ (¬ (i_2 < (r_2.length : Int)) → ref12_Set_j1 key at1 Q r_2 i_2)
def ref12_Set_W (l : List T_acequiaref12_Entry) (key : Str) (at1 : Int) (Q : (List T_acequiaref12_Entry) → Prop) : Prop :=
  ref12_Cut_W l key (fun r_2 => loopW (fun (K_1 : Int → Prop) (s : Int) => ref12_Set_l1 key at1 Q r_2 K_1 s) 0)
set_option maxHeartbeats 40000000 in
set_option maxRecDepth 100000 in
theorem ref12_Set_walk {F : Fz} {fr : List Ow} {h0 : Heap} (l : List T_acequiaref12_Entry) (key : Str) (at1 : Int) (vl : Value) (hS : St F (fr) h0) (hL_l : SliceF F h0 2 e_acequiaref12_Entry vl l) {Q : (List T_acequiaref12_Entry) → Prop} (hM : ref12_Set_W l key at1 Q) :
    HC Try.prog 12 #[vl, .string (bs key), .int .i64 at1] h0 fun u h' => ∃ (F' : Fz) (r_1 : List T_acequiaref12_Entry) (vr_1 : Value), u = vr_1 ∧ Kp F h0 F' h' ∧ St F' (Ow.own 80 2 e_acequiaref12_Entry vr_1 r_1 :: fr) h' ∧ (SliceF F' h' 2 e_acequiaref12_Entry vl l) ∧ Q r_1 := by
  unfold ref12_Set_W at hM
  have hK := Kp.refl F h0
  refine HC.of_HW (n := 41) Try.func12 rfl rfl (Nat.le_of_ble_eq_true rfl) ?_
  refine HW.seq ?_
  refine HW.region ?_
  refine HO.val (v := .slice none 0 0) (want_none) rfl (q_assign rfl) ?_
  refine HO.nil (thenQ_normal (?_))
  refine HW.seq ?_
  refine HW.region ?_
  refine HO.val (v := vl) (want_none) rfl (q_move rfl) ?_
  refine HO.val (v := .string (bs key)) (want_none) rfl (q_move rfl) ?_
  refine HO.call (want_none) rfl (ec en_14 rfl rfl) (ref12_Cut_walk (fr := (fr)) l key vl hS hL_l hM) ?_
  rintro vr_2 h_1 ⟨F_1, r_2, _, rfl, hk, hS, _, hM⟩
  replace hK := hK.trans hk
  replace hL_l := hL_l.kp hk
  refine HO.val (v := .string (bs key)) (want_none) rfl (q_move rfl) ?_
  refine HO.val (v := .int .i64 at1) (want_none) rfl (q_move rfl) ?_
  refine HO.val (v := .agg #[.string (bs key), .int .i64 at1]) (want_none) rfl (q_build tp_80 rfl) ?_
  refine HO.eff (want_none) rfl (st_alloc (c := #[.string (bs []), .int .i64 0]) hS tz_80 rfl) ?_
  rintro _ h_2 ⟨b_1, rfl, hS, hk⟩
  replace hK := hK.trans hk
  replace hL_l := hL_l.kp hk
  refine HO.val (v := vr_2) (want_none) rfl (q_assign rfl) ?_
  refine HO.sto (want_none) rfl (st_storeAgg (c' := #[.string (bs key), .int .i64 at1]) hS (i := 0) rfl ta_80 rfl rfl rfl (by simp [Value.oneCell']) (Nat.le_of_ble_eq_true rfl) rfl) ?_
  rintro h_3 ⟨hS, hk⟩
  replace hS : St F_1 (Ow.box b_1 80 #[.string (bs key), .int .i64 at1] :: Ow.own 80 2 e_acequiaref12_Entry vr_2 r_2 :: fr) h_3 := hS
  replace hK := hK.trans hk
  replace hL_l := hL_l.kp hk
  refine HO.val (v := .int .i64 0) (want_none) rfl (q_assign rfl) ?_
  refine HO.nil (thenQ_normal (?_))
  refine HW.seq_mid (fun f h => ∃ (F' : Fz) (i_1 : Int), f 0 = vr_2 ∧ f 6 = .slice none 0 0 ∧ f 7 = .pointer (some ⟨b_1, 0, none⟩) ∧ f 8 = .int .i64 i_1 ∧ Kp F h0 F' h ∧ St F' (Ow.own 80 2 e_acequiaref12_Entry vr_2 r_2 :: Ow.box b_1 80 #[.string (bs key), .int .i64 at1] :: fr) h ∧ (SliceF F' h 2 e_acequiaref12_Entry vl l) ∧ ref12_Set_j1 key at1 Q r_2 i_1) ?_ ?_
  · refine HW.block ?_
    obtain ⟨I_1, m_1, hI_1, hR_1⟩ := hM
    replace hS : St F_1 (Ow.own 80 2 e_acequiaref12_Entry vr_2 r_2 :: Ow.box b_1 80 #[.string (bs key), .int .i64 at1] :: fr) h_3 := hS.perm2 [1, 0] 2 rfl rfl
    refine HW.loop (S := Int) (fun i_2 f h => ∃ (F' : Fz), f 0 = vr_2 ∧ f 6 = .slice none 0 0 ∧ f 7 = .pointer (some ⟨b_1, 0, none⟩) ∧ f 8 = .int .i64 i_2 ∧ Kp F h0 F' h ∧ St F' (Ow.own 80 2 e_acequiaref12_Entry vr_2 r_2 :: Ow.box b_1 80 #[.string (bs key), .int .i64 at1] :: fr) h ∧ (SliceF F' h 2 e_acequiaref12_Entry vl l) ∧ I_1 i_2) m_1 0 ⟨F_1, rfl, rfl, rfl, rfl, hK, hS, hL_l, hI_1⟩ ?_
    rintro i_2 f_1 h_4 ⟨F_2, e0, e6, e7, e8, hK, hS, hL_l, hI0⟩
    obtain ⟨K_1, hKe_1⟩ : ∃ K : Int → Prop, K = fun i_2' => I_1 i_2' ∧ m_1 i_2' < m_1 i_2 := ⟨_, rfl⟩
    have hM : ref12_Set_l1 key at1 Q r_2 K_1 i_2 := by rw [hKe_1]; exact hR_1 i_2 hI0
    unfold ref12_Set_l1 at hM
    refine HW.fr [(0, vr_2), (6, .slice none 0 0), (7, .pointer (some ⟨b_1, 0, none⟩)), (8, .int .i64 i_2)] ⟨e0, e6, e7, e8, trivial⟩ ?_
    refine HW.seq ?_
    refine HW.seq ?_
    refine HW.regionA 12 mixed (fun h => (OwnIs h 0 80 2 e_acequiaref12_Entry vr_2 r_2) ∧ (Blk h b_1 (.cells #[.string (bs key), .int .i64 at1] 80 (0, 0)))) [] (by kernel_rfl) ?_
    refine HA.val (k := 0) (v := .int .i64 i_2) rfl rfl (by kernel_rfl) (by kernel_rfl) (want_none) rfl (fun _ ⟨c305, c306⟩ => q_move rfl) ?_
    refine HA.val (k := 1) (v := vr_2) rfl rfl (by kernel_rfl) (by kernel_rfl) (want_none) rfl (fun _ ⟨c305, c306⟩ => q_move rfl) ?_
    refine HA.val (k := 2) (v := .int .i64 (r_2.length : Int)) rfl rfl (by kernel_rfl) (by kernel_rfl) (want_none) rfl (fun _ ⟨c305, c306⟩ => q_len ts_25 (shp c305.slice) rfl rfl) ?_
    refine HA.val (k := 3) (v := .bool (decide (i_2 < (r_2.length : Int)))) rfl rfl (by kernel_rfl) (by kernel_rfl) (want_none) rfl (fun _ ⟨c305, c306⟩ => q_lss rfl rfl) ?_
    refine HA.val (k := 4) (v := .bool (decide (i_2 < (r_2.length : Int)))) rfl rfl (by kernel_rfl) (by kernel_rfl) (want_none) rfl (fun _ ⟨c305, c306⟩ => q_move rfl) ?_
    rcases Bool.eq_false_or_eq_true (decide (i_2 < (r_2.length : Int))) with c_1 | c_1
    · replace hM := hM.1 (of_decide_eq_true c_1)
      refine HA.val (k := 5) (v := vr_2) rfl rfl (by kernel_rfl) (by kernel_rfl) (want_by rfl rfl c_1) rfl (fun _ ⟨c305, c306⟩ => q_move rfl) ?_
      refine HA.val (k := 6) (v := .int .i64 i_2) rfl rfl (by kernel_rfl) (by kernel_rfl) (want_by rfl rfl c_1) rfl (fun _ ⟨c305, c306⟩ => q_move rfl) ?_
      obtain ⟨ho_1, hM⟩ := hM
      refine HA.val (k := 7) (v := elemPtr 2 vr_2 (i_2).toNat) rfl rfl (by kernel_rfl) (by kernel_rfl) (want_by rfl rfl c_1) rfl (fun _ ⟨c305, c306⟩ => q_idx ts_25 c305.slice rfl rfl ho_1) ?_
      refine HA.val (k := 8) (v := .agg #[.string (bs ((gi r_2 i_2).1)), .int .i64 ((gi r_2 i_2).2)]) rfl rfl (by kernel_rfl) (by kernel_rfl) (want_by rfl rfl c_1) rfl (fun _ ⟨c305, c306⟩ => q_ldElemAgg (cs := [.string (bs ((gi r_2 i_2).1)), .int .i64 ((gi r_2 i_2).2)]) ta_80 c305.slice rfl ho_1 rfl) ?_
      refine HA.val (k := 9) (v := .agg #[.string (bs key), .int .i64 at1]) rfl rfl (by kernel_rfl) (by kernel_rfl) (want_by rfl rfl c_1) rfl (fun _ ⟨c305, c306⟩ => q_loadAgg (cs := [.string (bs key), .int .i64 at1]) ta_80 rfl rfl (Blk.cells (k := 2) c306 rfl)) ?_
      refine HA.one (k := 10) ⟨⟨(hS.own 0 rfl), (hS.box 1 rfl)⟩, (Go.Wk.at_nil _ _)⟩ (by kernel_rfl) ?_
      refine HS.call rfl (want_by rfl rfl c_1) rfl (ec en_45 rfl rfl) (ref12_before_walk (fr := (Ow.own 80 2 e_acequiaref12_Entry vr_2 r_2 :: Ow.box b_1 80 #[.string (bs key), .int .i64 at1] :: fr)) (gi r_2 i_2) (key, at1) hS hM) ?_
      rintro _ h_5 ⟨F_3, r_3, rfl, hk, hS, hM⟩
      replace hK := hK.trans hk
      replace hL_l := hL_l.kp hk
      refine HA.val (k := 11) (v := .bool r_3) rfl rfl (by kernel_rfl) (by kernel_rfl) (want_none) rfl (fun _ ⟨c305, c306⟩ => q_pickK true rfl c_1 rfl) ?_
      refine HA.nil ⟨⟨(hS.own 0 rfl), (hS.box 1 rfl)⟩, (Go.Wk.at_nil _ _)⟩ (by kernel_rfl) (thenQ_normal (?_))
      refine HW.cond r_3 rfl (fun c_2 => ?_) (fun c_2 => ?_)
      · replace hM := hM.1 c_2
        refine HW.skip (thenQ_normal (?_))
        refine HW.block ?_
        refine HW.region ?_
        refine HO.val (v := .int .i64 i_2) (want_none) rfl (q_move rfl) ?_
        obtain ⟨ho_2, hM⟩ := hM
        refine HO.val (v := .int .i64 (i_2 + 1)) (want_none) rfl (q_addN _ rfl rfl rfl ho_2.1 ho_2.2) ?_
        refine HO.val (v := .int .i64 (i_2 + 1)) (want_none) rfl (q_assign rfl) ?_
        refine HO.nil (blockQ_normal (thenQ_normal (?_)))
        rw [hKe_1] at hM
        exact ⟨i_2 + 1, ⟨F_3, rfl, rfl, rfl, rfl, hK, hS, hL_l, hM.1⟩, hM.2⟩
      · replace hM := hM.2 c_2
        refine HW.exit (thenQ_exit (thenQ_exit (blockQ_exit (thenQ_normal (?_)))))
        exact ⟨F_3, i_2, rfl, rfl, rfl, rfl, hK, hS, hL_l, hM⟩
    · replace hM := hM.2 (of_decide_eq_false c_1)
      refine HA.past (k := 5) rfl rfl (by kernel_rfl) (by kernel_rfl) (past_by rfl rfl c_1) rfl ?_
      refine HA.past (k := 6) rfl rfl (by kernel_rfl) (by kernel_rfl) (past_by rfl rfl c_1) rfl ?_
      refine HA.past (k := 7) rfl rfl (by kernel_rfl) (by kernel_rfl) (past_by rfl rfl c_1) rfl ?_
      refine HA.past (k := 8) rfl rfl (by kernel_rfl) (by kernel_rfl) (past_by rfl rfl c_1) rfl ?_
      refine HA.past (k := 9) rfl rfl (by kernel_rfl) (by kernel_rfl) (past_by rfl rfl c_1) rfl ?_
      refine HA.one (k := 10) ⟨⟨(hS.own 0 rfl), (hS.box 1 rfl)⟩, (Go.Wk.at_nil _ _)⟩ (by kernel_rfl) ?_
      refine HS.past rfl (past_by rfl rfl c_1) rfl ?_
      refine HA.val (k := 11) (v := .bool false) rfl rfl (by kernel_rfl) (by kernel_rfl) (want_none) rfl (fun _ ⟨c305, c306⟩ => q_pickK false rfl c_1 rfl) ?_
      refine HA.nil ⟨⟨(hS.own 0 rfl), (hS.box 1 rfl)⟩, (Go.Wk.at_nil _ _)⟩ (by kernel_rfl) (thenQ_normal (?_))
      refine HW.condF rfl ?_
      refine HW.exit (thenQ_exit (thenQ_exit (blockQ_exit (thenQ_normal (?_)))))
      exact ⟨F_2, i_2, rfl, rfl, rfl, rfl, hK, hS, hL_l, hM⟩
  · rintro f_2 h_6 ⟨F_4, i_1, e0, e6, e7, e8, hK, hS, hL_l, hM⟩
    unfold ref12_Set_j1 at hM
    refine HW.fr [(0, vr_2), (6, .slice none 0 0), (7, .pointer (some ⟨b_1, 0, none⟩)), (8, .int .i64 i_1)] ⟨e0, e6, e7, e8, trivial⟩ ?_
    refine HW.seq ?_
    obtain ⟨ho_3, hM⟩ := hM
    obtain ⟨ho_4, hM⟩ := hM
    obtain ⟨ho_5, hM⟩ := hM
    obtain ⟨ho_6, hM⟩ := hM
    obtain ⟨ho_7, hM⟩ := hM
    obtain ⟨ho_8, hM⟩ := hM
    refine HW.regionA 13 mixed (fun h => (OwnIs h 0 80 2 e_acequiaref12_Entry vr_2 r_2) ∧ (Blk h b_1 (.cells #[.string (bs key), .int .i64 at1] 80 (0, 0)))) [] (by kernel_rfl) ?_
    refine HA.val (k := 1) (v := vr_2) rfl rfl (by kernel_rfl) (by kernel_rfl) (want_none) rfl (fun _ ⟨c203, c204⟩ => q_move rfl) ?_
    refine HA.val (k := 2) (v := .int .i64 i_1) rfl rfl (by kernel_rfl) (by kernel_rfl) (want_none) rfl (fun _ ⟨c203, c204⟩ => q_move rfl) ?_
    refine HA.val (k := 3) (v := cutV 2 vr_2 (0 : Int).toNat (i_1).toNat) rfl rfl (by kernel_rfl) (by kernel_rfl) (want_none) rfl (fun _ ⟨c203, c204⟩ => q_slH ts_25 c203.slice rfl rfl ho_3) ?_
    refine HA.val (k := 5) (v := .agg #[.string (bs key), .int .i64 at1]) rfl rfl (by kernel_rfl) (by kernel_rfl) (want_none) rfl (fun _ ⟨c203, c204⟩ => q_loadAgg (cs := [.string (bs key), .int .i64 at1]) ta_80 rfl rfl (Blk.cells (k := 2) c204 rfl)) ?_
    refine HA.val (k := 8) (v := vr_2) rfl rfl (by kernel_rfl) (by kernel_rfl) (want_none) rfl (fun _ ⟨c203, c204⟩ => q_move rfl) ?_
    refine HA.val (k := 9) (v := .int .i64 i_1) rfl rfl (by kernel_rfl) (by kernel_rfl) (want_none) rfl (fun _ ⟨c203, c204⟩ => q_move rfl) ?_
    refine HA.val (k := 10) (v := cutV 2 vr_2 (i_1).toNat ((r_2.length : Int)).toNat) rfl rfl (by kernel_rfl) (by kernel_rfl) (want_none) rfl (fun _ ⟨c203, c204⟩ => q_slL ts_25 c203.slice rfl rfl ho_3) ?_
    refine HA.two (k := 0) (k' := 6) ⟨⟨(hS.own 0 rfl), (hS.box 1 rfl)⟩, (Go.Wk.at_nil _ _)⟩ (by kernel_rfl) ?_ ?_
    · refine HS.eff rfl (want_none) rfl (st_litEmpty (α := T_acequiaref12_Entry) e_acequiaref12_Entry hS tl_25) ?_
      rintro _ h_7 ⟨b_2, rfl, hS, hk⟩
      replace hK := hK.trans hk
      replace hL_l := hL_l.kp hk
      refine HA.two (k := 4) (k' := 6) ⟨⟨(hS.own 1 rfl), (hS.box 2 rfl)⟩, (Go.Wk.at_nil _ _)⟩ (by kernel_rfl) ?_ ?_
      · refine HS.eff rfl (want_none) rfl (st_append te_25 hS (i := 0) rfl (cutIs (hS.own 1 rfl).slice 0 i_1 ho_4.1 ho_4.2.1 ho_4.2.2) rfl rfl rfl (by intro a _ u hu; simp [e_acequiaref12_Entry, encI, encN, encB, encT] at hu; rcases hu with rfl | rfl <;> rfl) ho_5 (by omega)) ?_
        rintro v_1 h_8 ⟨hS, hk⟩
        replace hS : St F_4 (Ow.own 80 2 e_acequiaref12_Entry v_1 (([] : List T_acequiaref12_Entry) ++ (cut r_2 0 i_1)) :: Ow.own 80 2 e_acequiaref12_Entry vr_2 r_2 :: Ow.box b_1 80 #[.string (bs key), .int .i64 at1] :: fr) h_8 := hS
        replace hK := hK.trans hk
        replace hL_l := hL_l.kp hk
        refine HA.one (k := 6) ⟨⟨(hS.own 1 rfl), (hS.box 2 rfl)⟩, (Go.Wk.at_nil _ _)⟩ (by kernel_rfl) ?_
        refine HS.eff rfl (want_none) rfl (st_lit (enc := e_acequiaref12_Entry) (cells := #[.string (bs key), .int .i64 at1]) #[.string (bs []), .int .i64 0] ([(key, at1)] : List T_acequiaref12_Entry) hS tl_25 (by decide) (by decide) (by kernel_rfl) (by kernel_rfl) rfl (by intro x hx; rfl) rfl) ?_
        rintro _ h_9 ⟨b_3, rfl, hS, hk⟩
        replace hK := hK.trans hk
        replace hL_l := hL_l.kp hk
        refine HA.one (k := 7) ⟨⟨(hS.own 2 rfl), (hS.box 3 rfl)⟩, (Go.Wk.at_nil _ _)⟩ (by kernel_rfl) ?_
        refine HS.eff rfl (want_none) rfl (st_append te_25 hS (i := 1) rfl (hS.own 0 rfl).slice rfl rfl rfl (by intro a _ u hu; simp [e_acequiaref12_Entry, encI, encN, encB, encT] at hu; rcases hu with rfl | rfl <;> rfl) ho_6 (by omega)) ?_
        rintro v_2 h_10 ⟨hS, hk⟩
        replace hS : St F_4 (Ow.own 80 2 e_acequiaref12_Entry (.slice (some ⟨b_3, 0, none⟩) 1 1) ([(key, at1)] : List T_acequiaref12_Entry) :: Ow.own 80 2 e_acequiaref12_Entry v_2 ((([] : List T_acequiaref12_Entry) ++ (cut r_2 0 i_1)) ++ ([(key, at1)] : List T_acequiaref12_Entry)) :: Ow.own 80 2 e_acequiaref12_Entry vr_2 r_2 :: Ow.box b_1 80 #[.string (bs key), .int .i64 at1] :: fr) h_10 := hS
        replace hK := hK.trans hk
        replace hL_l := hL_l.kp hk
        refine HA.one (k := 11) ⟨⟨(hS.own 2 rfl), (hS.box 3 rfl)⟩, (Go.Wk.at_nil _ _)⟩ (by kernel_rfl) ?_
        refine HS.eff rfl (want_none) rfl (st_append te_25 hS (i := 1) rfl (cutIs (hS.own 2 rfl).slice i_1 (r_2.length : Int) ho_7.1 ho_7.2.1 ho_7.2.2) rfl rfl rfl (by intro a _ u hu; simp [e_acequiaref12_Entry, encI, encN, encB, encT] at hu; rcases hu with rfl | rfl <;> rfl) ho_8 (by omega)) ?_
        rintro v_3 h_11 ⟨hS, hk⟩
        replace hS : St F_4 (Ow.own 80 2 e_acequiaref12_Entry (.slice (some ⟨b_3, 0, none⟩) 1 1) ([(key, at1)] : List T_acequiaref12_Entry) :: Ow.own 80 2 e_acequiaref12_Entry v_3 (((([] : List T_acequiaref12_Entry) ++ (cut r_2 0 i_1)) ++ ([(key, at1)] : List T_acequiaref12_Entry)) ++ (cut r_2 i_1 (r_2.length : Int))) :: Ow.own 80 2 e_acequiaref12_Entry vr_2 r_2 :: Ow.box b_1 80 #[.string (bs key), .int .i64 at1] :: fr) h_11 := hS
        replace hK := hK.trans hk
        replace hL_l := hL_l.kp hk
        refine HA.val (k := 12) (v := v_3) rfl rfl (by kernel_rfl) (by kernel_rfl) (want_none) rfl (fun _ ⟨c203, c204⟩ => q_assign rfl) ?_
        refine HA.nil ⟨⟨(hS.own 2 rfl), (hS.box 3 rfl)⟩, (Go.Wk.at_nil _ _)⟩ (by kernel_rfl) (thenQ_normal (?_))
        refine HW.ret (?_)
        refine ⟨.inr rfl, v_3, res1 rfl (rt rfl), ?_⟩
        replace hS : St F_4 (Ow.own 80 2 e_acequiaref12_Entry v_3 (((([] : List T_acequiaref12_Entry) ++ (cut r_2 0 i_1)) ++ ([(key, at1)] : List T_acequiaref12_Entry)) ++ (cut r_2 i_1 (r_2.length : Int))) :: fr) h_11 := hS.perm2 [1] 4 rfl rfl
        exact ⟨F_4, ((([] : List T_acequiaref12_Entry) ++ (cut r_2 0 i_1)) ++ ([(key, at1)] : List T_acequiaref12_Entry)) ++ (cut r_2 i_1 (r_2.length : Int)), v_3, rfl, hK, hS, hL_l, hM⟩
      · refine HS.eff rfl (want_none) rfl (st_lit (enc := e_acequiaref12_Entry) (cells := #[.string (bs key), .int .i64 at1]) #[.string (bs []), .int .i64 0] ([(key, at1)] : List T_acequiaref12_Entry) hS tl_25 (by decide) (by decide) (by kernel_rfl) (by kernel_rfl) rfl (by intro x hx; rfl) rfl) ?_
        rintro _ h_8 ⟨b_3, rfl, hS, hk⟩
        replace hK := hK.trans hk
        replace hL_l := hL_l.kp hk
        refine HA.one (k := 4) ⟨⟨(hS.own 2 rfl), (hS.box 3 rfl)⟩, (Go.Wk.at_nil _ _)⟩ (by kernel_rfl) ?_
        refine HS.eff rfl (want_none) rfl (st_append te_25 hS (i := 1) rfl (cutIs (hS.own 2 rfl).slice 0 i_1 ho_4.1 ho_4.2.1 ho_4.2.2) rfl rfl rfl (by intro a _ u hu; simp [e_acequiaref12_Entry, encI, encN, encB, encT] at hu; rcases hu with rfl | rfl <;> rfl) ho_5 (by omega)) ?_
        rintro v_1 h_9 ⟨hS, hk⟩
        replace hS : St F_4 (Ow.own 80 2 e_acequiaref12_Entry (.slice (some ⟨b_3, 0, none⟩) 1 1) ([(key, at1)] : List T_acequiaref12_Entry) :: Ow.own 80 2 e_acequiaref12_Entry v_1 (([] : List T_acequiaref12_Entry) ++ (cut r_2 0 i_1)) :: Ow.own 80 2 e_acequiaref12_Entry vr_2 r_2 :: Ow.box b_1 80 #[.string (bs key), .int .i64 at1] :: fr) h_9 := hS
        replace hK := hK.trans hk
        replace hL_l := hL_l.kp hk
        refine HA.one (k := 7) ⟨⟨(hS.own 2 rfl), (hS.box 3 rfl)⟩, (Go.Wk.at_nil _ _)⟩ (by kernel_rfl) ?_
        refine HS.eff rfl (want_none) rfl (st_append te_25 hS (i := 1) rfl (hS.own 0 rfl).slice rfl rfl rfl (by intro a _ u hu; simp [e_acequiaref12_Entry, encI, encN, encB, encT] at hu; rcases hu with rfl | rfl <;> rfl) ho_6 (by omega)) ?_
        rintro v_2 h_10 ⟨hS, hk⟩
        replace hS : St F_4 (Ow.own 80 2 e_acequiaref12_Entry (.slice (some ⟨b_3, 0, none⟩) 1 1) ([(key, at1)] : List T_acequiaref12_Entry) :: Ow.own 80 2 e_acequiaref12_Entry v_2 ((([] : List T_acequiaref12_Entry) ++ (cut r_2 0 i_1)) ++ ([(key, at1)] : List T_acequiaref12_Entry)) :: Ow.own 80 2 e_acequiaref12_Entry vr_2 r_2 :: Ow.box b_1 80 #[.string (bs key), .int .i64 at1] :: fr) h_10 := hS
        replace hK := hK.trans hk
        replace hL_l := hL_l.kp hk
        refine HA.one (k := 11) ⟨⟨(hS.own 2 rfl), (hS.box 3 rfl)⟩, (Go.Wk.at_nil _ _)⟩ (by kernel_rfl) ?_
        refine HS.eff rfl (want_none) rfl (st_append te_25 hS (i := 1) rfl (cutIs (hS.own 2 rfl).slice i_1 (r_2.length : Int) ho_7.1 ho_7.2.1 ho_7.2.2) rfl rfl rfl (by intro a _ u hu; simp [e_acequiaref12_Entry, encI, encN, encB, encT] at hu; rcases hu with rfl | rfl <;> rfl) ho_8 (by omega)) ?_
        rintro v_3 h_11 ⟨hS, hk⟩
        replace hS : St F_4 (Ow.own 80 2 e_acequiaref12_Entry (.slice (some ⟨b_3, 0, none⟩) 1 1) ([(key, at1)] : List T_acequiaref12_Entry) :: Ow.own 80 2 e_acequiaref12_Entry v_3 (((([] : List T_acequiaref12_Entry) ++ (cut r_2 0 i_1)) ++ ([(key, at1)] : List T_acequiaref12_Entry)) ++ (cut r_2 i_1 (r_2.length : Int))) :: Ow.own 80 2 e_acequiaref12_Entry vr_2 r_2 :: Ow.box b_1 80 #[.string (bs key), .int .i64 at1] :: fr) h_11 := hS
        replace hK := hK.trans hk
        replace hL_l := hL_l.kp hk
        refine HA.val (k := 12) (v := v_3) rfl rfl (by kernel_rfl) (by kernel_rfl) (want_none) rfl (fun _ ⟨c203, c204⟩ => q_assign rfl) ?_
        refine HA.nil ⟨⟨(hS.own 2 rfl), (hS.box 3 rfl)⟩, (Go.Wk.at_nil _ _)⟩ (by kernel_rfl) (thenQ_normal (?_))
        refine HW.ret (?_)
        refine ⟨.inr rfl, v_3, res1 rfl (rt rfl), ?_⟩
        replace hS : St F_4 (Ow.own 80 2 e_acequiaref12_Entry v_3 (((([] : List T_acequiaref12_Entry) ++ (cut r_2 0 i_1)) ++ ([(key, at1)] : List T_acequiaref12_Entry)) ++ (cut r_2 i_1 (r_2.length : Int))) :: fr) h_11 := hS.perm2 [1] 4 rfl rfl
        exact ⟨F_4, ((([] : List T_acequiaref12_Entry) ++ (cut r_2 0 i_1)) ++ ([(key, at1)] : List T_acequiaref12_Entry)) ++ (cut r_2 i_1 (r_2.length : Int)), v_3, rfl, hK, hS, hL_l, hM⟩
    · refine HS.eff rfl (want_none) rfl (st_lit (enc := e_acequiaref12_Entry) (cells := #[.string (bs key), .int .i64 at1]) #[.string (bs []), .int .i64 0] ([(key, at1)] : List T_acequiaref12_Entry) hS tl_25 (by decide) (by decide) (by kernel_rfl) (by kernel_rfl) rfl (by intro x hx; rfl) rfl) ?_
      rintro _ h_7 ⟨b_2, rfl, hS, hk⟩
      replace hK := hK.trans hk
      replace hL_l := hL_l.kp hk
      refine HA.one (k := 0) ⟨⟨(hS.own 1 rfl), (hS.box 2 rfl)⟩, (Go.Wk.at_nil _ _)⟩ (by kernel_rfl) ?_
      refine HS.eff rfl (want_none) rfl (st_litEmpty (α := T_acequiaref12_Entry) e_acequiaref12_Entry hS tl_25) ?_
      rintro _ h_8 ⟨b_3, rfl, hS, hk⟩
      replace hK := hK.trans hk
      replace hL_l := hL_l.kp hk
      refine HA.one (k := 4) ⟨⟨(hS.own 2 rfl), (hS.box 3 rfl)⟩, (Go.Wk.at_nil _ _)⟩ (by kernel_rfl) ?_
      refine HS.eff rfl (want_none) rfl (st_append te_25 hS (i := 0) rfl (cutIs (hS.own 2 rfl).slice 0 i_1 ho_4.1 ho_4.2.1 ho_4.2.2) rfl rfl rfl (by intro a _ u hu; simp [e_acequiaref12_Entry, encI, encN, encB, encT] at hu; rcases hu with rfl | rfl <;> rfl) ho_5 (by omega)) ?_
      rintro v_1 h_9 ⟨hS, hk⟩
      replace hS : St F_4 (Ow.own 80 2 e_acequiaref12_Entry v_1 (([] : List T_acequiaref12_Entry) ++ (cut r_2 0 i_1)) :: Ow.own 80 2 e_acequiaref12_Entry (.slice (some ⟨b_2, 0, none⟩) 1 1) ([(key, at1)] : List T_acequiaref12_Entry) :: Ow.own 80 2 e_acequiaref12_Entry vr_2 r_2 :: Ow.box b_1 80 #[.string (bs key), .int .i64 at1] :: fr) h_9 := hS
      replace hK := hK.trans hk
      replace hL_l := hL_l.kp hk
      refine HA.one (k := 7) ⟨⟨(hS.own 2 rfl), (hS.box 3 rfl)⟩, (Go.Wk.at_nil _ _)⟩ (by kernel_rfl) ?_
      refine HS.eff rfl (want_none) rfl (st_append te_25 hS (i := 0) rfl (hS.own 1 rfl).slice rfl rfl rfl (by intro a _ u hu; simp [e_acequiaref12_Entry, encI, encN, encB, encT] at hu; rcases hu with rfl | rfl <;> rfl) ho_6 (by omega)) ?_
      rintro v_2 h_10 ⟨hS, hk⟩
      replace hS : St F_4 (Ow.own 80 2 e_acequiaref12_Entry v_2 ((([] : List T_acequiaref12_Entry) ++ (cut r_2 0 i_1)) ++ ([(key, at1)] : List T_acequiaref12_Entry)) :: Ow.own 80 2 e_acequiaref12_Entry (.slice (some ⟨b_2, 0, none⟩) 1 1) ([(key, at1)] : List T_acequiaref12_Entry) :: Ow.own 80 2 e_acequiaref12_Entry vr_2 r_2 :: Ow.box b_1 80 #[.string (bs key), .int .i64 at1] :: fr) h_10 := hS
      replace hK := hK.trans hk
      replace hL_l := hL_l.kp hk
      refine HA.one (k := 11) ⟨⟨(hS.own 2 rfl), (hS.box 3 rfl)⟩, (Go.Wk.at_nil _ _)⟩ (by kernel_rfl) ?_
      refine HS.eff rfl (want_none) rfl (st_append te_25 hS (i := 0) rfl (cutIs (hS.own 2 rfl).slice i_1 (r_2.length : Int) ho_7.1 ho_7.2.1 ho_7.2.2) rfl rfl rfl (by intro a _ u hu; simp [e_acequiaref12_Entry, encI, encN, encB, encT] at hu; rcases hu with rfl | rfl <;> rfl) ho_8 (by omega)) ?_
      rintro v_3 h_11 ⟨hS, hk⟩
      replace hS : St F_4 (Ow.own 80 2 e_acequiaref12_Entry v_3 (((([] : List T_acequiaref12_Entry) ++ (cut r_2 0 i_1)) ++ ([(key, at1)] : List T_acequiaref12_Entry)) ++ (cut r_2 i_1 (r_2.length : Int))) :: Ow.own 80 2 e_acequiaref12_Entry (.slice (some ⟨b_2, 0, none⟩) 1 1) ([(key, at1)] : List T_acequiaref12_Entry) :: Ow.own 80 2 e_acequiaref12_Entry vr_2 r_2 :: Ow.box b_1 80 #[.string (bs key), .int .i64 at1] :: fr) h_11 := hS
      replace hK := hK.trans hk
      replace hL_l := hL_l.kp hk
      refine HA.val (k := 12) (v := v_3) rfl rfl (by kernel_rfl) (by kernel_rfl) (want_none) rfl (fun _ ⟨c203, c204⟩ => q_assign rfl) ?_
      refine HA.nil ⟨⟨(hS.own 2 rfl), (hS.box 3 rfl)⟩, (Go.Wk.at_nil _ _)⟩ (by kernel_rfl) (thenQ_normal (?_))
      refine HW.ret (?_)
      refine ⟨.inr rfl, v_3, res1 rfl (rt rfl), ?_⟩
      replace hS : St F_4 (Ow.own 80 2 e_acequiaref12_Entry v_3 (((([] : List T_acequiaref12_Entry) ++ (cut r_2 0 i_1)) ++ ([(key, at1)] : List T_acequiaref12_Entry)) ++ (cut r_2 i_1 (r_2.length : Int))) :: fr) h_11 := hS.perm2 [0] 4 rfl rfl
      exact ⟨F_4, ((([] : List T_acequiaref12_Entry) ++ (cut r_2 0 i_1)) ++ ([(key, at1)] : List T_acequiaref12_Entry)) ++ (cut r_2 i_1 (r_2.length : Int)), v_3, rfl, hK, hS, hL_l, hM⟩

def clock_Clock_Cut_string_W (c_at : List (Str × Int)) (key : Str) (Q : Bool → (List (Str × Int)) → Prop) : Prop :=
  Q ((mget c_at key).isSome) (mdel c_at key)
set_option maxHeartbeats 40000000 in
set_option maxRecDepth 100000 in
theorem clock_Clock_Cut_string_walk {F : Fz} {fr : List Ow} {h0 : Heap} (c_at : List (Str × Int)) (key : Str) (bc : Nat) (rc_at : Nat) (hS : St F (Ow.box bc 78 #[.map (some rc_at)] :: Ow.map rc_at kT kI c_at :: fr) h0)  {Q : Bool → (List (Str × Int)) → Prop} (hM : clock_Clock_Cut_string_W c_at key Q) :
    HC Try.prog 13 #[.pointer (some ⟨bc, 0, none⟩), .string (bs key)] h0 fun u h' => ∃ (F' : Fz) (r_1 : Bool) (cm_1 : List (Str × Int)), u = .bool r_1 ∧ Kp F h0 F' h' ∧ St F' (Ow.box bc 78 #[.map (some rc_at)] :: Ow.map rc_at kT kI cm_1 :: fr) h' ∧ Q r_1 cm_1 := by
  unfold clock_Clock_Cut_string_W at hM
  have hK := Kp.refl F h0
  refine HC.of_HW (n := 24) Try.func13 rfl rfl (Nat.le_of_ble_eq_true rfl) ?_
  refine HW.seq ?_
  refine HW.region ?_
  refine HO.val (v := .bool false) (want_none) rfl (q_assign rfl) ?_
  refine HO.nil (thenQ_normal (?_))
  refine HW.seq ?_
  refine HW.seq ?_
  refine HW.region ?_
  refine HO.val (v := .pointer (some ⟨bc, 0, none⟩)) (want_none) rfl (q_move rfl) ?_
  refine HO.val (v := .bool false) (want_none) rfl (q_eqlPnil Try.underlying23 rfl rfl rfl) ?_
  refine HO.nil (thenQ_normal (?_))
  refine HW.condF rfl ?_
  refine HW.skip (thenQ_normal (?_))
  refine HW.seq ?_
  refine HW.region ?_
  refine HO.val (v := .pointer (some ⟨bc, 0, none⟩)) (want_none) rfl (q_move rfl) ?_
  refine HO.val (v := .pointer (some ⟨bc, 0, none⟩)) (want_none) rfl (q_nilCheck rfl) ?_
  refine HO.val (v := .pointer (some ⟨bc, 0, none⟩)) (want_none) rfl (q_fieldAddr fa_78_0 rfl rfl) ?_
  refine HO.val (v := .map (some rc_at)) (want_none) rfl (q_load to_76 rfl (Blk.cell (hS.box 0 rfl) rfl)) ?_
  refine HO.val (v := .string (bs key)) (want_none) rfl (q_move rfl) ?_
  refine HO.val (v := .tuple #[.int .i64 (mget0 c_at key), .bool ((mget c_at key).isSome)]) (want_none) rfl ((q_lookupOk (k := key) ka_9 tmk_76 (hS.mp 1 rfl) rfl rfl).of_eq (congrArg (fun v => Value.tuple #[v, _]) (mval0 (z := .int .i64 0) rfl))) ?_
  refine HO.val (v := .tuple #[.int .i64 (mget0 c_at key), .bool ((mget c_at key).isSome)]) (want_none) rfl (q_move rfl) ?_
  refine HO.val (v := .int .i64 (mget0 c_at key)) (want_none) rfl (q_extract rfl rfl) ?_
  refine HO.val (v := .bool ((mget c_at key).isSome)) (want_none) rfl (q_extract rfl rfl) ?_
  refine HO.val (v := .int .i64 (mget0 c_at key)) (want_none) rfl (q_assign rfl) ?_
  refine HO.val (v := .bool ((mget c_at key).isSome)) (want_none) rfl (q_assign rfl) ?_
  refine HO.nil (thenQ_normal (?_))
  refine HW.seq ?_
  refine HW.region ?_
  refine HO.val (v := .pointer (some ⟨bc, 0, none⟩)) (want_none) rfl (q_move rfl) ?_
  refine HO.val (v := .pointer (some ⟨bc, 0, none⟩)) (want_none) rfl (q_nilCheck rfl) ?_
  refine HO.val (v := .pointer (some ⟨bc, 0, none⟩)) (want_none) rfl (q_fieldAddr fa_78_0 rfl rfl) ?_
  refine HO.val (v := .map (some rc_at)) (want_none) rfl (q_load to_76 rfl (Blk.cell (hS.box 0 rfl) rfl)) ?_
  refine HO.val (v := .string (bs key)) (want_none) rfl (q_move rfl) ?_
  refine HO.eff (want_none) rfl (st_deleteK (k := key) hS (i := 1) rfl ka_9 tmk_76 rfl rfl rfl) ?_
  rintro _ h_1 ⟨rfl, hS, hk⟩
  replace hS : St F (Ow.box bc 78 #[.map (some rc_at)] :: Ow.map rc_at kT kI (mdel c_at key) :: fr) h_1 := hS
  replace hK := hK.trans hk
  refine HO.nil (thenQ_normal (?_))
  refine HW.seq ?_
  refine HW.region ?_
  refine HO.val (v := .bool ((mget c_at key).isSome)) (want_none) rfl (q_move rfl) ?_
  refine HO.val (v := .bool ((mget c_at key).isSome)) (want_none) rfl (q_assign rfl) ?_
  refine HO.nil (thenQ_normal (?_))
  refine HW.ret (?_)
  refine ⟨.inr rfl, .bool ((mget c_at key).isSome), res1 rfl (rt rfl), ?_⟩
  exact ⟨F, (mget c_at key).isSome, mdel c_at key, rfl, hK, hS, hM⟩

def cmp_isNaN_int_W (x : Int) (Q : Bool → Prop) : Prop :=
  Q (!decide (x = x))
set_option maxHeartbeats 40000000 in
set_option maxRecDepth 100000 in
theorem cmp_isNaN_int_walk {F : Fz} {fr : List Ow} {h0 : Heap} (x : Int) (hS : St F (fr) h0)  {Q : Bool → Prop} (hM : cmp_isNaN_int_W x Q) :
    HC Try.prog 75 #[.int .i64 x] h0 fun u h' => ∃ (F' : Fz) (r_1 : Bool), u = .bool r_1 ∧ Kp F h0 F' h' ∧ St F' (fr) h' ∧ Q r_1 := by
  unfold cmp_isNaN_int_W at hM
  have hK := Kp.refl F h0
  refine HC.of_HW (n := 6) Try.func75 rfl rfl (Nat.le_of_ble_eq_true rfl) ?_
  refine HW.seq ?_
  refine HW.region ?_
  refine HO.val (v := .bool false) (want_none) rfl (q_assign rfl) ?_
  refine HO.nil (thenQ_normal (?_))
  refine HW.seq ?_
  refine HW.region ?_
  refine HO.val (v := .int .i64 x) (want_none) rfl (q_move rfl) ?_
  refine HO.val (v := .int .i64 x) (want_none) rfl (q_move rfl) ?_
  refine HO.val (v := .bool (!decide (x = x))) (want_none) rfl (q_neq rfl rfl) ?_
  refine HO.val (v := .bool (!decide (x = x))) (want_none) rfl (q_assign rfl) ?_
  refine HO.nil (thenQ_normal (?_))
  refine HW.ret (?_)
  refine ⟨.inr rfl, .bool (!decide (x = x)), res1 rfl (rt rfl), ?_⟩
  exact ⟨F, !decide (x = x), rfl, hK, hS, hM⟩

def cmp_Compare_int_W (x : Int) (y : Int) (Q : Int → Prop) : Prop :=
  cmp_isNaN_int_W x (fun r_2 => cmp_isNaN_int_W y (fun r_3 => (r_2 = true → (r_3 = true → Q 0) ∧ (r_3 = false → Q (-1))) ∧ (r_2 = false → (r_3 = true → Q 1) ∧ (r_3 = false → (x < y → Q (-1)) ∧ (¬ (x < y) → (y < x → Q 1) ∧ (¬ (y < x) → Q 0))))))
set_option maxHeartbeats 40000000 in
set_option maxRecDepth 100000 in
theorem cmp_Compare_int_walk {F : Fz} {fr : List Ow} {h0 : Heap} (x : Int) (y : Int) (hS : St F (fr) h0)  {Q : Int → Prop} (hM : cmp_Compare_int_W x y Q) :
    HC Try.prog 66 #[.int .i64 x, .int .i64 y] h0 fun u h' => ∃ (F' : Fz) (r_1 : Int), u = .int .i64 r_1 ∧ Kp F h0 F' h' ∧ St F' (fr) h' ∧ Q r_1 := by
  unfold cmp_Compare_int_W at hM
  have hK := Kp.refl F h0
  refine HC.of_HW (n := 20) Try.func66 rfl rfl (Nat.le_of_ble_eq_true rfl) ?_
  refine HW.seq ?_
  refine HW.region ?_
  refine HO.val (v := .int .i64 0) (want_none) rfl (q_assign rfl) ?_
  refine HO.nil (thenQ_normal (?_))
  refine HW.seq ?_
  refine HW.region ?_
  refine HO.val (v := .int .i64 x) (want_none) rfl (q_move rfl) ?_
  refine HO.call (want_none) rfl (ec en_75 rfl rfl) (cmp_isNaN_int_walk (fr := (fr)) x hS hM) ?_
  rintro _ h_1 ⟨F_1, r_2, rfl, hk, hS, hM⟩
  replace hK := hK.trans hk
  refine HO.val (v := .bool r_2) (want_none) rfl (q_assign rfl) ?_
  refine HO.nil (thenQ_normal (?_))
  refine HW.seq ?_
  refine HW.region ?_
  refine HO.val (v := .int .i64 y) (want_none) rfl (q_move rfl) ?_
  refine HO.call (want_none) rfl (ec en_75 rfl rfl) (cmp_isNaN_int_walk (fr := (fr)) y hS hM) ?_
  rintro _ h_2 ⟨F_2, r_3, rfl, hk, hS, hM⟩
  replace hK := hK.trans hk
  refine HO.val (v := .bool r_3) (want_none) rfl (q_assign rfl) ?_
  refine HO.nil (thenQ_normal (?_))
  refine HW.seq ?_
  refine HW.seq ?_
  refine HW.region ?_
  refine HO.val (v := .bool r_2) (want_none) rfl (q_move rfl) ?_
  refine HO.nil (thenQ_normal (?_))
  refine HW.cond r_2 rfl (fun c_1 => ?_) (fun c_1 => ?_)
  · replace hM := hM.1 c_1
    refine HW.seq ?_
    refine HW.seq ?_
    refine HW.region ?_
    refine HO.val (v := .bool r_3) (want_none) rfl (q_move rfl) ?_
    refine HO.nil (thenQ_normal (?_))
    refine HW.cond r_3 rfl (fun c_2 => ?_) (fun c_2 => ?_)
    · replace hM := hM.1 c_2
      refine HW.seq ?_
      refine HW.region ?_
      refine HO.val (v := .int .i64 0) (want_none) rfl (q_assign rfl) ?_
      refine HO.nil (thenQ_normal (?_))
      refine HW.ret (thenQ_ret (thenQ_ret (?_)))
      refine ⟨.inr rfl, .int .i64 0, res1 rfl (rt rfl), ?_⟩
      exact ⟨F_2, 0, rfl, hK, hS, hM⟩
    · replace hM := hM.2 c_2
      refine HW.skip (thenQ_normal (?_))
      refine HW.seq ?_
      refine HW.region ?_
      refine HO.val (v := .int .i64 (-1)) (want_none) rfl (q_assign rfl) ?_
      refine HO.nil (thenQ_normal (?_))
      refine HW.ret (thenQ_ret (?_))
      refine ⟨.inr rfl, .int .i64 (-1), res1 rfl (rt rfl), ?_⟩
      exact ⟨F_2, (-1), rfl, hK, hS, hM⟩
  · replace hM := hM.2 c_1
    refine HW.skip (thenQ_normal (?_))
    refine HW.seq ?_
    refine HW.seq ?_
    refine HW.region ?_
    refine HO.val (v := .bool r_3) (want_none) rfl (q_move rfl) ?_
    refine HO.nil (thenQ_normal (?_))
    refine HW.cond r_3 rfl (fun c_3 => ?_) (fun c_3 => ?_)
    · replace hM := hM.1 c_3
      refine HW.seq ?_
      refine HW.region ?_
      refine HO.val (v := .int .i64 1) (want_none) rfl (q_assign rfl) ?_
      refine HO.nil (thenQ_normal (?_))
      refine HW.ret (thenQ_ret (?_))
      refine ⟨.inr rfl, .int .i64 1, res1 rfl (rt rfl), ?_⟩
      exact ⟨F_2, 1, rfl, hK, hS, hM⟩
    · replace hM := hM.2 c_3
      refine HW.skip (thenQ_normal (?_))
      refine HW.seq ?_
      refine HW.seq ?_
      refine HW.region ?_
      refine HO.val (v := .int .i64 x) (want_none) rfl (q_move rfl) ?_
      refine HO.val (v := .int .i64 y) (want_none) rfl (q_move rfl) ?_
      refine HO.val (v := .bool (decide (x < y))) (want_none) rfl (q_lss rfl rfl) ?_
      refine HO.nil (thenQ_normal (?_))
      refine HW.cond (decide (x < y)) rfl (fun c_4 => ?_) (fun c_4 => ?_)
      · replace hM := hM.1 (of_decide_eq_true c_4)
        refine HW.seq ?_
        refine HW.region ?_
        refine HO.val (v := .int .i64 (-1)) (want_none) rfl (q_assign rfl) ?_
        refine HO.nil (thenQ_normal (?_))
        refine HW.ret (thenQ_ret (?_))
        refine ⟨.inr rfl, .int .i64 (-1), res1 rfl (rt rfl), ?_⟩
        exact ⟨F_2, (-1), rfl, hK, hS, hM⟩
      · replace hM := hM.2 (of_decide_eq_false c_4)
        refine HW.skip (thenQ_normal (?_))
        refine HW.seq ?_
        refine HW.seq ?_
        refine HW.region ?_
        refine HO.val (v := .int .i64 x) (want_none) rfl (q_move rfl) ?_
        refine HO.val (v := .int .i64 y) (want_none) rfl (q_move rfl) ?_
        refine HO.val (v := .bool (decide (y < x))) (want_none) rfl (q_gtr rfl rfl) ?_
        refine HO.nil (thenQ_normal (?_))
        refine HW.cond (decide (y < x)) rfl (fun c_5 => ?_) (fun c_5 => ?_)
        · replace hM := hM.1 (of_decide_eq_true c_5)
          refine HW.seq ?_
          refine HW.region ?_
          refine HO.val (v := .int .i64 1) (want_none) rfl (q_assign rfl) ?_
          refine HO.nil (thenQ_normal (?_))
          refine HW.ret (thenQ_ret (?_))
          refine ⟨.inr rfl, .int .i64 1, res1 rfl (rt rfl), ?_⟩
          exact ⟨F_2, 1, rfl, hK, hS, hM⟩
        · replace hM := hM.2 (of_decide_eq_false c_5)
          refine HW.skip (thenQ_normal (?_))
          refine HW.seq ?_
          refine HW.region ?_
          refine HO.val (v := .int .i64 0) (want_none) rfl (q_assign rfl) ?_
          refine HO.nil (thenQ_normal (?_))
          refine HW.ret (?_)
          refine ⟨.inr rfl, .int .i64 0, res1 rfl (rt rfl), ?_⟩
          exact ⟨F_2, 0, rfl, hK, hS, hM⟩

def cmp_isNaN_string_W (x : Str) (Q : Bool → Prop) : Prop :=
  Q (!decide ((x : Str) = x))
set_option maxHeartbeats 40000000 in
set_option maxRecDepth 100000 in
theorem cmp_isNaN_string_walk {F : Fz} {fr : List Ow} {h0 : Heap} (x : Str) (hS : St F (fr) h0)  {Q : Bool → Prop} (hM : cmp_isNaN_string_W x Q) :
    HC Try.prog 76 #[.string (bs x)] h0 fun u h' => ∃ (F' : Fz) (r_1 : Bool), u = .bool r_1 ∧ Kp F h0 F' h' ∧ St F' (fr) h' ∧ Q r_1 := by
  unfold cmp_isNaN_string_W at hM
  have hK := Kp.refl F h0
  refine HC.of_HW (n := 6) Try.func76 rfl rfl (Nat.le_of_ble_eq_true rfl) ?_
  refine HW.seq ?_
  refine HW.region ?_
  refine HO.val (v := .bool false) (want_none) rfl (q_assign rfl) ?_
  refine HO.nil (thenQ_normal (?_))
  refine HW.seq ?_
  refine HW.region ?_
  refine HO.val (v := .string (bs x)) (want_none) rfl (q_move rfl) ?_
  refine HO.val (v := .string (bs x)) (want_none) rfl (q_move rfl) ?_
  refine HO.val (v := .bool (!decide ((x : Str) = x))) (want_none) rfl (q_neqT rfl rfl) ?_
  refine HO.val (v := .bool (!decide ((x : Str) = x))) (want_none) rfl (q_assign rfl) ?_
  refine HO.nil (thenQ_normal (?_))
  refine HW.ret (?_)
  refine ⟨.inr rfl, .bool (!decide ((x : Str) = x)), res1 rfl (rt rfl), ?_⟩
  exact ⟨F, !decide ((x : Str) = x), rfl, hK, hS, hM⟩

def cmp_Compare_string_W (x : Str) (y : Str) (Q : Int → Prop) : Prop :=
  cmp_isNaN_string_W x (fun r_2 => cmp_isNaN_string_W y (fun r_3 => (r_2 = true → (r_3 = true → Q 0) ∧ (r_3 = false → Q (-1))) ∧ (r_2 = false → (r_3 = true → Q 1) ∧ (r_3 = false → ((x : Str) < (y : Str) → Q (-1)) ∧ (¬ ((x : Str) < (y : Str)) → (¬ ((x : Str) < (y : Str) ∨ (x : Str) = (y : Str)) → Q 1) ∧ ((x : Str) < (y : Str) ∨ (x : Str) = (y : Str) → Q 0))))))
set_option maxHeartbeats 40000000 in
set_option maxRecDepth 100000 in
theorem cmp_Compare_string_walk {F : Fz} {fr : List Ow} {h0 : Heap} (x : Str) (y : Str) (hS : St F (fr) h0)  {Q : Int → Prop} (hM : cmp_Compare_string_W x y Q) :
    HC Try.prog 67 #[.string (bs x), .string (bs y)] h0 fun u h' => ∃ (F' : Fz) (r_1 : Int), u = .int .i64 r_1 ∧ Kp F h0 F' h' ∧ St F' (fr) h' ∧ Q r_1 := by
  unfold cmp_Compare_string_W at hM
  have hK := Kp.refl F h0
  refine HC.of_HW (n := 20) Try.func67 rfl rfl (Nat.le_of_ble_eq_true rfl) ?_
  refine HW.seq ?_
  refine HW.region ?_
  refine HO.val (v := .int .i64 0) (want_none) rfl (q_assign rfl) ?_
  refine HO.nil (thenQ_normal (?_))
  refine HW.seq ?_
  refine HW.region ?_
  refine HO.val (v := .string (bs x)) (want_none) rfl (q_move rfl) ?_
  refine HO.call (want_none) rfl (ec en_76 rfl rfl) (cmp_isNaN_string_walk (fr := (fr)) x hS hM) ?_
  rintro _ h_1 ⟨F_1, r_2, rfl, hk, hS, hM⟩
  replace hK := hK.trans hk
  refine HO.val (v := .bool r_2) (want_none) rfl (q_assign rfl) ?_
  refine HO.nil (thenQ_normal (?_))
  refine HW.seq ?_
  refine HW.region ?_
  refine HO.val (v := .string (bs y)) (want_none) rfl (q_move rfl) ?_
  refine HO.call (want_none) rfl (ec en_76 rfl rfl) (cmp_isNaN_string_walk (fr := (fr)) y hS hM) ?_
  rintro _ h_2 ⟨F_2, r_3, rfl, hk, hS, hM⟩
  replace hK := hK.trans hk
  refine HO.val (v := .bool r_3) (want_none) rfl (q_assign rfl) ?_
  refine HO.nil (thenQ_normal (?_))
  refine HW.seq ?_
  refine HW.seq ?_
  refine HW.region ?_
  refine HO.val (v := .bool r_2) (want_none) rfl (q_move rfl) ?_
  refine HO.nil (thenQ_normal (?_))
  refine HW.cond r_2 rfl (fun c_1 => ?_) (fun c_1 => ?_)
  · replace hM := hM.1 c_1
    refine HW.seq ?_
    refine HW.seq ?_
    refine HW.region ?_
    refine HO.val (v := .bool r_3) (want_none) rfl (q_move rfl) ?_
    refine HO.nil (thenQ_normal (?_))
    refine HW.cond r_3 rfl (fun c_2 => ?_) (fun c_2 => ?_)
    · replace hM := hM.1 c_2
      refine HW.seq ?_
      refine HW.region ?_
      refine HO.val (v := .int .i64 0) (want_none) rfl (q_assign rfl) ?_
      refine HO.nil (thenQ_normal (?_))
      refine HW.ret (thenQ_ret (thenQ_ret (?_)))
      refine ⟨.inr rfl, .int .i64 0, res1 rfl (rt rfl), ?_⟩
      exact ⟨F_2, 0, rfl, hK, hS, hM⟩
    · replace hM := hM.2 c_2
      refine HW.skip (thenQ_normal (?_))
      refine HW.seq ?_
      refine HW.region ?_
      refine HO.val (v := .int .i64 (-1)) (want_none) rfl (q_assign rfl) ?_
      refine HO.nil (thenQ_normal (?_))
      refine HW.ret (thenQ_ret (?_))
      refine ⟨.inr rfl, .int .i64 (-1), res1 rfl (rt rfl), ?_⟩
      exact ⟨F_2, (-1), rfl, hK, hS, hM⟩
  · replace hM := hM.2 c_1
    refine HW.skip (thenQ_normal (?_))
    refine HW.seq ?_
    refine HW.seq ?_
    refine HW.region ?_
    refine HO.val (v := .bool r_3) (want_none) rfl (q_move rfl) ?_
    refine HO.nil (thenQ_normal (?_))
    refine HW.cond r_3 rfl (fun c_3 => ?_) (fun c_3 => ?_)
    · replace hM := hM.1 c_3
      refine HW.seq ?_
      refine HW.region ?_
      refine HO.val (v := .int .i64 1) (want_none) rfl (q_assign rfl) ?_
      refine HO.nil (thenQ_normal (?_))
      refine HW.ret (thenQ_ret (?_))
      refine ⟨.inr rfl, .int .i64 1, res1 rfl (rt rfl), ?_⟩
      exact ⟨F_2, 1, rfl, hK, hS, hM⟩
    · replace hM := hM.2 c_3
      refine HW.skip (thenQ_normal (?_))
      refine HW.seq ?_
      refine HW.seq ?_
      refine HW.region ?_
      refine HO.val (v := .string (bs x)) (want_none) rfl (q_move rfl) ?_
      refine HO.val (v := .string (bs y)) (want_none) rfl (q_move rfl) ?_
      refine HO.val (v := .bool (decide ((x : Str) < (y : Str)))) (want_none) rfl (q_lssT rfl rfl) ?_
      refine HO.nil (thenQ_normal (?_))
      refine HW.cond (decide ((x : Str) < (y : Str))) rfl (fun c_4 => ?_) (fun c_4 => ?_)
      · replace hM := hM.1 (of_decide_eq_true c_4)
        refine HW.seq ?_
        refine HW.region ?_
        refine HO.val (v := .int .i64 (-1)) (want_none) rfl (q_assign rfl) ?_
        refine HO.nil (thenQ_normal (?_))
        refine HW.ret (thenQ_ret (?_))
        refine ⟨.inr rfl, .int .i64 (-1), res1 rfl (rt rfl), ?_⟩
        exact ⟨F_2, (-1), rfl, hK, hS, hM⟩
      · replace hM := hM.2 (of_decide_eq_false c_4)
        refine HW.skip (thenQ_normal (?_))
        refine HW.seq ?_
        refine HW.seq ?_
        refine HW.region ?_
        refine HO.val (v := .string (bs x)) (want_none) rfl (q_move rfl) ?_
        refine HO.val (v := .string (bs y)) (want_none) rfl (q_move rfl) ?_
        refine HO.val (v := .bool (!decide ((x : Str) < (y : Str) ∨ (x : Str) = (y : Str)))) (want_none) rfl (q_gtrT rfl rfl) ?_
        refine HO.nil (thenQ_normal (?_))
        refine HW.cond (!decide ((x : Str) < (y : Str) ∨ (x : Str) = (y : Str))) rfl (fun c_5 => ?_) (fun c_5 => ?_)
        · replace hM := hM.1 (nd_true c_5)
          refine HW.seq ?_
          refine HW.region ?_
          refine HO.val (v := .int .i64 1) (want_none) rfl (q_assign rfl) ?_
          refine HO.nil (thenQ_normal (?_))
          refine HW.ret (thenQ_ret (?_))
          refine ⟨.inr rfl, .int .i64 1, res1 rfl (rt rfl), ?_⟩
          exact ⟨F_2, 1, rfl, hK, hS, hM⟩
        · replace hM := hM.2 (nd_false c_5)
          refine HW.skip (thenQ_normal (?_))
          refine HW.seq ?_
          refine HW.region ?_
          refine HO.val (v := .int .i64 0) (want_none) rfl (q_assign rfl) ?_
          refine HO.nil (thenQ_normal (?_))
          refine HW.ret (?_)
          refine ⟨.inr rfl, .int .i64 0, res1 rfl (rt rfl), ?_⟩
          exact ⟨F_2, 0, rfl, hK, hS, hM⟩

def cmp_Or_int_l1 (vals : List Int) (Q : Int → Prop) (K_1 : Int → Prop) (n_1 : Int) : Prop :=
  (n_1 < (vals.length : Int) → ((0 : Int) ≤ n_1 ∧ n_1 < (vals.length : Int)) ∧ ((¬ ((gi vals n_1) = 0) → Q (gi vals n_1)) ∧ ((gi vals n_1) = 0 → (I64 (n_1 + 1)) ∧ (K_1 (n_1 + 1))))) ∧ (¬ (n_1 < (vals.length : Int)) → Q 0)
def cmp_Or_int_W (vals : List Int) (Q : Int → Prop) : Prop :=
  loopW (fun (K_1 : Int → Prop) (s : Int) => cmp_Or_int_l1 vals Q K_1 s) 0
set_option maxHeartbeats 40000000 in
set_option maxRecDepth 100000 in
theorem cmp_Or_int_walk {F : Fz} {fr : List Ow} {h0 : Heap} (vals : List Int) (vvals : Value) (hS : St F (fr) h0) (hL_vals : SliceF F h0 1 encI vvals vals) {Q : Int → Prop} (hM : cmp_Or_int_W vals Q) :
    HC Try.prog 65 #[vvals] h0 fun u h' => ∃ (F' : Fz) (r_1 : Int), u = .int .i64 r_1 ∧ Kp F h0 F' h' ∧ St F' (fr) h' ∧ (SliceF F' h' 1 encI vvals vals) ∧ Q r_1 := by
  unfold cmp_Or_int_W at hM
  have hK := Kp.refl F h0
  refine HC.of_HW (n := 18) Try.func65 rfl rfl (Nat.le_of_ble_eq_true rfl) ?_
  refine HW.seq ?_
  refine HW.region ?_
  refine HO.val (v := .int .i64 0) (want_none) rfl (q_assign rfl) ?_
  refine HO.nil (thenQ_normal (?_))
  refine HW.seq ?_
  refine HW.region ?_
  refine HO.val (v := .int .i64 0) (want_none) rfl (q_assign rfl) ?_
  refine HO.nil (thenQ_normal (?_))
  refine HW.seq ?_
  refine HW.seq ?_
  refine HW.region ?_
  refine HO.val (v := vvals) (want_none) rfl (q_move rfl) ?_
  refine HO.val (v := .int .i64 (vals.length : Int)) (want_none) rfl (q_len ts_68 (shp hL_vals.is) rfl rfl) ?_
  refine HO.val (v := .int .i64 0) (want_none) rfl (q_move rfl) ?_
  refine HO.nil (thenQ_normal (?_))
  refine HW.block ?_
  obtain ⟨I_1, m_1, hI_1, hR_1⟩ := hM
  refine HW.loop (S := Int) (fun n_1 f h => ∃ (F' : Fz), f 2 = .int .i64 0 ∧ f 3 = .int .i64 0 ∧ f 6 = vvals ∧ f 7 = .int .i64 (vals.length : Int) ∧ f 8 = .int .i64 n_1 ∧ Kp F h0 F' h ∧ St F' (fr) h ∧ (SliceF F' h 1 encI vvals vals) ∧ I_1 n_1) m_1 0 ⟨F, rfl, rfl, rfl, rfl, rfl, hK, hS, hL_vals, hI_1⟩ ?_
  rintro n_1 f_1 h_1 ⟨F_1, e2, e3, e6, e7, e8, hK, hS, hL_vals, hI0⟩
  obtain ⟨K_1, hKe_1⟩ : ∃ K : Int → Prop, K = fun n_1' => I_1 n_1' ∧ m_1 n_1' < m_1 n_1 := ⟨_, rfl⟩
  have hM : cmp_Or_int_l1 vals Q K_1 n_1 := by rw [hKe_1]; exact hR_1 n_1 hI0
  unfold cmp_Or_int_l1 at hM
  refine HW.fr [(2, .int .i64 0), (3, .int .i64 0), (6, vvals), (7, .int .i64 (vals.length : Int)), (8, .int .i64 n_1)] ⟨e2, e3, e6, e7, e8, trivial⟩ ?_
  refine HW.seq ?_
  refine HW.region ?_
  refine HO.val (v := .bool (decide (n_1 < (vals.length : Int)))) (want_none) rfl (q_lss rfl rfl) ?_
  refine HO.nil (thenQ_normal (?_))
  refine HW.seq ?_
  refine HW.cond (decide (n_1 < (vals.length : Int))) rfl (fun c_1 => ?_) (fun c_1 => ?_)
  · replace hM := hM.1 (of_decide_eq_true c_1)
    refine HW.skip (thenQ_normal (?_))
    refine HW.seq ?_
    refine HW.block ?_
    refine HW.seq ?_
    refine HW.region ?_
    obtain ⟨ho_1, hM⟩ := hM
    refine HO.val (v := elemPtr 1 vvals (n_1).toNat) (want_none) rfl (q_idx ts_68 hL_vals.is rfl rfl ho_1) ?_
    refine HO.val (v := .int .i64 (gi vals n_1)) (want_none) rfl (q_ldElem to_3 hL_vals.is rfl ho_1 rfl) ?_
    refine HO.val (v := .int .i64 (gi vals n_1)) (want_none) rfl (q_assign rfl) ?_
    refine HO.nil (thenQ_normal (?_))
    refine HW.seq ?_
    refine HW.region ?_
    refine HO.val (v := .int .i64 (gi vals n_1)) (want_none) rfl (q_move rfl) ?_
    refine HO.val (v := .int .i64 0) (want_none) rfl (q_move rfl) ?_
    refine HO.val (v := .bool (!decide ((gi vals n_1) = 0))) (want_none) rfl (q_neq rfl rfl) ?_
    refine HO.nil (thenQ_normal (?_))
    refine HW.cond (!decide ((gi vals n_1) = 0)) rfl (fun c_2 => ?_) (fun c_2 => ?_)
    · replace hM := hM.1 (nd_true c_2)
      refine HW.seq ?_
      refine HW.region ?_
      refine HO.val (v := .int .i64 (gi vals n_1)) (want_none) rfl (q_move rfl) ?_
      refine HO.val (v := .int .i64 (gi vals n_1)) (want_none) rfl (q_assign rfl) ?_
      refine HO.nil (thenQ_normal (?_))
      refine HW.ret (blockQ_ret (thenQ_ret (thenQ_ret (blockQ_ret (thenQ_ret (?_))))))
      refine ⟨.inr rfl, .int .i64 (gi vals n_1), res1 rfl (rt rfl), ?_⟩
      exact ⟨F_1, (gi vals n_1), rfl, hK, hS, hL_vals, hM⟩
    · replace hM := hM.2 (nd_false c_2)
      refine HW.skip (blockQ_normal (thenQ_normal (?_)))
      refine HW.region ?_
      obtain ⟨ho_2, hM⟩ := hM
      refine HO.val (v := .int .i64 (n_1 + 1)) (want_none) rfl (q_addN _ rfl rfl rfl ho_2.1 ho_2.2) ?_
      refine HO.val (v := .int .i64 (n_1 + 1)) (want_none) rfl (q_move rfl) ?_
      refine HO.nil (thenQ_normal (?_))
      rw [hKe_1] at hM
      exact ⟨n_1 + 1, ⟨F_1, rfl, rfl, rfl, rfl, rfl, hK, hS, hL_vals, hM.1⟩, hM.2⟩
  · replace hM := hM.2 (of_decide_eq_false c_1)
    refine HW.exit (thenQ_exit (thenQ_exit (blockQ_exit (thenQ_normal (?_)))))
    refine HW.seq ?_
    refine HW.region ?_
    refine HO.val (v := .int .i64 0) (want_none) rfl (q_move rfl) ?_
    refine HO.val (v := .int .i64 0) (want_none) rfl (q_assign rfl) ?_
    refine HO.nil (thenQ_normal (?_))
    refine HW.ret (?_)
    refine ⟨.inr rfl, .int .i64 0, res1 rfl (rt rfl), ?_⟩
    exact ⟨F_1, 0, rfl, hK, hS, hL_vals, hM⟩

def clock_Clock_before_string_W (c_at : List (Str × Int)) (a : Str) (b : Str) (Q : Int → Prop) : Prop :=
  cmp_Compare_int_W (mget0 c_at a) (mget0 c_at b) (fun r_2 => cmp_Compare_string_W a b (fun r_3 => cmp_Or_int_W ([r_2, r_3] : List Int) (fun r_4 => Q r_4)))
set_option maxHeartbeats 40000000 in
set_option maxRecDepth 100000 in
theorem clock_Clock_before_string_walk {F : Fz} {fr : List Ow} {h0 : Heap} (c_at : List (Str × Int)) (a : Str) (b : Str) (bc : Nat) (rc_at : Nat) (hS : St F (fr) h0) (hM_rc_at : RoF (Ow.map rc_at kT kI c_at) F h0) (hB_bc : RoF (Ow.box bc 78 #[.map (some rc_at)]) F h0) {Q : Int → Prop} (hM : clock_Clock_before_string_W c_at a b Q) :
    HC Try.prog 49 #[.pointer (some ⟨bc, 0, none⟩), .string (bs a), .string (bs b)] h0 fun u h' => ∃ (F' : Fz) (r_1 : Int), u = .int .i64 r_1 ∧ Kp F h0 F' h' ∧ St F' (fr) h' ∧ (RoF (Ow.map rc_at kT kI c_at) F' h') ∧ (RoF (Ow.box bc 78 #[.map (some rc_at)]) F' h') ∧ Q r_1 := by
  unfold clock_Clock_before_string_W at hM
  have hK := Kp.refl F h0
  refine HC.of_HW (n := 25) Try.func49 rfl rfl (Nat.le_of_ble_eq_true rfl) ?_
  refine HW.seq ?_
  refine HW.region ?_
  refine HO.val (v := .int .i64 0) (want_none) rfl (q_assign rfl) ?_
  refine HO.nil (thenQ_normal (?_))
  refine HW.seq ?_
  refine HW.regionA 19 mixed (fun h => (MapIs h rc_at kT kI c_at) ∧ (Blk h bc (.cells #[.map (some rc_at)] 78 (0, 0)))) [] (by kernel_rfl) ?_
  refine HA.val (k := 0) (v := .pointer (some ⟨bc, 0, none⟩)) rfl rfl (by kernel_rfl) (by kernel_rfl) (want_none) rfl (fun _ ⟨hM_rc_at, hB_bc⟩ => q_move rfl) ?_
  refine HA.val (k := 1) (v := .pointer (some ⟨bc, 0, none⟩)) rfl rfl (by kernel_rfl) (by kernel_rfl) (want_none) rfl (fun _ ⟨hM_rc_at, hB_bc⟩ => q_nilCheck rfl) ?_
  refine HA.val (k := 2) (v := .pointer (some ⟨bc, 0, none⟩)) rfl rfl (by kernel_rfl) (by kernel_rfl) (want_none) rfl (fun _ ⟨hM_rc_at, hB_bc⟩ => q_fieldAddr fa_78_0 rfl rfl) ?_
  refine HA.val (k := 3) (v := .map (some rc_at)) rfl rfl (by kernel_rfl) (by kernel_rfl) (want_none) rfl (fun _ ⟨hM_rc_at, hB_bc⟩ => q_load to_76 rfl (Blk.cell hB_bc rfl)) ?_
  refine HA.val (k := 4) (v := .string (bs a)) rfl rfl (by kernel_rfl) (by kernel_rfl) (want_none) rfl (fun _ ⟨hM_rc_at, hB_bc⟩ => q_move rfl) ?_
  refine HA.val (k := 5) (v := .int .i64 (mget0 c_at a)) rfl rfl (by kernel_rfl) (by kernel_rfl) (want_none) rfl (fun _ ⟨hM_rc_at, hB_bc⟩ => (q_lookup (k := a) ka_9 tmk_76 hM_rc_at rfl rfl).of_eq (mval0 (z := .int .i64 0) rfl)) ?_
  refine HA.val (k := 6) (v := .pointer (some ⟨bc, 0, none⟩)) rfl rfl (by kernel_rfl) (by kernel_rfl) (want_none) rfl (fun _ ⟨hM_rc_at, hB_bc⟩ => q_move rfl) ?_
  refine HA.val (k := 7) (v := .pointer (some ⟨bc, 0, none⟩)) rfl rfl (by kernel_rfl) (by kernel_rfl) (want_none) rfl (fun _ ⟨hM_rc_at, hB_bc⟩ => q_nilCheck rfl) ?_
  refine HA.val (k := 8) (v := .pointer (some ⟨bc, 0, none⟩)) rfl rfl (by kernel_rfl) (by kernel_rfl) (want_none) rfl (fun _ ⟨hM_rc_at, hB_bc⟩ => q_fieldAddr fa_78_0 rfl rfl) ?_
  refine HA.val (k := 9) (v := .map (some rc_at)) rfl rfl (by kernel_rfl) (by kernel_rfl) (want_none) rfl (fun _ ⟨hM_rc_at, hB_bc⟩ => q_load to_76 rfl (Blk.cell hB_bc rfl)) ?_
  refine HA.val (k := 10) (v := .string (bs b)) rfl rfl (by kernel_rfl) (by kernel_rfl) (want_none) rfl (fun _ ⟨hM_rc_at, hB_bc⟩ => q_move rfl) ?_
  refine HA.val (k := 11) (v := .int .i64 (mget0 c_at b)) rfl rfl (by kernel_rfl) (by kernel_rfl) (want_none) rfl (fun _ ⟨hM_rc_at, hB_bc⟩ => (q_lookup (k := b) ka_9 tmk_76 hM_rc_at rfl rfl).of_eq (mval0 (z := .int .i64 0) rfl)) ?_
  refine HA.val (k := 13) (v := .string (bs a)) rfl rfl (by kernel_rfl) (by kernel_rfl) (want_none) rfl (fun _ ⟨hM_rc_at, hB_bc⟩ => q_move rfl) ?_
  refine HA.val (k := 14) (v := .string (bs b)) rfl rfl (by kernel_rfl) (by kernel_rfl) (want_none) rfl (fun _ ⟨hM_rc_at, hB_bc⟩ => q_move rfl) ?_
  refine HA.one (k := 12) ⟨⟨hM_rc_at.mp, hB_bc.box⟩, (Go.Wk.at_nil _ _)⟩ (by kernel_rfl) ?_
  refine HS.call rfl (want_none) rfl (ec en_66 rfl rfl) (cmp_Compare_int_walk (fr := (fr)) (mget0 c_at a) (mget0 c_at b) hS hM) ?_
  rintro _ h_1 ⟨F_1, r_2, rfl, hk, hS, hM⟩
  replace hK := hK.trans hk
  replace hM_rc_at := hM_rc_at.kp hk
  replace hB_bc := hB_bc.kp hk
  refine HA.one (k := 15) ⟨⟨hM_rc_at.mp, hB_bc.box⟩, (Go.Wk.at_nil _ _)⟩ (by kernel_rfl) ?_
  refine HS.call rfl (want_none) rfl (ec en_67 rfl rfl) (cmp_Compare_string_walk (fr := (fr)) a b hS hM) ?_
  rintro _ h_2 ⟨F_2, r_3, rfl, hk, hS, hM⟩
  replace hK := hK.trans hk
  replace hM_rc_at := hM_rc_at.kp hk
  replace hB_bc := hB_bc.kp hk
  refine HA.one (k := 16) ⟨⟨hM_rc_at.mp, hB_bc.box⟩, (Go.Wk.at_nil _ _)⟩ (by kernel_rfl) ?_
  refine HS.eff rfl (want_none) rfl (st_lit (enc := encI) (cells := #[.int .i64 r_2, .int .i64 r_3]) #[.int .i64 0, .int .i64 0] ([r_2, r_3] : List Int) hS tl_68 (by decide) (by decide) (by kernel_rfl) (by kernel_rfl) rfl (by intro x hx; rfl) rfl) ?_
  rintro _ h_3 ⟨b_1, rfl, hS, hk⟩
  replace hK := hK.trans hk
  replace hM_rc_at := hM_rc_at.kp hk
  replace hB_bc := hB_bc.kp hk
  refine HA.one (k := 17) ⟨⟨hM_rc_at.mp, hB_bc.box⟩, (Go.Wk.at_nil _ _)⟩ (by kernel_rfl) ?_
  have hZ_1 := hS
  have hkz_1 := (hS.freeze).2
  replace hS := hS.freeze.1
  have hL_1 : SliceF (fun b => F_2 b ∨ (Ow.own 3 1 encI (.slice (some ⟨b_1, 0, none⟩) 2 2) ([r_2, r_3] : List Int)).foot b) h_3 1 encI (.slice (some ⟨b_1, 0, none⟩) 2 2) ([r_2, r_3] : List Int) := ⟨(hZ_1.own 0 rfl).slice, fun _ b hb => .inr hb⟩
  refine HS.call rfl (want_none) rfl (ec en_65 rfl rfl) (cmp_Or_int_walk (fr := (fr)) ([r_2, r_3] : List Int) (.slice (some ⟨b_1, 0, none⟩) 2 2) hS hL_1 hM) ?_
  rintro _ h_4 ⟨F_3, r_4, rfl, hk, hS, _, hM⟩
  obtain ⟨hS, hk⟩ := hZ_1.back hk hS
  generalize (fun b => F_3 b ∧ ¬ (Ow.own 3 1 encI (.slice (some ⟨b_1, 0, none⟩) 2 2) ([r_2, r_3] : List Int)).foot b) = F_4 at hS hk
  replace hK := hK.trans hk
  replace hM_rc_at := hM_rc_at.kp hk
  replace hB_bc := hB_bc.kp hk
  refine HA.val (k := 18) (v := .int .i64 r_4) rfl rfl (by kernel_rfl) (by kernel_rfl) (want_none) rfl (fun _ ⟨hM_rc_at, hB_bc⟩ => q_assign rfl) ?_
  refine HA.nil ⟨⟨hM_rc_at.mp, hB_bc.box⟩, (Go.Wk.at_nil _ _)⟩ (by kernel_rfl) (thenQ_normal (?_))
  refine HW.ret (?_)
  refine ⟨.inr rfl, .int .i64 r_4, res1 rfl (rt rfl), ?_⟩
  replace hS : St F_4 (fr) h_4 := hS.perm2 [] 1 rfl rfl
  exact ⟨F_4, r_4, rfl, hK, hS, hM_rc_at, hB_bc, hM⟩

def clock_Clock_due_string_l1 (c_at : List (Str × Int)) (now : Int) (Q : (List Str) → (List (Str × Int)) → Prop) (K_1 : (List (Str × Int)) → (List Str) → Prop) (rem_1 : List (Str × Int)) (out_1 : List Str) : Prop :=
  (rem_1 = [] → ∃ cf_1 : Str → Str → Int, (∀ x0 x1, clock_Clock_before_string_W c_at x0 x1 (fun r => r = cf_1 x0 x1)) ∧ (slices_SortFunc_s_string_string_W out_1 cf_1 (fun x_1 => Q x_1 c_at))) ∧ (∀ (p_1 : Str × Int) (rem_2 : List (Str × Int)), List.Perm rem_1 (p_1 :: rem_2) → (p_1.2 ≤ now → ((out_1.length + ([p_1.1] : List Str).length) * 16 ≤ 140737488355328) ∧ (K_1 rem_2 (out_1 ++ ([p_1.1] : List Str)))) ∧ (¬ (p_1.2 ≤ now) → K_1 rem_2 out_1))
def clock_Clock_due_string_W (c_at : List (Str × Int)) (now : Int) (Q : (List Str) → (List (Str × Int)) → Prop) : Prop :=
  loopW (fun (K_1 : ((List (Str × Int)) × List Str) → Prop) (s : (List (Str × Int)) × List Str) => clock_Clock_due_string_l1 c_at now Q (fun rem_1 out_1 => K_1 (rem_1, out_1)) s.1 s.2) (c_at, [])
set_option maxHeartbeats 40000000 in
set_option maxRecDepth 100000 in
theorem clock_Clock_due_string_walk {F : Fz} {fr : List Ow} {h0 : Heap} (c_at : List (Str × Int)) (now : Int) (bc : Nat) (rc_at : Nat) (hS : St F (Ow.box bc 78 #[.map (some rc_at)] :: Ow.map rc_at kT kI c_at :: fr) h0)  {Q : (List Str) → (List (Str × Int)) → Prop} (hM : clock_Clock_due_string_W c_at now Q) :
    HC Try.prog 46 #[.pointer (some ⟨bc, 0, none⟩), .int .i64 now] h0 fun u h' => ∃ (F' : Fz) (r_1 : List Str) (cm_1 : List (Str × Int)) (vr_1 : Value), u = vr_1 ∧ Kp F h0 F' h' ∧ St F' (Ow.own 9 1 encT vr_1 r_1 :: Ow.box bc 78 #[.map (some rc_at)] :: Ow.map rc_at kT kI cm_1 :: fr) h' ∧ Q r_1 cm_1 := by
  unfold clock_Clock_due_string_W at hM
  have hK := Kp.refl F h0
  refine HC.of_HW (n := 32) Try.func46 rfl rfl (Nat.le_of_ble_eq_true rfl) ?_
  refine HW.seq ?_
  refine HW.region ?_
  refine HO.val (v := .slice none 0 0) (want_none) rfl (q_assign rfl) ?_
  refine HO.nil (thenQ_normal (?_))
  refine HW.seq ?_
  refine HW.region ?_
  refine HO.val (v := .slice none 0 0) (want_none) rfl (q_assign rfl) ?_
  refine HO.nil (thenQ_normal (?_))
  refine HW.seq ?_
  refine HW.seq ?_
  refine HW.region ?_
  refine HO.val (v := .pointer (some ⟨bc, 0, none⟩)) (want_none) rfl (q_move rfl) ?_
  refine HO.val (v := .bool false) (want_none) rfl (q_eqlPnil Try.underlying23 rfl rfl rfl) ?_
  refine HO.nil (thenQ_normal (?_))
  refine HW.condF rfl ?_
  refine HW.skip (thenQ_normal (?_))
  refine HW.seq ?_
  refine HW.seq ?_
  refine HW.region ?_
  refine HO.val (v := .pointer (some ⟨bc, 0, none⟩)) (want_none) rfl (q_move rfl) ?_
  refine HO.val (v := .pointer (some ⟨bc, 0, none⟩)) (want_none) rfl (q_nilCheck rfl) ?_
  refine HO.val (v := .pointer (some ⟨bc, 0, none⟩)) (want_none) rfl (q_fieldAddr fa_78_0 rfl rfl) ?_
  refine HO.val (v := .map (some rc_at)) (want_none) rfl (q_load to_76 rfl (Blk.cell (hS.box 0 rfl) rfl)) ?_
  refine HO.eff (want_none) rfl (st_range hS (i := 1) rfl Try.underlying76 rfl) ?_
  rintro _ h_1 ⟨it_1, rfl, hS, hk⟩
  replace hS : St F (Ow.box bc 78 #[.map (some rc_at)] :: Ow.iter it_1 rc_at kT kI c_at c_at :: fr) h_1 := hS
  replace hK := hK.trans hk
  refine HO.nil (thenQ_normal (?_))
  refine HW.block ?_
  obtain ⟨I_1, m_1, hI_1, hR_1⟩ := hM
  replace hS := hS.nilOwn 9 1 encT
  replace hS : St F (Ow.box bc 78 #[.map (some rc_at)] :: Ow.iter it_1 rc_at kT kI c_at c_at :: Ow.own 9 1 encT (.slice none 0 0) ([] : List Str) :: fr) h_1 := hS.perm2 [1, 2, 0] 3 rfl rfl
  refine HW.loop (S := (List (Str × Int)) × List Str) (fun s f h => match s with | (rem_1, out_1) => ∃ (F' : Fz) (vout_1 : Value), f 0 = .pointer (some ⟨bc, 0, none⟩) ∧ f 1 = .int .i64 now ∧ f 4 = .slice none 0 0 ∧ f 5 = vout_1 ∧ f 14 = .pointer (some ⟨it_1, 0, none⟩) ∧ Kp F h0 F' h ∧ St F' (Ow.box bc 78 #[.map (some rc_at)] :: Ow.iter it_1 rc_at kT kI c_at rem_1 :: Ow.own 9 1 encT vout_1 out_1 :: fr) h ∧ I_1 (rem_1, out_1)) m_1 (c_at, []) ⟨F, .slice none 0 0, rfl, rfl, rfl, rfl, rfl, hK, hS, hI_1⟩ ?_
  rintro ⟨rem_1, out_1⟩ f_1 h_2 ⟨F_1, vout_1, e0, e1, e4, e5, e14, hK, hS, hI0⟩
  obtain ⟨K_1, hKe_1⟩ : ∃ K : (List (Str × Int)) → (List Str) → Prop, K = fun rem_1' out_1' => I_1 (rem_1', out_1') ∧ m_1 (rem_1', out_1') < m_1 (rem_1, out_1) := ⟨_, rfl⟩
  have hM : clock_Clock_due_string_l1 c_at now Q K_1 rem_1 out_1 := by rw [hKe_1]; exact hR_1 (rem_1, out_1) hI0
  unfold clock_Clock_due_string_l1 at hM
  refine HW.fr [(0, .pointer (some ⟨bc, 0, none⟩)), (1, .int .i64 now), (4, .slice none 0 0), (5, vout_1), (14, .pointer (some ⟨it_1, 0, none⟩))] ⟨e0, e1, e4, e5, e14, trivial⟩ ?_
  refine HW.seq ?_
  refine HW.region ?_
  refine HO.eff (want_none) rfl (st_next hS (i := 1) rfl rfl) ?_
  rintro _ h_3 (⟨hrem, rfl, hEq⟩ | ⟨p_1, rem_2, hperm, rfl, hS, hk⟩)
  · rw [hEq]
    replace hM := hM.1 hrem
    replace hS := hS.done 1 rfl
    replace hS : St F_1 (Ow.box bc 78 #[.map (some rc_at)] :: Ow.map rc_at kT kI c_at :: Ow.own 9 1 encT vout_1 out_1 :: fr) h_2 := hS
    refine HO.val (v := .bool false) (want_none) rfl (q_extract rfl rfl) ?_
    refine HO.nil (thenQ_normal (?_))
    refine HW.seq ?_
    refine HW.condF rfl ?_
    refine HW.exit (thenQ_exit (thenQ_exit (blockQ_exit (thenQ_normal (?_)))))
    refine HW.seq ?_
    refine HW.region ?_
    refine HO.val (v := vout_1) (want_none) rfl (q_move rfl) ?_
    refine HO.val (v := .pointer (some ⟨bc, 0, none⟩)) (want_none) rfl (q_move rfl) ?_
    refine HO.val (v := .func (.func 49) #[.pointer (some ⟨bc, 0, none⟩)] #[]) (want_none) rfl (q_makeFunc rfl rfl) ?_
    have hZ_1 := hS
    have hkz_1 := (hS.freeze).2
    replace hS := hS.freeze.1
    have hL_1 := hZ_1.lent
    have hZ_2 := hS
    have hkz_2 := (hS.freeze).2
    replace hS := hS.freeze.1
    have hL_2 := hZ_2.lent
    replace hL_1 := hL_1.kp hkz_2
    obtain ⟨cf_1, hc_1, hM⟩ := hM
    have hF_1 : FnP Try.prog (fun b => (fun b => F_1 b ∨ (Ow.box bc 78 #[.map (some rc_at)]).foot b) b ∨ (Ow.map rc_at kT kI c_at).foot b) h_2 49 #[.pointer (some ⟨bc, 0, none⟩)] #[] (fun x : Str × Str => [.string (bs x.1), .string (bs x.2)]) (fun x => .int .i64 (cf_1 x.1 x.2)) := FnP.of en_49 (fun x h' hk_ => @HC.mono ⟨true⟩ _ _ _ _ _ _ (@clock_Clock_before_string_walk ⟨true⟩ (allF h') [] h' c_at x.1 x.2 bc rc_at (St.init h') (hL_2.kp hk_) (hL_1.kp hk_) (fun r => r = cf_1 x.1 x.2) (hc_1 x.1 x.2)) (fun u h'' ⟨F', r, hu, k_, _, _, _, hr⟩ => ⟨by rw [hu, hr], F', k_⟩))
    refine HO.call (want_none) rfl (ec en_64 rfl rfl) (slices_SortFunc_s_string_string_walk (fr := (fr)) out_1 cf_1 vout_1 49 (#[.pointer (some ⟨bc, 0, none⟩)]) (#[]) hS hF_1 hM) ?_
    rintro _ h_4 ⟨F_2, x_1, rfl, hk, hS, _, hM⟩
    obtain ⟨hS, hk⟩ := hZ_2.back hk hS
    obtain ⟨hS, hk⟩ := hZ_1.back hk hS
    generalize (fun b => (fun b => F_2 b ∧ ¬ (Ow.map rc_at kT kI c_at).foot b) b ∧ ¬ (Ow.box bc 78 #[.map (some rc_at)]).foot b) = F_3 at hS hk
    replace hK := hK.trans hk
    refine HO.nil (thenQ_normal (?_))
    refine HW.seq ?_
    refine HW.region ?_
    refine HO.val (v := vout_1) (want_none) rfl (q_move rfl) ?_
    refine HO.val (v := vout_1) (want_none) rfl (q_assign rfl) ?_
    refine HO.nil (thenQ_normal (?_))
    refine HW.ret (?_)
    refine ⟨.inr rfl, vout_1, res1 rfl (rt rfl), ?_⟩
    replace hS : St F_3 (Ow.own 9 1 encT vout_1 x_1 :: Ow.box bc 78 #[.map (some rc_at)] :: Ow.map rc_at kT kI c_at :: fr) h_4 := hS.perm2 [2, 0, 1] 3 rfl rfl
    exact ⟨F_3, x_1, c_at, vout_1, rfl, hK, hS, hM⟩
  · replace hM := hM.2 p_1 rem_2 hperm
    replace hS : St F_1 (Ow.box bc 78 #[.map (some rc_at)] :: Ow.cur it_1 rc_at kT kI c_at rem_2 p_1 :: Ow.own 9 1 encT vout_1 out_1 :: fr) h_3 := hS
    replace hK := hK.trans hk
    refine HO.val (v := .bool true) (want_none) rfl (q_extract rfl rfl) ?_
    refine HO.nil (thenQ_normal (?_))
    refine HW.seq ?_
    refine HW.condT rfl ?_
    refine HW.skip (thenQ_normal (?_))
    refine HW.block ?_
    refine HW.seq ?_
    refine HW.region ?_
    refine HO.val (v := .tuple #[.string (bs p_1.1), .int .i64 p_1.2]) (want_none) rfl (q_entry (hS.cu 1 rfl) rfl) ?_
    refine HO.val (v := .string (bs p_1.1)) (want_none) rfl (q_extract rfl rfl) ?_
    refine HO.val (v := .int .i64 p_1.2) (want_none) rfl (q_extract rfl rfl) ?_
    refine HO.val (v := .string (bs p_1.1)) (want_none) rfl (q_assign rfl) ?_
    refine HO.val (v := .int .i64 p_1.2) (want_none) rfl (q_assign rfl) ?_
    refine HO.nil (thenQ_normal (?_))
    refine HW.seq ?_
    refine HW.region ?_
    refine HO.val (v := .int .i64 p_1.2) (want_none) rfl (q_move rfl) ?_
    refine HO.val (v := .int .i64 now) (want_none) rfl (q_move rfl) ?_
    refine HO.val (v := .bool (decide (p_1.2 ≤ now))) (want_none) rfl (q_leq rfl rfl) ?_
    refine HO.nil (thenQ_normal (?_))
    refine HW.cond (decide (p_1.2 ≤ now)) rfl (fun c_1 => ?_) (fun c_1 => ?_)
    · replace hM := hM.1 (of_decide_eq_true c_1)
      refine HW.region ?_
      refine HO.val (v := vout_1) (want_none) rfl (q_move rfl) ?_
      refine HO.val (v := .string (bs p_1.1)) (want_none) rfl (q_move rfl) ?_
      refine HO.eff (want_none) rfl (st_lit (enc := encT) (cells := #[.string (bs p_1.1)]) #[.string (bs [])] ([p_1.1] : List Str) hS tl_36 (by decide) (by decide) (by kernel_rfl) (by kernel_rfl) rfl (by intro x hx; rfl) rfl) ?_
      rintro _ h_5 ⟨b_1, rfl, hS, hk⟩
      replace hK := hK.trans hk
      obtain ⟨ho_1, hM⟩ := hM
      refine HO.eff (want_none) rfl (st_append te_36 hS (i := 3) rfl (hS.own 0 rfl).slice rfl rfl rfl (by intro a _ u hu; simp [encT, encI, encN, encB, encT] at hu; subst hu; rfl) ho_1 (by omega)) ?_
      rintro v_1 h_6 ⟨hS, hk⟩
      replace hS : St F_1 (Ow.own 9 1 encT (.slice (some ⟨b_1, 0, none⟩) 1 1) ([p_1.1] : List Str) :: Ow.box bc 78 #[.map (some rc_at)] :: Ow.cur it_1 rc_at kT kI c_at rem_2 p_1 :: Ow.own 9 1 encT v_1 (out_1 ++ ([p_1.1] : List Str)) :: fr) h_6 := hS
      replace hK := hK.trans hk
      refine HO.val (v := v_1) (want_none) rfl (q_assign rfl) ?_
      refine HO.nil (blockQ_normal (thenQ_normal (?_)))
      replace hS := hS.again 2 rfl
      replace hS : St F_1 (Ow.own 9 1 encT (.slice (some ⟨b_1, 0, none⟩) 1 1) ([p_1.1] : List Str) :: Ow.box bc 78 #[.map (some rc_at)] :: Ow.iter it_1 rc_at kT kI c_at rem_2 :: Ow.own 9 1 encT v_1 (out_1 ++ ([p_1.1] : List Str)) :: fr) h_6 := hS
      replace hS : St F_1 (Ow.box bc 78 #[.map (some rc_at)] :: Ow.iter it_1 rc_at kT kI c_at rem_2 :: Ow.own 9 1 encT v_1 (out_1 ++ ([p_1.1] : List Str)) :: fr) h_6 := hS.perm2 [1, 2, 3] 4 rfl rfl
      rw [hKe_1] at hM
      exact ⟨(rem_2, out_1 ++ ([p_1.1] : List Str)), ⟨F_1, v_1, rfl, rfl, rfl, rfl, rfl, hK, hS, hM.1⟩, hM.2⟩
    · replace hM := hM.2 (of_decide_eq_false c_1)
      refine HW.skip (blockQ_normal (thenQ_normal (?_)))
      replace hS := hS.again 1 rfl
      replace hS : St F_1 (Ow.box bc 78 #[.map (some rc_at)] :: Ow.iter it_1 rc_at kT kI c_at rem_2 :: Ow.own 9 1 encT vout_1 out_1 :: fr) h_3 := hS
      rw [hKe_1] at hM
      exact ⟨(rem_2, out_1), ⟨F_1, vout_1, rfl, rfl, rfl, rfl, rfl, hK, hS, hM.1⟩, hM.2⟩

def clock_Clock_Pop_string_l1 (Q : (List Str) → (List (Str × Int)) → Prop) (r_2 : List Str) (K_1 : (List (Str × Int)) → Int → Prop) (c_0_2 : List (Str × Int)) (n_1 : Int) : Prop :=
  (n_1 < (r_2.length : Int) → ((0 : Int) ≤ n_1 ∧ n_1 < (r_2.length : Int)) ∧ ((I64 (n_1 + 1)) ∧ (K_1 (mdel c_0_2 (gi r_2 n_1)) (n_1 + 1)))) ∧ (¬ (n_1 < (r_2.length : Int)) → Q r_2 c_0_2)
def clock_Clock_Pop_string_W (c_at : List (Str × Int)) (now : Int) (Q : (List Str) → (List (Str × Int)) → Prop) : Prop :=
  clock_Clock_due_string_W c_at now (fun r_2 cm_2 => loopW (fun (K_1 : ((List (Str × Int)) × Int) → Prop) (s : (List (Str × Int)) × Int) => clock_Clock_Pop_string_l1 Q r_2 (fun c_0_2 n_1 => K_1 (c_0_2, n_1)) s.1 s.2) (cm_2, 0))
set_option maxHeartbeats 40000000 in
set_option maxRecDepth 100000 in
theorem clock_Clock_Pop_string_walk {F : Fz} {fr : List Ow} {h0 : Heap} (c_at : List (Str × Int)) (now : Int) (bc : Nat) (rc_at : Nat) (hS : St F (Ow.box bc 78 #[.map (some rc_at)] :: Ow.map rc_at kT kI c_at :: fr) h0)  {Q : (List Str) → (List (Str × Int)) → Prop} (hM : clock_Clock_Pop_string_W c_at now Q) :
    HC Try.prog 16 #[.pointer (some ⟨bc, 0, none⟩), .int .i64 now] h0 fun u h' => ∃ (F' : Fz) (r_1 : List Str) (cm_1 : List (Str × Int)) (vr_1 : Value), u = vr_1 ∧ Kp F h0 F' h' ∧ St F' (Ow.own 9 1 encT vr_1 r_1 :: Ow.box bc 78 #[.map (some rc_at)] :: Ow.map rc_at kT kI cm_1 :: fr) h' ∧ Q r_1 cm_1 := by
  unfold clock_Clock_Pop_string_W at hM
  have hK := Kp.refl F h0
  refine HC.of_HW (n := 24) Try.func16 rfl rfl (Nat.le_of_ble_eq_true rfl) ?_
  refine HW.seq ?_
  refine HW.region ?_
  refine HO.val (v := .slice none 0 0) (want_none) rfl (q_assign rfl) ?_
  refine HO.nil (thenQ_normal (?_))
  refine HW.seq ?_
  refine HW.region ?_
  refine HO.val (v := .pointer (some ⟨bc, 0, none⟩)) (want_none) rfl (q_move rfl) ?_
  refine HO.val (v := .int .i64 now) (want_none) rfl (q_move rfl) ?_
  refine HO.call (want_none) rfl (ec en_46 rfl rfl) (clock_Clock_due_string_walk (fr := (fr)) c_at now bc rc_at hS hM) ?_
  rintro vr_2 h_1 ⟨F_1, r_2, cm_2, _, rfl, hk, hS, hM⟩
  replace hK := hK.trans hk
  refine HO.val (v := vr_2) (want_none) rfl (q_assign rfl) ?_
  refine HO.nil (thenQ_normal (?_))
  refine HW.seq ?_
  refine HW.seq ?_
  refine HW.region ?_
  refine HO.val (v := vr_2) (want_none) rfl (q_move rfl) ?_
  refine HO.val (v := .int .i64 (r_2.length : Int)) (want_none) rfl (q_len ts_36 (shp (hS.own 0 rfl).slice) rfl rfl) ?_
  refine HO.val (v := .int .i64 0) (want_none) rfl (q_move rfl) ?_
  refine HO.nil (thenQ_normal (?_))
  refine HW.block ?_
  obtain ⟨I_1, m_1, hI_1, hR_1⟩ := hM
  replace hS : St F_1 (Ow.box bc 78 #[.map (some rc_at)] :: Ow.map rc_at kT kI cm_2 :: Ow.own 9 1 encT vr_2 r_2 :: fr) h_1 := hS.perm2 [1, 2, 0] 3 rfl rfl
  refine HW.loop (S := (List (Str × Int)) × Int) (fun s f h => match s with | (c_0_2, n_1) => ∃ (F' : Fz), f 0 = .pointer (some ⟨bc, 0, none⟩) ∧ f 4 = .slice none 0 0 ∧ f 5 = vr_2 ∧ f 11 = vr_2 ∧ f 12 = .int .i64 (r_2.length : Int) ∧ f 13 = .int .i64 n_1 ∧ Kp F h0 F' h ∧ St F' (Ow.box bc 78 #[.map (some rc_at)] :: Ow.map rc_at kT kI c_0_2 :: Ow.own 9 1 encT vr_2 r_2 :: fr) h ∧ I_1 (c_0_2, n_1)) m_1 (cm_2, 0) ⟨F_1, rfl, rfl, rfl, rfl, rfl, rfl, hK, hS, hI_1⟩ ?_
  rintro ⟨c_0_2, n_1⟩ f_1 h_2 ⟨F_2, e0, e4, e5, e11, e12, e13, hK, hS, hI0⟩
  obtain ⟨K_1, hKe_1⟩ : ∃ K : (List (Str × Int)) → Int → Prop, K = fun c_0_2' n_1' => I_1 (c_0_2', n_1') ∧ m_1 (c_0_2', n_1') < m_1 (c_0_2, n_1) := ⟨_, rfl⟩
  have hM : clock_Clock_Pop_string_l1 Q r_2 K_1 c_0_2 n_1 := by rw [hKe_1]; exact hR_1 (c_0_2, n_1) hI0
  unfold clock_Clock_Pop_string_l1 at hM
  refine HW.fr [(0, .pointer (some ⟨bc, 0, none⟩)), (4, .slice none 0 0), (5, vr_2), (11, vr_2), (12, .int .i64 (r_2.length : Int)), (13, .int .i64 n_1)] ⟨e0, e4, e5, e11, e12, e13, trivial⟩ ?_
  refine HW.seq ?_
  refine HW.region ?_
  refine HO.val (v := .bool (decide (n_1 < (r_2.length : Int)))) (want_none) rfl (q_lss rfl rfl) ?_
  refine HO.nil (thenQ_normal (?_))
  refine HW.seq ?_
  refine HW.cond (decide (n_1 < (r_2.length : Int))) rfl (fun c_1 => ?_) (fun c_1 => ?_)
  · replace hM := hM.1 (of_decide_eq_true c_1)
    refine HW.skip (thenQ_normal (?_))
    refine HW.seq ?_
    refine HW.block ?_
    refine HW.seq ?_
    refine HW.region ?_
    obtain ⟨ho_1, hM⟩ := hM
    refine HO.val (v := elemPtr 1 vr_2 (n_1).toNat) (want_none) rfl (q_idx ts_36 (hS.own 2 rfl).slice rfl rfl ho_1) ?_
    refine HO.val (v := .string (bs (gi r_2 n_1))) (want_none) rfl (q_ldElem to_9 (hS.own 2 rfl).slice rfl ho_1 rfl) ?_
    refine HO.val (v := .string (bs (gi r_2 n_1))) (want_none) rfl (q_assign rfl) ?_
    refine HO.nil (thenQ_normal (?_))
    refine HW.region ?_
    refine HO.val (v := .pointer (some ⟨bc, 0, none⟩)) (want_none) rfl (q_move rfl) ?_
    refine HO.val (v := .pointer (some ⟨bc, 0, none⟩)) (want_none) rfl (q_nilCheck rfl) ?_
    refine HO.val (v := .pointer (some ⟨bc, 0, none⟩)) (want_none) rfl (q_fieldAddr fa_78_0 rfl rfl) ?_
    refine HO.val (v := .map (some rc_at)) (want_none) rfl (q_load to_76 rfl (Blk.cell (hS.box 0 rfl) rfl)) ?_
    refine HO.val (v := .string (bs (gi r_2 n_1))) (want_none) rfl (q_move rfl) ?_
    refine HO.eff (want_none) rfl (st_deleteK (k := (gi r_2 n_1)) hS (i := 1) rfl ka_9 tmk_76 rfl rfl rfl) ?_
    rintro _ h_3 ⟨rfl, hS, hk⟩
    replace hS : St F_2 (Ow.box bc 78 #[.map (some rc_at)] :: Ow.map rc_at kT kI (mdel c_0_2 (gi r_2 n_1)) :: Ow.own 9 1 encT vr_2 r_2 :: fr) h_3 := hS
    replace hK := hK.trans hk
    refine HO.nil (blockQ_normal (thenQ_normal (?_)))
    refine HW.region ?_
    obtain ⟨ho_2, hM⟩ := hM
    refine HO.val (v := .int .i64 (n_1 + 1)) (want_none) rfl (q_addN _ rfl rfl rfl ho_2.1 ho_2.2) ?_
    refine HO.val (v := .int .i64 (n_1 + 1)) (want_none) rfl (q_move rfl) ?_
    refine HO.nil (thenQ_normal (?_))
    rw [hKe_1] at hM
    exact ⟨(mdel c_0_2 (gi r_2 n_1), n_1 + 1), ⟨F_2, rfl, rfl, rfl, rfl, rfl, rfl, hK, hS, hM.1⟩, hM.2⟩
  · replace hM := hM.2 (of_decide_eq_false c_1)
    refine HW.exit (thenQ_exit (thenQ_exit (blockQ_exit (thenQ_normal (?_)))))
    refine HW.seq ?_
    refine HW.region ?_
    refine HO.val (v := vr_2) (want_none) rfl (q_move rfl) ?_
    refine HO.val (v := vr_2) (want_none) rfl (q_assign rfl) ?_
    refine HO.nil (thenQ_normal (?_))
    refine HW.ret (?_)
    refine ⟨.inr rfl, vr_2, res1 rfl (rt rfl), ?_⟩
    replace hS : St F_2 (Ow.own 9 1 encT vr_2 r_2 :: Ow.box bc 78 #[.map (some rc_at)] :: Ow.map rc_at kT kI c_0_2 :: fr) h_2 := hS.perm2 [2, 0, 1] 3 rfl rfl
    exact ⟨F_2, r_2, c_0_2, vr_2, rfl, hK, hS, hM⟩

def ref12_Keys_l1 (l : List T_acequiaref12_Entry) (Q : (List Str) → Prop) (K_1 : (List Str) → Int → Prop) (out_1 : List Str) (i_1 : Int) : Prop :=
  (i_1 < (l.length : Int) → ((0 : Int) ≤ i_1 ∧ i_1 < (l.length : Int)) ∧ (((out_1.length + ([(gi l i_1).1] : List Str).length) * 16 ≤ 140737488355328) ∧ ((I64 (i_1 + 1)) ∧ (K_1 (out_1 ++ ([(gi l i_1).1] : List Str)) (i_1 + 1))))) ∧ (¬ (i_1 < (l.length : Int)) → Q out_1)
def ref12_Keys_W (l : List T_acequiaref12_Entry) (Q : (List Str) → Prop) : Prop :=
  loopW (fun (K_1 : (List Str × Int) → Prop) (s : List Str × Int) => ref12_Keys_l1 l Q (fun out_1 i_1 => K_1 (out_1, i_1)) s.1 s.2) ([], 0)
set_option maxHeartbeats 40000000 in
set_option maxRecDepth 100000 in
theorem ref12_Keys_walk {F : Fz} {fr : List Ow} {h0 : Heap} (l : List T_acequiaref12_Entry) (vl : Value) (hS : St F (fr) h0) (hL_l : SliceF F h0 2 e_acequiaref12_Entry vl l) {Q : (List Str) → Prop} (hM : ref12_Keys_W l Q) :
    HC Try.prog 17 #[vl] h0 fun u h' => ∃ (F' : Fz) (r_1 : List Str) (vr_1 : Value), u = vr_1 ∧ Kp F h0 F' h' ∧ St F' (Ow.own 9 1 encT vr_1 r_1 :: fr) h' ∧ (SliceF F' h' 2 e_acequiaref12_Entry vl l) ∧ Q r_1 := by
  unfold ref12_Keys_W at hM
  have hK := Kp.refl F h0
  refine HC.of_HW (n := 21) Try.func17 rfl rfl (Nat.le_of_ble_eq_true rfl) ?_
  refine HW.seq ?_
  refine HW.region ?_
  refine HO.val (v := .slice none 0 0) (want_none) rfl (q_assign rfl) ?_
  refine HO.nil (thenQ_normal (?_))
  refine HW.seq ?_
  refine HW.region ?_
  refine HO.eff (want_none) rfl (st_litEmpty (α := Str) encT hS tl_36) ?_
  rintro _ h_1 ⟨b_1, rfl, hS, hk⟩
  replace hK := hK.trans hk
  replace hL_l := hL_l.kp hk
  refine HO.val (v := .slice (some ⟨b_1, 0, none⟩) 0 0) (want_none) rfl (q_assign rfl) ?_
  refine HO.nil (thenQ_normal (?_))
  refine HW.seq ?_
  refine HW.seq ?_
  refine HW.region ?_
  refine HO.val (v := .int .i64 0) (want_none) rfl (q_assign rfl) ?_
  refine HO.nil (thenQ_normal (?_))
  refine HW.block ?_
  obtain ⟨I_1, m_1, hI_1, hR_1⟩ := hM
  refine HW.loop (S := List Str × Int) (fun s f h => match s with | (out_1, i_1) => ∃ (F' : Fz) (vout_1 : Value), f 0 = vl ∧ f 2 = .slice none 0 0 ∧ f 3 = vout_1 ∧ f 4 = .int .i64 i_1 ∧ Kp F h0 F' h ∧ St F' (Ow.own 9 1 encT vout_1 out_1 :: fr) h ∧ (SliceF F' h 2 e_acequiaref12_Entry vl l) ∧ I_1 (out_1, i_1)) m_1 ([], 0) ⟨F, .slice (some ⟨b_1, 0, none⟩) 0 0, rfl, rfl, rfl, rfl, hK, hS, hL_l, hI_1⟩ ?_
  rintro ⟨out_1, i_1⟩ f_1 h_2 ⟨F_1, vout_1, e0, e2, e3, e4, hK, hS, hL_l, hI0⟩
  obtain ⟨K_1, hKe_1⟩ : ∃ K : (List Str) → Int → Prop, K = fun out_1' i_1' => I_1 (out_1', i_1') ∧ m_1 (out_1', i_1') < m_1 (out_1, i_1) := ⟨_, rfl⟩
  have hM : ref12_Keys_l1 l Q K_1 out_1 i_1 := by rw [hKe_1]; exact hR_1 (out_1, i_1) hI0
  unfold ref12_Keys_l1 at hM
  refine HW.fr [(0, vl), (2, .slice none 0 0), (3, vout_1), (4, .int .i64 i_1)] ⟨e0, e2, e3, e4, trivial⟩ ?_
  refine HW.seq ?_
  refine HW.seq ?_
  refine HW.region ?_
  refine HO.val (v := .int .i64 i_1) (want_none) rfl (q_move rfl) ?_
  refine HO.val (v := vl) (want_none) rfl (q_move rfl) ?_
  refine HO.val (v := .int .i64 (l.length : Int)) (want_none) rfl (q_len ts_25 (shp hL_l.is) rfl rfl) ?_
  refine HO.val (v := .bool (decide (i_1 < (l.length : Int)))) (want_none) rfl (q_lss rfl rfl) ?_
  refine HO.nil (thenQ_normal (?_))
  refine HW.cond (decide (i_1 < (l.length : Int))) rfl (fun c_1 => ?_) (fun c_1 => ?_)
  · replace hM := hM.1 (of_decide_eq_true c_1)
    refine HW.skip (thenQ_normal (?_))
    refine HW.seq ?_
    refine HW.block ?_
    refine HW.region ?_
    refine HO.val (v := vout_1) (want_none) rfl (q_move rfl) ?_
    refine HO.val (v := vl) (want_none) rfl (q_move rfl) ?_
    refine HO.val (v := .int .i64 i_1) (want_none) rfl (q_move rfl) ?_
    obtain ⟨ho_1, hM⟩ := hM
    refine HO.val (v := elemPtr 2 vl (i_1).toNat) (want_none) rfl (q_idx ts_25 hL_l.is rfl rfl ho_1) ?_
    refine HO.val (v := fieldPtr 2 vl (i_1).toNat 0) (want_none) rfl (q_fldElem fa_80_0 hL_l.is rfl ho_1) ?_
    refine HO.val (v := .string (bs ((gi l i_1).1))) (want_none) rfl (q_ldField to_9 hL_l.is rfl ho_1 (by decide) rfl) ?_
    refine HO.eff (want_none) rfl (st_lit (enc := encT) (cells := #[.string (bs ((gi l i_1).1))]) #[.string (bs [])] ([(gi l i_1).1] : List Str) hS tl_36 (by decide) (by decide) (by kernel_rfl) (by kernel_rfl) rfl (by intro x hx; rfl) rfl) ?_
    rintro _ h_3 ⟨b_2, rfl, hS, hk⟩
    replace hK := hK.trans hk
    replace hL_l := hL_l.kp hk
    obtain ⟨ho_2, hM⟩ := hM
    refine HO.eff (want_none) rfl (st_append te_36 hS (i := 1) rfl (hS.own 0 rfl).slice rfl rfl rfl (by intro a _ u hu; simp [encT, encI, encN, encB, encT] at hu; subst hu; rfl) ho_2 (by omega)) ?_
    rintro v_1 h_4 ⟨hS, hk⟩
    replace hS : St F_1 (Ow.own 9 1 encT (.slice (some ⟨b_2, 0, none⟩) 1 1) ([(gi l i_1).1] : List Str) :: Ow.own 9 1 encT v_1 (out_1 ++ ([(gi l i_1).1] : List Str)) :: fr) h_4 := hS
    replace hK := hK.trans hk
    replace hL_l := hL_l.kp hk
    refine HO.val (v := v_1) (want_none) rfl (q_assign rfl) ?_
    refine HO.nil (blockQ_normal (thenQ_normal (?_)))
    refine HW.region ?_
    refine HO.val (v := .int .i64 i_1) (want_none) rfl (q_move rfl) ?_
    obtain ⟨ho_3, hM⟩ := hM
    refine HO.val (v := .int .i64 (i_1 + 1)) (want_none) rfl (q_addN _ rfl rfl rfl ho_3.1 ho_3.2) ?_
    refine HO.val (v := .int .i64 (i_1 + 1)) (want_none) rfl (q_assign rfl) ?_
    refine HO.nil (thenQ_normal (?_))
    replace hS : St F_1 (Ow.own 9 1 encT v_1 (out_1 ++ ([(gi l i_1).1] : List Str)) :: fr) h_4 := hS.perm2 [1] 2 rfl rfl
    rw [hKe_1] at hM
    exact ⟨(out_1 ++ ([(gi l i_1).1] : List Str), i_1 + 1), ⟨F_1, v_1, rfl, rfl, rfl, rfl, hK, hS, hL_l, hM.1⟩, hM.2⟩
  · replace hM := hM.2 (of_decide_eq_false c_1)
    refine HW.exit (thenQ_exit (thenQ_exit (blockQ_exit (thenQ_normal (?_)))))
    refine HW.seq ?_
    refine HW.region ?_
    refine HO.val (v := vout_1) (want_none) rfl (q_move rfl) ?_
    refine HO.val (v := vout_1) (want_none) rfl (q_assign rfl) ?_
    refine HO.nil (thenQ_normal (?_))
    refine HW.ret (?_)
    refine ⟨.inr rfl, vout_1, res1 rfl (rt rfl), ?_⟩
    exact ⟨F_1, out_1, vout_1, rfl, hK, hS, hL_l, hM⟩

def ref12_Same_l1 (a : List Str) (b : List Str) (Q : Bool → Prop) (K_1 : Int → Prop) (i_1 : Int) : Prop :=
  (i_1 < (a.length : Int) → ((0 : Int) ≤ i_1 ∧ i_1 < (a.length : Int)) ∧ (((0 : Int) ≤ i_1 ∧ i_1 < (b.length : Int)) ∧ ((¬ (((gi a i_1) : Str) = (gi b i_1)) → Q false) ∧ (((gi a i_1) : Str) = (gi b i_1) → (I64 (i_1 + 1)) ∧ (K_1 (i_1 + 1)))))) ∧ (¬ (i_1 < (a.length : Int)) → Q true)
def ref12_Same_W (a : List Str) (b : List Str) (Q : Bool → Prop) : Prop :=
  (¬ ((a.length : Int) = (b.length : Int)) → Q false) ∧ ((a.length : Int) = (b.length : Int) → loopW (fun (K_1 : Int → Prop) (s : Int) => ref12_Same_l1 a b Q K_1 s) 0)
set_option maxHeartbeats 40000000 in
set_option maxRecDepth 100000 in
theorem ref12_Same_walk {F : Fz} {fr : List Ow} {h0 : Heap} (a : List Str) (b : List Str) (va : Value) (vb : Value) (hS : St F (fr) h0) (hL_a : SliceF F h0 1 encT va a) (hL_b : SliceF F h0 1 encT vb b) {Q : Bool → Prop} (hM : ref12_Same_W a b Q) :
    HC Try.prog 15 #[va, vb] h0 fun u h' => ∃ (F' : Fz) (r_1 : Bool), u = .bool r_1 ∧ Kp F h0 F' h' ∧ St F' (fr) h' ∧ (SliceF F' h' 1 encT va a) ∧ (SliceF F' h' 1 encT vb b) ∧ Q r_1 := by
  unfold ref12_Same_W at hM
  have hK := Kp.refl F h0
  refine HC.of_HW (n := 26) Try.func15 rfl rfl (Nat.le_of_ble_eq_true rfl) ?_
  refine HW.seq ?_
  refine HW.region ?_
  refine HO.val (v := .bool false) (want_none) rfl (q_assign rfl) ?_
  refine HO.nil (thenQ_normal (?_))
  refine HW.seq ?_
  refine HW.seq ?_
  refine HW.region ?_
  refine HO.val (v := va) (want_none) rfl (q_move rfl) ?_
  refine HO.val (v := .int .i64 (a.length : Int)) (want_none) rfl (q_len ts_36 (shp hL_a.is) rfl rfl) ?_
  refine HO.val (v := vb) (want_none) rfl (q_move rfl) ?_
  refine HO.val (v := .int .i64 (b.length : Int)) (want_none) rfl (q_len ts_36 (shp hL_b.is) rfl rfl) ?_
  refine HO.val (v := .bool (!decide ((a.length : Int) = (b.length : Int)))) (want_none) rfl (q_neq rfl rfl) ?_
  refine HO.nil (thenQ_normal (?_))
  refine HW.cond (!decide ((a.length : Int) = (b.length : Int))) rfl (fun c_1 => ?_) (fun c_1 => ?_)
  · replace hM := hM.1 (nd_true c_1)
    refine HW.seq ?_
    refine HW.region ?_
    refine HO.val (v := .bool false) (want_none) rfl (q_assign rfl) ?_
    refine HO.nil (thenQ_normal (?_))
    refine HW.ret (thenQ_ret (?_))
    refine ⟨.inr rfl, .bool false, res1 rfl (rt rfl), ?_⟩
    exact ⟨F, false, rfl, hK, hS, hL_a, hL_b, hM⟩
  · replace hM := hM.2 (nd_false c_1)
    refine HW.skip (thenQ_normal (?_))
    refine HW.seq ?_
    refine HW.seq ?_
    refine HW.region ?_
    refine HO.val (v := .int .i64 0) (want_none) rfl (q_assign rfl) ?_
    refine HO.nil (thenQ_normal (?_))
    refine HW.block ?_
    obtain ⟨I_1, m_1, hI_1, hR_1⟩ := hM
    refine HW.loop (S := Int) (fun i_1 f h => ∃ (F' : Fz), f 0 = va ∧ f 1 = vb ∧ f 4 = .bool false ∧ f 5 = .int .i64 i_1 ∧ Kp F h0 F' h ∧ St F' (fr) h ∧ (SliceF F' h 1 encT va a) ∧ (SliceF F' h 1 encT vb b) ∧ I_1 i_1) m_1 0 ⟨F, rfl, rfl, rfl, rfl, hK, hS, hL_a, hL_b, hI_1⟩ ?_
    rintro i_1 f_1 h_1 ⟨F_1, e0, e1, e4, e5, hK, hS, hL_a, hL_b, hI0⟩
    obtain ⟨K_1, hKe_1⟩ : ∃ K : Int → Prop, K = fun i_1' => I_1 i_1' ∧ m_1 i_1' < m_1 i_1 := ⟨_, rfl⟩
    have hM : ref12_Same_l1 a b Q K_1 i_1 := by rw [hKe_1]; exact hR_1 i_1 hI0
    unfold ref12_Same_l1 at hM
    refine HW.fr [(0, va), (1, vb), (4, .bool false), (5, .int .i64 i_1)] ⟨e0, e1, e4, e5, trivial⟩ ?_
    refine HW.seq ?_
    refine HW.seq ?_
    refine HW.region ?_
    refine HO.val (v := .int .i64 i_1) (want_none) rfl (q_move rfl) ?_
    refine HO.val (v := va) (want_none) rfl (q_move rfl) ?_
    refine HO.val (v := .int .i64 (a.length : Int)) (want_none) rfl (q_len ts_36 (shp hL_a.is) rfl rfl) ?_
    refine HO.val (v := .bool (decide (i_1 < (a.length : Int)))) (want_none) rfl (q_lss rfl rfl) ?_
    refine HO.nil (thenQ_normal (?_))
    refine HW.cond (decide (i_1 < (a.length : Int))) rfl (fun c_2 => ?_) (fun c_2 => ?_)
    · replace hM := hM.1 (of_decide_eq_true c_2)
      refine HW.skip (thenQ_normal (?_))
      refine HW.seq ?_
      refine HW.block ?_
      refine HW.seq ?_
      refine HW.regionA 9 mixed (fun h => (SliceIs h 1 encT va a) ∧ (SliceIs h 1 encT vb b)) [] (by kernel_rfl) ?_
      refine HA.val (k := 0) (v := va) rfl rfl (by kernel_rfl) (by kernel_rfl) (want_none) rfl (fun _ ⟨hL_a, hL_b⟩ => q_move rfl) ?_
      refine HA.val (k := 1) (v := .int .i64 i_1) rfl rfl (by kernel_rfl) (by kernel_rfl) (want_none) rfl (fun _ ⟨hL_a, hL_b⟩ => q_move rfl) ?_
      obtain ⟨ho_1, hM⟩ := hM
      refine HA.val (k := 2) (v := elemPtr 1 va (i_1).toNat) rfl rfl (by kernel_rfl) (by kernel_rfl) (want_none) rfl (fun _ ⟨hL_a, hL_b⟩ => q_idx ts_36 hL_a rfl rfl ho_1) ?_
      refine HA.val (k := 3) (v := .string (bs (gi a i_1))) rfl rfl (by kernel_rfl) (by kernel_rfl) (want_none) rfl (fun _ ⟨hL_a, hL_b⟩ => q_ldElem to_9 hL_a rfl ho_1 rfl) ?_
      refine HA.val (k := 4) (v := vb) rfl rfl (by kernel_rfl) (by kernel_rfl) (want_none) rfl (fun _ ⟨hL_a, hL_b⟩ => q_move rfl) ?_
      refine HA.val (k := 5) (v := .int .i64 i_1) rfl rfl (by kernel_rfl) (by kernel_rfl) (want_none) rfl (fun _ ⟨hL_a, hL_b⟩ => q_move rfl) ?_
      obtain ⟨ho_2, hM⟩ := hM
      refine HA.val (k := 6) (v := elemPtr 1 vb (i_1).toNat) rfl rfl (by kernel_rfl) (by kernel_rfl) (want_none) rfl (fun _ ⟨hL_a, hL_b⟩ => q_idx ts_36 hL_b rfl rfl ho_2) ?_
      refine HA.val (k := 7) (v := .string (bs (gi b i_1))) rfl rfl (by kernel_rfl) (by kernel_rfl) (want_none) rfl (fun _ ⟨hL_a, hL_b⟩ => q_ldElem to_9 hL_b rfl ho_2 rfl) ?_
      refine HA.val (k := 8) (v := .bool (!decide (((gi a i_1) : Str) = (gi b i_1)))) rfl rfl (by kernel_rfl) (by kernel_rfl) (want_none) rfl (fun _ ⟨hL_a, hL_b⟩ => q_neqT rfl rfl) ?_
      refine HA.nil ⟨⟨hL_a.is, hL_b.is⟩, (Go.Wk.at_nil _ _)⟩ (by kernel_rfl) (thenQ_normal (?_))
      refine HW.cond (!decide (((gi a i_1) : Str) = (gi b i_1))) rfl (fun c_3 => ?_) (fun c_3 => ?_)
      · replace hM := hM.1 (nd_true c_3)
        refine HW.seq ?_
        refine HW.region ?_
        refine HO.val (v := .bool false) (want_none) rfl (q_assign rfl) ?_
        refine HO.nil (thenQ_normal (?_))
        refine HW.ret (blockQ_ret (thenQ_ret (thenQ_ret (blockQ_ret (thenQ_ret (?_))))))
        refine ⟨.inr rfl, .bool false, res1 rfl (rt rfl), ?_⟩
        exact ⟨F_1, false, rfl, hK, hS, hL_a, hL_b, hM⟩
      · replace hM := hM.2 (nd_false c_3)
        refine HW.skip (blockQ_normal (thenQ_normal (?_)))
        refine HW.region ?_
        refine HO.val (v := .int .i64 i_1) (want_none) rfl (q_move rfl) ?_
        obtain ⟨ho_3, hM⟩ := hM
        refine HO.val (v := .int .i64 (i_1 + 1)) (want_none) rfl (q_addN _ rfl rfl rfl ho_3.1 ho_3.2) ?_
        refine HO.val (v := .int .i64 (i_1 + 1)) (want_none) rfl (q_assign rfl) ?_
        refine HO.nil (thenQ_normal (?_))
        rw [hKe_1] at hM
        exact ⟨i_1 + 1, ⟨F_1, rfl, rfl, rfl, rfl, hK, hS, hL_a, hL_b, hM.1⟩, hM.2⟩
    · replace hM := hM.2 (of_decide_eq_false c_2)
      refine HW.exit (thenQ_exit (thenQ_exit (blockQ_exit (thenQ_normal (?_)))))
      refine HW.seq ?_
      refine HW.region ?_
      refine HO.val (v := .bool true) (want_none) rfl (q_assign rfl) ?_
      refine HO.nil (thenQ_normal (?_))
      refine HW.ret (?_)
      refine ⟨.inr rfl, .bool true, res1 rfl (rt rfl), ?_⟩
      exact ⟨F_1, true, rfl, hK, hS, hL_a, hL_b, hM⟩

def clock_Clock_Due_string_W (c_at : List (Str × Int)) (now : Int) (Q : (List Str) → (List (Str × Int)) → Prop) : Prop :=
  clock_Clock_due_string_W c_at now (fun r_2 cm_2 => Q r_2 cm_2)
set_option maxHeartbeats 40000000 in
set_option maxRecDepth 100000 in
theorem clock_Clock_Due_string_walk {F : Fz} {fr : List Ow} {h0 : Heap} (c_at : List (Str × Int)) (now : Int) (bc : Nat) (rc_at : Nat) (hS : St F (Ow.box bc 78 #[.map (some rc_at)] :: Ow.map rc_at kT kI c_at :: fr) h0)  {Q : (List Str) → (List (Str × Int)) → Prop} (hM : clock_Clock_Due_string_W c_at now Q) :
    HC Try.prog 18 #[.pointer (some ⟨bc, 0, none⟩), .int .i64 now] h0 fun u h' => ∃ (F' : Fz) (r_1 : List Str) (cm_1 : List (Str × Int)) (vr_1 : Value), u = vr_1 ∧ Kp F h0 F' h' ∧ St F' (Ow.own 9 1 encT vr_1 r_1 :: Ow.box bc 78 #[.map (some rc_at)] :: Ow.map rc_at kT kI cm_1 :: fr) h' ∧ Q r_1 cm_1 := by
  unfold clock_Clock_Due_string_W at hM
  have hK := Kp.refl F h0
  refine HC.of_HW (n := 8) Try.func18 rfl rfl (Nat.le_of_ble_eq_true rfl) ?_
  refine HW.seq ?_
  refine HW.region ?_
  refine HO.val (v := .slice none 0 0) (want_none) rfl (q_assign rfl) ?_
  refine HO.nil (thenQ_normal (?_))
  refine HW.seq ?_
  refine HW.region ?_
  refine HO.val (v := .pointer (some ⟨bc, 0, none⟩)) (want_none) rfl (q_move rfl) ?_
  refine HO.val (v := .int .i64 now) (want_none) rfl (q_move rfl) ?_
  refine HO.call (want_none) rfl (ec en_46 rfl rfl) (clock_Clock_due_string_walk (fr := (fr)) c_at now bc rc_at hS hM) ?_
  rintro vr_2 h_1 ⟨F_1, r_2, cm_2, _, rfl, hk, hS, hM⟩
  replace hK := hK.trans hk
  refine HO.val (v := vr_2) (want_none) rfl (q_assign rfl) ?_
  refine HO.nil (thenQ_normal (?_))
  refine HW.ret (?_)
  refine ⟨.inr rfl, vr_2, res1 rfl (rt rfl), ?_⟩
  exact ⟨F_1, r_2, cm_2, vr_2, rfl, hK, hS, hM⟩

def clock_Clock_At_string_W (c_at : List (Str × Int)) (key : Str) (Q : Int → Bool → Prop) : Prop :=
  Q (mget0 c_at key) ((mget c_at key).isSome)
set_option maxHeartbeats 40000000 in
set_option maxRecDepth 100000 in
theorem clock_Clock_At_string_walk {F : Fz} {fr : List Ow} {h0 : Heap} (c_at : List (Str × Int)) (key : Str) (bc : Nat) (rc_at : Nat) (hS : St F (fr) h0) (hM_rc_at : RoF (Ow.map rc_at kT kI c_at) F h0) (hB_bc : RoF (Ow.box bc 78 #[.map (some rc_at)]) F h0) {Q : Int → Bool → Prop} (hM : clock_Clock_At_string_W c_at key Q) :
    HC Try.prog 22 #[.pointer (some ⟨bc, 0, none⟩), .string (bs key)] h0 fun u h' => ∃ (F' : Fz) (r0_1 : Int) (r1_1 : Bool), u = .tuple #[.int .i64 r0_1, .bool r1_1] ∧ Kp F h0 F' h' ∧ St F' (fr) h' ∧ (RoF (Ow.map rc_at kT kI c_at) F' h') ∧ (RoF (Ow.box bc 78 #[.map (some rc_at)]) F' h') ∧ Q r0_1 r1_1 := by
  unfold clock_Clock_At_string_W at hM
  have hK := Kp.refl F h0
  refine HC.of_HW (n := 21) Try.func22 rfl rfl (Nat.le_of_ble_eq_true rfl) ?_
  refine HW.seq ?_
  refine HW.region ?_
  refine HO.val (v := .int .i64 0) (want_none) rfl (q_assign rfl) ?_
  refine HO.val (v := .bool false) (want_none) rfl (q_assign rfl) ?_
  refine HO.nil (thenQ_normal (?_))
  refine HW.seq ?_
  refine HW.seq ?_
  refine HW.region ?_
  refine HO.val (v := .pointer (some ⟨bc, 0, none⟩)) (want_none) rfl (q_move rfl) ?_
  refine HO.val (v := .bool false) (want_none) rfl (q_eqlPnil Try.underlying23 rfl rfl rfl) ?_
  refine HO.nil (thenQ_normal (?_))
  refine HW.condF rfl ?_
  refine HW.skip (thenQ_normal (?_))
  refine HW.seq ?_
  refine HW.region ?_
  refine HO.val (v := .pointer (some ⟨bc, 0, none⟩)) (want_none) rfl (q_move rfl) ?_
  refine HO.val (v := .pointer (some ⟨bc, 0, none⟩)) (want_none) rfl (q_nilCheck rfl) ?_
  refine HO.val (v := .pointer (some ⟨bc, 0, none⟩)) (want_none) rfl (q_fieldAddr fa_78_0 rfl rfl) ?_
  refine HO.val (v := .map (some rc_at)) (want_none) rfl (q_load to_76 rfl (Blk.cell hB_bc.box rfl)) ?_
  refine HO.val (v := .string (bs key)) (want_none) rfl (q_move rfl) ?_
  refine HO.val (v := .tuple #[.int .i64 (mget0 c_at key), .bool ((mget c_at key).isSome)]) (want_none) rfl ((q_lookupOk (k := key) ka_9 tmk_76 hM_rc_at.mp rfl rfl).of_eq (congrArg (fun v => Value.tuple #[v, _]) (mval0 (z := .int .i64 0) rfl))) ?_
  refine HO.val (v := .tuple #[.int .i64 (mget0 c_at key), .bool ((mget c_at key).isSome)]) (want_none) rfl (q_move rfl) ?_
  refine HO.val (v := .int .i64 (mget0 c_at key)) (want_none) rfl (q_extract rfl rfl) ?_
  refine HO.val (v := .bool ((mget c_at key).isSome)) (want_none) rfl (q_extract rfl rfl) ?_
  refine HO.val (v := .int .i64 (mget0 c_at key)) (want_none) rfl (q_assign rfl) ?_
  refine HO.val (v := .bool ((mget c_at key).isSome)) (want_none) rfl (q_assign rfl) ?_
  refine HO.nil (thenQ_normal (?_))
  refine HW.seq ?_
  refine HW.region ?_
  refine HO.val (v := .int .i64 (mget0 c_at key)) (want_none) rfl (q_move rfl) ?_
  refine HO.val (v := .bool ((mget c_at key).isSome)) (want_none) rfl (q_move rfl) ?_
  refine HO.val (v := .int .i64 (mget0 c_at key)) (want_none) rfl (q_assign rfl) ?_
  refine HO.val (v := .bool ((mget c_at key).isSome)) (want_none) rfl (q_assign rfl) ?_
  refine HO.nil (thenQ_normal (?_))
  refine HW.ret (?_)
  refine ⟨.inr rfl, .tuple #[.int .i64 (mget0 c_at key), .bool ((mget c_at key).isSome)], res2 rfl (rt rfl) (rt rfl), ?_⟩
  exact ⟨F, mget0 c_at key, (mget c_at key).isSome, rfl, hK, hS, hM_rc_at, hB_bc, hM⟩

def clock_Clock_Next_string_l1 (c_at : List (Str × Int)) (Q : Str → Int → Bool → (List (Str × Int)) → Prop) (K_1 : (List (Str × Int)) → Str → Bool → Prop) (rem_1 : List (Str × Int)) (out_1 : Str) (found_1 : Bool) : Prop :=
  (rem_1 = [] → Q out_1 (mget0 c_at out_1) found_1 c_at) ∧ (∀ (p_1 : Str × Int) (rem_2 : List (Str × Int)), List.Perm rem_1 (p_1 :: rem_2) → ((!found_1) = true → K_1 rem_2 p_1.1 true) ∧ ((!found_1) = false → clock_Clock_before_string_W c_at p_1.1 out_1 (fun r_1 => (r_1 < 0 → K_1 rem_2 p_1.1 true) ∧ (¬ (r_1 < 0) → K_1 rem_2 out_1 found_1))))
def clock_Clock_Next_string_W (c_at : List (Str × Int)) (Q : Str → Int → Bool → (List (Str × Int)) → Prop) : Prop :=
  loopW (fun (K_1 : ((List (Str × Int)) × Str × Bool) → Prop) (s : (List (Str × Int)) × Str × Bool) => clock_Clock_Next_string_l1 c_at Q (fun rem_1 out_1 found_1 => K_1 (rem_1, out_1, found_1)) s.1 s.2.1 s.2.2) (c_at, [], false)
set_option maxHeartbeats 40000000 in
set_option maxRecDepth 100000 in
theorem clock_Clock_Next_string_walk {F : Fz} {fr : List Ow} {h0 : Heap} (c_at : List (Str × Int)) (bc : Nat) (rc_at : Nat) (hS : St F (Ow.box bc 78 #[.map (some rc_at)] :: Ow.map rc_at kT kI c_at :: fr) h0)  {Q : Str → Int → Bool → (List (Str × Int)) → Prop} (hM : clock_Clock_Next_string_W c_at Q) :
    HC Try.prog 23 #[.pointer (some ⟨bc, 0, none⟩)] h0 fun u h' => ∃ (F' : Fz) (r0_1 : Str) (r1_1 : Int) (r2_1 : Bool) (cm_1 : List (Str × Int)), u = .tuple #[.string (bs r0_1), .int .i64 r1_1, .bool r2_1] ∧ Kp F h0 F' h' ∧ St F' (Ow.box bc 78 #[.map (some rc_at)] :: Ow.map rc_at kT kI cm_1 :: fr) h' ∧ Q r0_1 r1_1 r2_1 cm_1 := by
  unfold clock_Clock_Next_string_W at hM
  have hK := Kp.refl F h0
  refine HC.of_HW (n := 38) Try.func23 rfl rfl (Nat.le_of_ble_eq_true rfl) ?_
  refine HW.seq ?_
  refine HW.region ?_
  refine HO.val (v := .string (bs [])) (want_none) rfl (q_assign rfl) ?_
  refine HO.val (v := .int .i64 0) (want_none) rfl (q_assign rfl) ?_
  refine HO.val (v := .bool false) (want_none) rfl (q_assign rfl) ?_
  refine HO.nil (thenQ_normal (?_))
  refine HW.seq ?_
  refine HW.region ?_
  refine HO.val (v := .string (bs [])) (want_none) rfl (q_assign rfl) ?_
  refine HO.nil (thenQ_normal (?_))
  refine HW.seq ?_
  refine HW.region ?_
  refine HO.val (v := .bool false) (want_none) rfl (q_assign rfl) ?_
  refine HO.nil (thenQ_normal (?_))
  refine HW.seq ?_
  refine HW.seq ?_
  refine HW.region ?_
  refine HO.val (v := .pointer (some ⟨bc, 0, none⟩)) (want_none) rfl (q_move rfl) ?_
  refine HO.val (v := .bool false) (want_none) rfl (q_eqlPnil Try.underlying23 rfl rfl rfl) ?_
  refine HO.nil (thenQ_normal (?_))
  refine HW.condF rfl ?_
  refine HW.skip (thenQ_normal (?_))
  refine HW.seq ?_
  refine HW.seq ?_
  refine HW.region ?_
  refine HO.val (v := .pointer (some ⟨bc, 0, none⟩)) (want_none) rfl (q_move rfl) ?_
  refine HO.val (v := .pointer (some ⟨bc, 0, none⟩)) (want_none) rfl (q_nilCheck rfl) ?_
  refine HO.val (v := .pointer (some ⟨bc, 0, none⟩)) (want_none) rfl (q_fieldAddr fa_78_0 rfl rfl) ?_
  refine HO.val (v := .map (some rc_at)) (want_none) rfl (q_load to_76 rfl (Blk.cell (hS.box 0 rfl) rfl)) ?_
  refine HO.eff (want_none) rfl (st_range hS (i := 1) rfl Try.underlying76 rfl) ?_
  rintro _ h_1 ⟨it_1, rfl, hS, hk⟩
  replace hS : St F (Ow.box bc 78 #[.map (some rc_at)] :: Ow.iter it_1 rc_at kT kI c_at c_at :: fr) h_1 := hS
  replace hK := hK.trans hk
  refine HO.nil (thenQ_normal (?_))
  refine HW.block ?_
  obtain ⟨I_1, m_1, hI_1, hR_1⟩ := hM
  refine HW.loop (S := (List (Str × Int)) × Str × Bool) (fun s f h => match s with | (rem_1, out_1, found_1) => ∃ (F' : Fz), f 0 = .pointer (some ⟨bc, 0, none⟩) ∧ f 2 = .string (bs []) ∧ f 3 = .int .i64 0 ∧ f 4 = .bool false ∧ f 5 = .string (bs out_1) ∧ f 6 = .bool found_1 ∧ f 15 = .pointer (some ⟨it_1, 0, none⟩) ∧ Kp F h0 F' h ∧ St F' (Ow.box bc 78 #[.map (some rc_at)] :: Ow.iter it_1 rc_at kT kI c_at rem_1 :: fr) h ∧ I_1 (rem_1, out_1, found_1)) m_1 (c_at, [], false) ⟨F, rfl, rfl, rfl, rfl, rfl, rfl, rfl, hK, hS, hI_1⟩ ?_
  rintro ⟨rem_1, out_1, found_1⟩ f_1 h_2 ⟨F_1, e0, e2, e3, e4, e5, e6, e15, hK, hS, hI0⟩
  obtain ⟨K_1, hKe_1⟩ : ∃ K : (List (Str × Int)) → Str → Bool → Prop, K = fun rem_1' out_1' found_1' => I_1 (rem_1', out_1', found_1') ∧ m_1 (rem_1', out_1', found_1') < m_1 (rem_1, out_1, found_1) := ⟨_, rfl⟩
  have hM : clock_Clock_Next_string_l1 c_at Q K_1 rem_1 out_1 found_1 := by rw [hKe_1]; exact hR_1 (rem_1, out_1, found_1) hI0
  unfold clock_Clock_Next_string_l1 at hM
  refine HW.fr [(0, .pointer (some ⟨bc, 0, none⟩)), (2, .string (bs [])), (3, .int .i64 0), (4, .bool false), (5, .string (bs out_1)), (6, .bool found_1), (15, .pointer (some ⟨it_1, 0, none⟩))] ⟨e0, e2, e3, e4, e5, e6, e15, trivial⟩ ?_
  refine HW.seq ?_
  refine HW.region ?_
  refine HO.eff (want_none) rfl (st_next hS (i := 1) rfl rfl) ?_
  rintro _ h_3 (⟨hrem, rfl, hEq⟩ | ⟨p_1, rem_2, hperm, rfl, hS, hk⟩)
  · rw [hEq]
    replace hM := hM.1 hrem
    replace hS := hS.done 1 rfl
    replace hS : St F_1 (Ow.box bc 78 #[.map (some rc_at)] :: Ow.map rc_at kT kI c_at :: fr) h_2 := hS
    refine HO.val (v := .bool false) (want_none) rfl (q_extract rfl rfl) ?_
    refine HO.nil (thenQ_normal (?_))
    refine HW.seq ?_
    refine HW.condF rfl ?_
    refine HW.exit (thenQ_exit (thenQ_exit (blockQ_exit (thenQ_normal (?_)))))
    refine HW.seq ?_
    refine HW.regionA 11 mixed (fun h => (Blk h bc (.cells #[.map (some rc_at)] 78 (0, 0))) ∧ (MapIs h rc_at kT kI c_at)) [] (by kernel_rfl) ?_
    refine HA.val (k := 0) (v := .string (bs out_1)) rfl rfl (by kernel_rfl) (by kernel_rfl) (want_none) rfl (fun _ ⟨c307, c308⟩ => q_move rfl) ?_
    refine HA.val (k := 1) (v := .pointer (some ⟨bc, 0, none⟩)) rfl rfl (by kernel_rfl) (by kernel_rfl) (want_none) rfl (fun _ ⟨c307, c308⟩ => q_move rfl) ?_
    refine HA.val (k := 2) (v := .pointer (some ⟨bc, 0, none⟩)) rfl rfl (by kernel_rfl) (by kernel_rfl) (want_none) rfl (fun _ ⟨c307, c308⟩ => q_nilCheck rfl) ?_
    refine HA.val (k := 3) (v := .pointer (some ⟨bc, 0, none⟩)) rfl rfl (by kernel_rfl) (by kernel_rfl) (want_none) rfl (fun _ ⟨c307, c308⟩ => q_fieldAddr fa_78_0 rfl rfl) ?_
    refine HA.val (k := 4) (v := .map (some rc_at)) rfl rfl (by kernel_rfl) (by kernel_rfl) (want_none) rfl (fun _ ⟨c307, c308⟩ => q_load to_76 rfl (Blk.cell c307 rfl)) ?_
    refine HA.val (k := 5) (v := .string (bs out_1)) rfl rfl (by kernel_rfl) (by kernel_rfl) (want_none) rfl (fun _ ⟨c307, c308⟩ => q_move rfl) ?_
    refine HA.val (k := 6) (v := .int .i64 (mget0 c_at out_1)) rfl rfl (by kernel_rfl) (by kernel_rfl) (want_none) rfl (fun _ ⟨c307, c308⟩ => (q_lookup (k := out_1) ka_9 tmk_76 c308 rfl rfl).of_eq (mval0 (z := .int .i64 0) rfl)) ?_
    refine HA.val (k := 7) (v := .bool found_1) rfl rfl (by kernel_rfl) (by kernel_rfl) (want_none) rfl (fun _ ⟨c307, c308⟩ => q_move rfl) ?_
    refine HA.val (k := 8) (v := .string (bs out_1)) rfl rfl (by kernel_rfl) (by kernel_rfl) (want_none) rfl (fun _ ⟨c307, c308⟩ => q_assign rfl) ?_
    refine HA.val (k := 9) (v := .int .i64 (mget0 c_at out_1)) rfl rfl (by kernel_rfl) (by kernel_rfl) (want_none) rfl (fun _ ⟨c307, c308⟩ => q_assign rfl) ?_
    refine HA.val (k := 10) (v := .bool found_1) rfl rfl (by kernel_rfl) (by kernel_rfl) (want_none) rfl (fun _ ⟨c307, c308⟩ => q_assign rfl) ?_
    refine HA.nil ⟨⟨(hS.box 0 rfl), (hS.mp 1 rfl)⟩, (Go.Wk.at_nil _ _)⟩ (by kernel_rfl) (thenQ_normal (?_))
    refine HW.ret (?_)
    refine ⟨.inr rfl, .tuple #[.string (bs out_1), .int .i64 (mget0 c_at out_1), .bool found_1], res3 rfl (rt rfl) (rt rfl) (rt rfl), ?_⟩
    exact ⟨F_1, out_1, mget0 c_at out_1, found_1, c_at, rfl, hK, hS, hM⟩
  · replace hM := hM.2 p_1 rem_2 hperm
    replace hS : St F_1 (Ow.box bc 78 #[.map (some rc_at)] :: Ow.cur it_1 rc_at kT kI c_at rem_2 p_1 :: fr) h_3 := hS
    replace hK := hK.trans hk
    refine HO.val (v := .bool true) (want_none) rfl (q_extract rfl rfl) ?_
    refine HO.nil (thenQ_normal (?_))
    refine HW.seq ?_
    refine HW.condT rfl ?_
    refine HW.skip (thenQ_normal (?_))
    refine HW.block ?_
    refine HW.seq ?_
    refine HW.region ?_
    refine HO.val (v := .tuple #[.string (bs p_1.1), .int .i64 p_1.2]) (want_none) rfl (q_entry (hS.cu 1 rfl) rfl) ?_
    refine HO.val (v := .string (bs p_1.1)) (want_none) rfl (q_extract rfl rfl) ?_
    refine HO.val (v := .string (bs p_1.1)) (want_none) rfl (q_assign rfl) ?_
    refine HO.nil (thenQ_normal (?_))
    refine HW.seq ?_
    refine HW.region ?_
    refine HO.val (v := .bool found_1) (want_none) rfl (q_move rfl) ?_
    refine HO.val (v := .bool (!found_1)) (want_none) rfl (q_not rfl) ?_
    refine HO.val (v := .bool (!found_1)) (want_none) rfl (q_move rfl) ?_
    rcases Bool.eq_false_or_eq_true (!found_1) with c_1 | c_1
    · replace hM := hM.1 c_1
      refine HO.past (past_by rfl rfl c_1) rfl ?_
      refine HO.past (past_by rfl rfl c_1) rfl ?_
      refine HO.past (past_by rfl rfl c_1) rfl ?_
      refine HO.past (past_by rfl rfl c_1) rfl ?_
      refine HO.past (past_by rfl rfl c_1) rfl ?_
      refine HO.val (v := .bool true) (want_none) rfl (q_pickK true rfl c_1 rfl) ?_
      refine HO.nil (thenQ_normal (?_))
      refine HW.condT rfl ?_
      refine HW.region ?_
      refine HO.val (v := .string (bs p_1.1)) (want_none) rfl (q_move rfl) ?_
      refine HO.val (v := .string (bs p_1.1)) (want_none) rfl (q_assign rfl) ?_
      refine HO.val (v := .bool true) (want_none) rfl (q_assign rfl) ?_
      refine HO.nil (blockQ_normal (thenQ_normal (?_)))
      replace hS := hS.again 1 rfl
      replace hS : St F_1 (Ow.box bc 78 #[.map (some rc_at)] :: Ow.iter it_1 rc_at kT kI c_at rem_2 :: fr) h_3 := hS
      rw [hKe_1] at hM
      exact ⟨(rem_2, p_1.1, true), ⟨F_1, rfl, rfl, rfl, rfl, rfl, rfl, rfl, hK, hS, hM.1⟩, hM.2⟩
    · replace hM := hM.2 c_1
      refine HO.val (v := .pointer (some ⟨bc, 0, none⟩)) (want_by rfl rfl c_1) rfl (q_move rfl) ?_
      refine HO.val (v := .string (bs p_1.1)) (want_by rfl rfl c_1) rfl (q_move rfl) ?_
      refine HO.val (v := .string (bs out_1)) (want_by rfl rfl c_1) rfl (q_move rfl) ?_
      have hZ_1 := hS
      have hkz_1 := (hS.freeze).2
      replace hS := hS.freeze.1
      have hL_1 := hZ_1.lent
      have hZ_2 := hS
      have hkz_2 := (hS.freeze).2
      replace hS := hS.freeze.1
      have hL_2 := hZ_2.lent.cur
      refine HO.call (want_by rfl rfl c_1) rfl (ec en_49 rfl rfl) (clock_Clock_before_string_walk (fr := (fr)) c_at p_1.1 out_1 bc rc_at hS hL_2 (hL_1.kp hkz_2) hM) ?_
      rintro _ h_4 ⟨F_2, r_1, rfl, hk, hS, _, _, hM⟩
      obtain ⟨hS, hk⟩ := hZ_2.back hk hS
      obtain ⟨hS, hk⟩ := hZ_1.back hk hS
      generalize (fun b => (fun b => F_2 b ∧ ¬ (Ow.cur it_1 rc_at kT kI c_at rem_2 p_1).foot b) b ∧ ¬ (Ow.box bc 78 #[.map (some rc_at)]).foot b) = F_3 at hS hk
      replace hK := hK.trans hk
      refine HO.val (v := .bool (decide (r_1 < 0))) (want_by rfl rfl c_1) rfl (q_lss rfl rfl) ?_
      refine HO.val (v := .bool (decide (r_1 < 0))) (want_none) rfl (q_pickK false rfl c_1 rfl) ?_
      refine HO.nil (thenQ_normal (?_))
      refine HW.cond (decide (r_1 < 0)) rfl (fun c_2 => ?_) (fun c_2 => ?_)
      · replace hM := hM.1 (of_decide_eq_true c_2)
        refine HW.region ?_
        refine HO.val (v := .string (bs p_1.1)) (want_none) rfl (q_move rfl) ?_
        refine HO.val (v := .string (bs p_1.1)) (want_none) rfl (q_assign rfl) ?_
        refine HO.val (v := .bool true) (want_none) rfl (q_assign rfl) ?_
        refine HO.nil (blockQ_normal (thenQ_normal (?_)))
        replace hS := hS.again 1 rfl
        replace hS : St F_3 (Ow.box bc 78 #[.map (some rc_at)] :: Ow.iter it_1 rc_at kT kI c_at rem_2 :: fr) h_4 := hS
        rw [hKe_1] at hM
        exact ⟨(rem_2, p_1.1, true), ⟨F_3, rfl, rfl, rfl, rfl, rfl, rfl, rfl, hK, hS, hM.1⟩, hM.2⟩
      · replace hM := hM.2 (of_decide_eq_false c_2)
        refine HW.skip (blockQ_normal (thenQ_normal (?_)))
        replace hS := hS.again 1 rfl
        replace hS : St F_3 (Ow.box bc 78 #[.map (some rc_at)] :: Ow.iter it_1 rc_at kT kI c_at rem_2 :: fr) h_4 := hS
        rw [hKe_1] at hM
        exact ⟨(rem_2, out_1, found_1), ⟨F_3, rfl, rfl, rfl, rfl, rfl, rfl, rfl, hK, hS, hM.1⟩, hM.2⟩

def clock_Clock_Len_string_W (c_at : List (Str × Int)) (Q : Int → Prop) : Prop :=
  Q (c_at.length : Int)
set_option maxHeartbeats 40000000 in
set_option maxRecDepth 100000 in
theorem clock_Clock_Len_string_walk {F : Fz} {fr : List Ow} {h0 : Heap} (c_at : List (Str × Int)) (bc : Nat) (rc_at : Nat) (hS : St F (fr) h0) (hM_rc_at : RoF (Ow.map rc_at kT kI c_at) F h0) (hB_bc : RoF (Ow.box bc 78 #[.map (some rc_at)]) F h0) {Q : Int → Prop} (hM : clock_Clock_Len_string_W c_at Q) :
    HC Try.prog 25 #[.pointer (some ⟨bc, 0, none⟩)] h0 fun u h' => ∃ (F' : Fz) (r_1 : Int), u = .int .i64 r_1 ∧ Kp F h0 F' h' ∧ St F' (fr) h' ∧ (RoF (Ow.map rc_at kT kI c_at) F' h') ∧ (RoF (Ow.box bc 78 #[.map (some rc_at)]) F' h') ∧ Q r_1 := by
  unfold clock_Clock_Len_string_W at hM
  have hK := Kp.refl F h0
  refine HC.of_HW (n := 10) Try.func25 rfl rfl (Nat.le_of_ble_eq_true rfl) ?_
  refine HW.seq ?_
  refine HW.region ?_
  refine HO.val (v := .int .i64 0) (want_none) rfl (q_assign rfl) ?_
  refine HO.nil (thenQ_normal (?_))
  refine HW.seq ?_
  refine HW.seq ?_
  refine HW.region ?_
  refine HO.val (v := .pointer (some ⟨bc, 0, none⟩)) (want_none) rfl (q_move rfl) ?_
  refine HO.val (v := .bool false) (want_none) rfl (q_eqlPnil Try.underlying23 rfl rfl rfl) ?_
  refine HO.nil (thenQ_normal (?_))
  refine HW.condF rfl ?_
  refine HW.skip (thenQ_normal (?_))
  refine HW.seq ?_
  refine HW.region ?_
  refine HO.val (v := .pointer (some ⟨bc, 0, none⟩)) (want_none) rfl (q_move rfl) ?_
  refine HO.val (v := .pointer (some ⟨bc, 0, none⟩)) (want_none) rfl (q_nilCheck rfl) ?_
  refine HO.val (v := .pointer (some ⟨bc, 0, none⟩)) (want_none) rfl (q_fieldAddr fa_78_0 rfl rfl) ?_
  refine HO.val (v := .map (some rc_at)) (want_none) rfl (q_load to_76 rfl (Blk.cell hB_bc.box rfl)) ?_
  refine HO.val (v := .int .i64 (c_at.length : Int)) (want_none) rfl (q_lenMap Try.underlying76 hM_rc_at.mp rfl rfl) ?_
  refine HO.val (v := .int .i64 (c_at.length : Int)) (want_none) rfl (q_assign rfl) ?_
  refine HO.nil (thenQ_normal (?_))
  refine HW.ret (?_)
  refine ⟨.inr rfl, .int .i64 (c_at.length : Int), res1 rfl (rt rfl), ?_⟩
  exact ⟨F, (c_at.length : Int), rfl, hK, hS, hM_rc_at, hB_bc, hM⟩

def clock_Clock_Keys_string_W (c_at : List (Str × Int)) (Q : (List Str) → Prop) : Prop :=
  (c_at.length ≤ 1000000 ∧ ∀ p ∈ c_at, p.1.length ≤ 1000000) ∧ (∀ l_1 : List Str, List.Perm l_1 (c_at.map Prod.fst) → List.Pairwise (fun x y => ¬ y < x) l_1 → (Q l_1))
set_option maxHeartbeats 40000000 in
set_option maxRecDepth 100000 in
theorem clock_Clock_Keys_string_walk {F : Fz} {fr : List Ow} {h0 : Heap} (c_at : List (Str × Int)) (bc : Nat) (rc_at : Nat) (hS : St F (fr) h0) (hM_rc_at : RoF (Ow.map rc_at kT kI c_at) F h0) (hB_bc : RoF (Ow.box bc 78 #[.map (some rc_at)]) F h0) (hD : DM.on = false) {Q : (List Str) → Prop} (hM : clock_Clock_Keys_string_W c_at Q) :
    HC Try.prog 24 #[.pointer (some ⟨bc, 0, none⟩)] h0 fun u h' => ∃ (F' : Fz) (r_1 : List Str) (vr_1 : Value), u = vr_1 ∧ Kp F h0 F' h' ∧ St F' (Ow.own 9 1 encT vr_1 r_1 :: fr) h' ∧ (RoF (Ow.map rc_at kT kI c_at) F' h') ∧ (RoF (Ow.box bc 78 #[.map (some rc_at)]) F' h') ∧ Q r_1 := by
  unfold clock_Clock_Keys_string_W at hM
  have hK := Kp.refl F h0
  refine HC.of_HW (n := 11) Try.func24 rfl rfl (Nat.le_of_ble_eq_true rfl) ?_
  refine HW.seq ?_
  refine HW.region ?_
  refine HO.val (v := .slice none 0 0) (want_none) rfl (q_assign rfl) ?_
  refine HO.nil (thenQ_normal (?_))
  refine HW.seq ?_
  refine HW.seq ?_
  refine HW.region ?_
  refine HO.val (v := .pointer (some ⟨bc, 0, none⟩)) (want_none) rfl (q_move rfl) ?_
  refine HO.val (v := .bool false) (want_none) rfl (q_eqlPnil Try.underlying23 rfl rfl rfl) ?_
  refine HO.nil (thenQ_normal (?_))
  refine HW.condF rfl ?_
  refine HW.skip (thenQ_normal (?_))
  refine HW.seq ?_
  refine HW.region ?_
  refine HO.val (v := .pointer (some ⟨bc, 0, none⟩)) (want_none) rfl (q_move rfl) ?_
  refine HO.val (v := .pointer (some ⟨bc, 0, none⟩)) (want_none) rfl (q_nilCheck rfl) ?_
  refine HO.val (v := .pointer (some ⟨bc, 0, none⟩)) (want_none) rfl (q_fieldAddr fa_78_0 rfl rfl) ?_
  refine HO.val (v := .map (some rc_at)) (want_none) rfl (q_load to_76 rfl (Blk.cell hB_bc.box rfl)) ?_
  refine HO.call (want_none) rfl (ec en_51 rfl rfl) (mkeysT hS) ?_
  rintro _ h_1 ⟨b_1, rfl, hk, hS⟩
  replace hS : St F (Ow.box b_1 76 #[.map (some rc_at)] :: fr) h_1 := hS
  replace hK := hK.trans hk
  replace hM_rc_at := hM_rc_at.kp hk
  replace hB_bc := hB_bc.kp hk
  obtain ⟨ho_1, hM⟩ := hM
  refine HO.call (want_none) rfl (ec en_50 rfl rfl) (sortedT hD hS (hS.box 0 rfl) hM_rc_at.mp ho_1.1 ho_1.2) ?_
  rintro v_1 h_2 ⟨l_1, hk, hS, hp_1, hs_1⟩
  replace hM := hM l_1 hp_1 hs_1
  replace hS : St F (Ow.own 9 1 encT v_1 l_1 :: Ow.box b_1 76 #[.map (some rc_at)] :: fr) h_2 := hS
  replace hK := hK.trans hk
  replace hM_rc_at := hM_rc_at.kp hk
  replace hB_bc := hB_bc.kp hk
  refine HO.val (v := v_1) (want_none) rfl (q_assign rfl) ?_
  refine HO.nil (thenQ_normal (?_))
  refine HW.ret (?_)
  refine ⟨.inr rfl, v_1, res1 rfl (rt rfl), ?_⟩
  replace hS : St F (Ow.own 9 1 encT v_1 l_1 :: fr) h_2 := hS.perm2 [0] 2 rfl rfl
  exact ⟨F, l_1, v_1, rfl, hK, hS, hM_rc_at, hB_bc, hM⟩

def ref12_Sorted_j1 (l : List Str) (out_1 : List Str) (i_1 : Int) (K_1 : (List Str) → Int → Prop) (n_1 : Int) : Prop :=
  ((0 : Int) ≤ n_1 ∧ n_1 ≤ (out_1.length : Int)) ∧ (((0 : Int) ≤ i_1 ∧ i_1 < (l.length : Int)) ∧ (((0 : Int) ≤ 0 ∧ 0 ≤ n_1 ∧ n_1 ≤ (out_1.length : Int)) ∧ (((([] : List Str).length + (cut out_1 0 n_1).length) * 16 ≤ 140737488355328) ∧ ((((([] : List Str) ++ (cut out_1 0 n_1)).length + ([(gi l i_1)] : List Str).length) * 16 ≤ 140737488355328) ∧ (((0 : Int) ≤ n_1 ∧ n_1 ≤ (out_1.length : Int) ∧ (out_1.length : Int) ≤ (out_1.length : Int)) ∧ (((((([] : List Str) ++ (cut out_1 0 n_1)) ++ ([(gi l i_1)] : List Str)).length + (cut out_1 n_1 (out_1.length : Int)).length) * 16 ≤ 140737488355328) ∧ ((I64 (i_1 + 1)) ∧ (K_1 (((([] : List Str) ++ (cut out_1 0 n_1)) ++ ([(gi l i_1)] : List Str)) ++ (cut out_1 n_1 (out_1.length : Int))) (i_1 + 1)))))))))
def ref12_Sorted_l2 (l : List Str) (out_1 : List Str) (i_1 : Int) (K_1 : (List Str) → Int → Prop) (K_2 : Int → Prop) (n_2 : Int) : Prop :=
  (n_2 < (out_1.length : Int) → ((0 : Int) ≤ n_2 ∧ n_2 < (out_1.length : Int)) ∧ (((0 : Int) ≤ i_1 ∧ i_1 < (l.length : Int)) ∧ ((((gi out_1 n_2) : Str) < ((gi l i_1) : Str) → (I64 (n_2 + 1)) ∧ (K_2 (n_2 + 1))) ∧ (¬ (((gi out_1 n_2) : Str) < ((gi l i_1) : Str)) → ref12_Sorted_j1 l out_1 i_1 K_1 n_2)))) ∧ (¬ (n_2 < (out_1.length : Int)) → ref12_Sorted_j1 l out_1 i_1 K_1 n_2)
def ref12_Sorted_l1 (l : List Str) (Q : (List Str) → Prop) (K_1 : (List Str) → Int → Prop) (out_1 : List Str) (i_1 : Int) : Prop :=
  (i_1 < (l.length : Int) → loopW (fun (K_2 : Int → Prop) (s : Int) => ref12_Sorted_l2 l out_1 i_1 K_1 K_2 s) 0) ∧ (¬ (i_1 < (l.length : Int)) → Q out_1)
def ref12_Sorted_W (l : List Str) (Q : (List Str) → Prop) : Prop :=
  loopW (fun (K_1 : (List Str × Int) → Prop) (s : List Str × Int) => ref12_Sorted_l1 l Q (fun out_1 i_1 => K_1 (out_1, i_1)) s.1 s.2) ([], 0)
set_option maxHeartbeats 40000000 in
set_option maxRecDepth 100000 in
theorem ref12_Sorted_walk {F : Fz} {fr : List Ow} {h0 : Heap} (l : List Str) (vl : Value) (hS : St F (fr) h0) (hL_l : SliceF F h0 1 encT vl l) {Q : (List Str) → Prop} (hM : ref12_Sorted_W l Q) :
    HC Try.prog 47 #[vl] h0 fun u h' => ∃ (F' : Fz) (r_1 : List Str) (vr_1 : Value), u = vr_1 ∧ Kp F h0 F' h' ∧ St F' (Ow.own 9 1 encT vr_1 r_1 :: fr) h' ∧ (SliceF F' h' 1 encT vl l) ∧ Q r_1 := by
  unfold ref12_Sorted_W at hM
  have hK := Kp.refl F h0
  refine HC.of_HW (n := 46) Try.func47 rfl rfl (Nat.le_of_ble_eq_true rfl) ?_
  refine HW.seq ?_
  refine HW.region ?_
  refine HO.val (v := .slice none 0 0) (want_none) rfl (q_assign rfl) ?_
  refine HO.nil (thenQ_normal (?_))
  refine HW.seq ?_
  refine HW.region ?_
  refine HO.eff (want_none) rfl (st_litEmpty (α := Str) encT hS tl_36) ?_
  rintro _ h_1 ⟨b_1, rfl, hS, hk⟩
  replace hK := hK.trans hk
  replace hL_l := hL_l.kp hk
  refine HO.val (v := .slice (some ⟨b_1, 0, none⟩) 0 0) (want_none) rfl (q_assign rfl) ?_
  refine HO.nil (thenQ_normal (?_))
  refine HW.seq ?_
  refine HW.seq ?_
  refine HW.region ?_
  refine HO.val (v := .int .i64 0) (want_none) rfl (q_assign rfl) ?_
  refine HO.nil (thenQ_normal (?_))
  refine HW.block ?_
  obtain ⟨I_1, m_1, hI_1, hR_1⟩ := hM
  refine HW.loop (S := List Str × Int) (fun s f h => match s with | (out_1, i_1) => ∃ (F' : Fz) (vout_1 : Value), f 0 = vl ∧ f 2 = .slice none 0 0 ∧ f 3 = vout_1 ∧ f 4 = .int .i64 i_1 ∧ Kp F h0 F' h ∧ St F' (Ow.own 9 1 encT vout_1 out_1 :: fr) h ∧ (SliceF F' h 1 encT vl l) ∧ I_1 (out_1, i_1)) m_1 ([], 0) ⟨F, .slice (some ⟨b_1, 0, none⟩) 0 0, rfl, rfl, rfl, rfl, hK, hS, hL_l, hI_1⟩ ?_
  rintro ⟨out_1, i_1⟩ f_1 h_2 ⟨F_1, vout_1, e0, e2, e3, e4, hK, hS, hL_l, hI0⟩
  obtain ⟨K_1, hKe_1⟩ : ∃ K : (List Str) → Int → Prop, K = fun out_1' i_1' => I_1 (out_1', i_1') ∧ m_1 (out_1', i_1') < m_1 (out_1, i_1) := ⟨_, rfl⟩
  have hM : ref12_Sorted_l1 l Q K_1 out_1 i_1 := by rw [hKe_1]; exact hR_1 (out_1, i_1) hI0
  unfold ref12_Sorted_l1 at hM
  refine HW.fr [(0, vl), (2, .slice none 0 0), (3, vout_1), (4, .int .i64 i_1)] ⟨e0, e2, e3, e4, trivial⟩ ?_
  refine HW.seq ?_
  refine HW.seq ?_
  refine HW.region ?_
  refine HO.val (v := .int .i64 i_1) (want_none) rfl (q_move rfl) ?_
  refine HO.val (v := vl) (want_none) rfl (q_move rfl) ?_
  refine HO.val (v := .int .i64 (l.length : Int)) (want_none) rfl (q_len ts_36 (shp hL_l.is) rfl rfl) ?_
  refine HO.val (v := .bool (decide (i_1 < (l.length : Int)))) (want_none) rfl (q_lss rfl rfl) ?_
  refine HO.nil (thenQ_normal (?_))
  refine HW.cond (decide (i_1 < (l.length : Int))) rfl (fun c_1 => ?_) (fun c_1 => ?_)
  · replace hM := hM.1 (of_decide_eq_true c_1)
    refine HW.skip (thenQ_normal (?_))
    refine HW.seq ?_
    refine HW.block ?_
    refine HW.seq ?_
    refine HW.region ?_
    refine HO.val (v := .int .i64 0) (want_none) rfl (q_assign rfl) ?_
    refine HO.nil (thenQ_normal (?_))
    refine HW.seq_mid (fun f h => ∃ (F' : Fz) (n_1 : Int), f 0 = vl ∧ f 2 = .slice none 0 0 ∧ f 3 = vout_1 ∧ f 4 = .int .i64 i_1 ∧ f 5 = .int .i64 n_1 ∧ Kp F h0 F' h ∧ St F' (Ow.own 9 1 encT vout_1 out_1 :: fr) h ∧ (SliceF F' h 1 encT vl l) ∧ ref12_Sorted_j1 l out_1 i_1 K_1 n_1) ?_ ?_
    · refine HW.block ?_
      obtain ⟨I_2, m_2, hI_2, hR_2⟩ := hM
      refine HW.loop (S := Int) (fun n_2 f h => ∃ (F' : Fz), f 0 = vl ∧ f 2 = .slice none 0 0 ∧ f 3 = vout_1 ∧ f 4 = .int .i64 i_1 ∧ f 5 = .int .i64 n_2 ∧ Kp F h0 F' h ∧ St F' (Ow.own 9 1 encT vout_1 out_1 :: fr) h ∧ (SliceF F' h 1 encT vl l) ∧ I_2 n_2) m_2 0 ⟨F_1, rfl, rfl, rfl, rfl, rfl, hK, hS, hL_l, hI_2⟩ ?_
      rintro n_2 f_2 h_3 ⟨F_2, e0, e2, e3, e4, e5, hK, hS, hL_l, hI0⟩
      obtain ⟨K_2, hKe_2⟩ : ∃ K : Int → Prop, K = fun n_2' => I_2 n_2' ∧ m_2 n_2' < m_2 n_2 := ⟨_, rfl⟩
      have hM : ref12_Sorted_l2 l out_1 i_1 K_1 K_2 n_2 := by rw [hKe_2]; exact hR_2 n_2 hI0
      unfold ref12_Sorted_l2 at hM
      refine HW.fr [(0, vl), (2, .slice none 0 0), (3, vout_1), (4, .int .i64 i_1), (5, .int .i64 n_2)] ⟨e0, e2, e3, e4, e5, trivial⟩ ?_
      refine HW.seq ?_
      refine HW.seq ?_
      refine HW.regionA 15 mixed (fun h => (SliceIs h 1 encT vl l) ∧ (OwnIs h 0 9 1 encT vout_1 out_1)) [] (by kernel_rfl) ?_
      refine HA.val (k := 0) (v := .int .i64 n_2) rfl rfl (by kernel_rfl) (by kernel_rfl) (want_none) rfl (fun _ ⟨hL_l, c405⟩ => q_move rfl) ?_
      refine HA.val (k := 1) (v := vout_1) rfl rfl (by kernel_rfl) (by kernel_rfl) (want_none) rfl (fun _ ⟨hL_l, c405⟩ => q_move rfl) ?_
      refine HA.val (k := 2) (v := .int .i64 (out_1.length : Int)) rfl rfl (by kernel_rfl) (by kernel_rfl) (want_none) rfl (fun _ ⟨hL_l, c405⟩ => q_len ts_36 (shp c405.slice) rfl rfl) ?_
      refine HA.val (k := 3) (v := .bool (decide (n_2 < (out_1.length : Int)))) rfl rfl (by kernel_rfl) (by kernel_rfl) (want_none) rfl (fun _ ⟨hL_l, c405⟩ => q_lss rfl rfl) ?_
      refine HA.val (k := 4) (v := .bool (decide (n_2 < (out_1.length : Int)))) rfl rfl (by kernel_rfl) (by kernel_rfl) (want_none) rfl (fun _ ⟨hL_l, c405⟩ => q_move rfl) ?_
      rcases Bool.eq_false_or_eq_true (decide (n_2 < (out_1.length : Int))) with c_2 | c_2
      · replace hM := hM.1 (of_decide_eq_true c_2)
        refine HA.val (k := 5) (v := vout_1) rfl rfl (by kernel_rfl) (by kernel_rfl) (want_by rfl rfl c_2) rfl (fun _ ⟨hL_l, c405⟩ => q_move rfl) ?_
        refine HA.val (k := 6) (v := .int .i64 n_2) rfl rfl (by kernel_rfl) (by kernel_rfl) (want_by rfl rfl c_2) rfl (fun _ ⟨hL_l, c405⟩ => q_move rfl) ?_
        obtain ⟨ho_1, hM⟩ := hM
        refine HA.val (k := 7) (v := elemPtr 1 vout_1 (n_2).toNat) rfl rfl (by kernel_rfl) (by kernel_rfl) (want_by rfl rfl c_2) rfl (fun _ ⟨hL_l, c405⟩ => q_idx ts_36 c405.slice rfl rfl ho_1) ?_
        refine HA.val (k := 8) (v := .string (bs (gi out_1 n_2))) rfl rfl (by kernel_rfl) (by kernel_rfl) (want_by rfl rfl c_2) rfl (fun _ ⟨hL_l, c405⟩ => q_ldElem to_9 c405.slice rfl ho_1 rfl) ?_
        refine HA.val (k := 9) (v := vl) rfl rfl (by kernel_rfl) (by kernel_rfl) (want_by rfl rfl c_2) rfl (fun _ ⟨hL_l, c405⟩ => q_move rfl) ?_
        refine HA.val (k := 10) (v := .int .i64 i_1) rfl rfl (by kernel_rfl) (by kernel_rfl) (want_by rfl rfl c_2) rfl (fun _ ⟨hL_l, c405⟩ => q_move rfl) ?_
        obtain ⟨ho_2, hM⟩ := hM
        refine HA.val (k := 11) (v := elemPtr 1 vl (i_1).toNat) rfl rfl (by kernel_rfl) (by kernel_rfl) (want_by rfl rfl c_2) rfl (fun _ ⟨hL_l, c405⟩ => q_idx ts_36 hL_l rfl rfl ho_2) ?_
        refine HA.val (k := 12) (v := .string (bs (gi l i_1))) rfl rfl (by kernel_rfl) (by kernel_rfl) (want_by rfl rfl c_2) rfl (fun _ ⟨hL_l, c405⟩ => q_ldElem to_9 hL_l rfl ho_2 rfl) ?_
        refine HA.val (k := 13) (v := .bool (decide (((gi out_1 n_2) : Str) < ((gi l i_1) : Str)))) rfl rfl (by kernel_rfl) (by kernel_rfl) (want_by rfl rfl c_2) rfl (fun _ ⟨hL_l, c405⟩ => q_lssT rfl rfl) ?_
        refine HA.val (k := 14) (v := .bool (decide (((gi out_1 n_2) : Str) < ((gi l i_1) : Str)))) rfl rfl (by kernel_rfl) (by kernel_rfl) (want_none) rfl (fun _ ⟨hL_l, c405⟩ => q_pickK true rfl c_2 rfl) ?_
        refine HA.nil ⟨⟨hL_l.is, (hS.own 0 rfl)⟩, (Go.Wk.at_nil _ _)⟩ (by kernel_rfl) (thenQ_normal (?_))
        refine HW.cond (decide (((gi out_1 n_2) : Str) < ((gi l i_1) : Str))) rfl (fun c_3 => ?_) (fun c_3 => ?_)
        · replace hM := hM.1 (of_decide_eq_true c_3)
          refine HW.skip (thenQ_normal (?_))
          refine HW.block ?_
          refine HW.region ?_
          refine HO.val (v := .int .i64 n_2) (want_none) rfl (q_move rfl) ?_
          obtain ⟨ho_3, hM⟩ := hM
          refine HO.val (v := .int .i64 (n_2 + 1)) (want_none) rfl (q_addN _ rfl rfl rfl ho_3.1 ho_3.2) ?_
          refine HO.val (v := .int .i64 (n_2 + 1)) (want_none) rfl (q_assign rfl) ?_
          refine HO.nil (blockQ_normal (thenQ_normal (?_)))
          rw [hKe_2] at hM
          exact ⟨n_2 + 1, ⟨F_2, rfl, rfl, rfl, rfl, rfl, hK, hS, hL_l, hM.1⟩, hM.2⟩
        · replace hM := hM.2 (of_decide_eq_false c_3)
          refine HW.exit (thenQ_exit (thenQ_exit (blockQ_exit (thenQ_normal (?_)))))
          exact ⟨F_2, n_2, rfl, rfl, rfl, rfl, rfl, hK, hS, hL_l, hM⟩
      · replace hM := hM.2 (of_decide_eq_false c_2)
        refine HA.past (k := 5) rfl rfl (by kernel_rfl) (by kernel_rfl) (past_by rfl rfl c_2) rfl ?_
        refine HA.past (k := 6) rfl rfl (by kernel_rfl) (by kernel_rfl) (past_by rfl rfl c_2) rfl ?_
        refine HA.past (k := 7) rfl rfl (by kernel_rfl) (by kernel_rfl) (past_by rfl rfl c_2) rfl ?_
        refine HA.past (k := 8) rfl rfl (by kernel_rfl) (by kernel_rfl) (past_by rfl rfl c_2) rfl ?_
        refine HA.past (k := 9) rfl rfl (by kernel_rfl) (by kernel_rfl) (past_by rfl rfl c_2) rfl ?_
        refine HA.past (k := 10) rfl rfl (by kernel_rfl) (by kernel_rfl) (past_by rfl rfl c_2) rfl ?_
        refine HA.past (k := 11) rfl rfl (by kernel_rfl) (by kernel_rfl) (past_by rfl rfl c_2) rfl ?_
        refine HA.past (k := 12) rfl rfl (by kernel_rfl) (by kernel_rfl) (past_by rfl rfl c_2) rfl ?_
        refine HA.past (k := 13) rfl rfl (by kernel_rfl) (by kernel_rfl) (past_by rfl rfl c_2) rfl ?_
        refine HA.val (k := 14) (v := .bool false) rfl rfl (by kernel_rfl) (by kernel_rfl) (want_none) rfl (fun _ ⟨hL_l, c405⟩ => q_pickK false rfl c_2 rfl) ?_
        refine HA.nil ⟨⟨hL_l.is, (hS.own 0 rfl)⟩, (Go.Wk.at_nil _ _)⟩ (by kernel_rfl) (thenQ_normal (?_))
        refine HW.condF rfl ?_
        refine HW.exit (thenQ_exit (thenQ_exit (blockQ_exit (thenQ_normal (?_)))))
        exact ⟨F_2, n_2, rfl, rfl, rfl, rfl, rfl, hK, hS, hL_l, hM⟩
    · rintro f_3 h_4 ⟨F_3, n_1, e0, e2, e3, e4, e5, hK, hS, hL_l, hM⟩
      unfold ref12_Sorted_j1 at hM
      refine HW.fr [(0, vl), (2, .slice none 0 0), (3, vout_1), (4, .int .i64 i_1), (5, .int .i64 n_1)] ⟨e0, e2, e3, e4, e5, trivial⟩ ?_
      obtain ⟨ho_4, hM⟩ := hM
      obtain ⟨ho_5, hM⟩ := hM
      obtain ⟨ho_6, hM⟩ := hM
      obtain ⟨ho_7, hM⟩ := hM
      obtain ⟨ho_8, hM⟩ := hM
      obtain ⟨ho_9, hM⟩ := hM
      obtain ⟨ho_10, hM⟩ := hM
      refine HW.regionA 16 mixed (fun h => (SliceIs h 1 encT vl l) ∧ (OwnIs h 0 9 1 encT vout_1 out_1)) [] (by kernel_rfl) ?_
      refine HA.val (k := 1) (v := vout_1) rfl rfl (by kernel_rfl) (by kernel_rfl) (want_none) rfl (fun _ ⟨hL_l, c304⟩ => q_move rfl) ?_
      refine HA.val (k := 2) (v := .int .i64 n_1) rfl rfl (by kernel_rfl) (by kernel_rfl) (want_none) rfl (fun _ ⟨hL_l, c304⟩ => q_move rfl) ?_
      refine HA.val (k := 3) (v := cutV 1 vout_1 (0 : Int).toNat (n_1).toNat) rfl rfl (by kernel_rfl) (by kernel_rfl) (want_none) rfl (fun _ ⟨hL_l, c304⟩ => q_slH ts_36 c304.slice rfl rfl ho_4) ?_
      refine HA.val (k := 5) (v := vl) rfl rfl (by kernel_rfl) (by kernel_rfl) (want_none) rfl (fun _ ⟨hL_l, c304⟩ => q_move rfl) ?_
      refine HA.val (k := 6) (v := .int .i64 i_1) rfl rfl (by kernel_rfl) (by kernel_rfl) (want_none) rfl (fun _ ⟨hL_l, c304⟩ => q_move rfl) ?_
      refine HA.val (k := 7) (v := elemPtr 1 vl (i_1).toNat) rfl rfl (by kernel_rfl) (by kernel_rfl) (want_none) rfl (fun _ ⟨hL_l, c304⟩ => q_idx ts_36 hL_l rfl rfl ho_5) ?_
      refine HA.val (k := 8) (v := .string (bs (gi l i_1))) rfl rfl (by kernel_rfl) (by kernel_rfl) (want_none) rfl (fun _ ⟨hL_l, c304⟩ => q_ldElem to_9 hL_l rfl ho_5 rfl) ?_
      refine HA.val (k := 11) (v := vout_1) rfl rfl (by kernel_rfl) (by kernel_rfl) (want_none) rfl (fun _ ⟨hL_l, c304⟩ => q_move rfl) ?_
      refine HA.val (k := 12) (v := .int .i64 n_1) rfl rfl (by kernel_rfl) (by kernel_rfl) (want_none) rfl (fun _ ⟨hL_l, c304⟩ => q_move rfl) ?_
      refine HA.val (k := 13) (v := cutV 1 vout_1 (n_1).toNat ((out_1.length : Int)).toNat) rfl rfl (by kernel_rfl) (by kernel_rfl) (want_none) rfl (fun _ ⟨hL_l, c304⟩ => q_slL ts_36 c304.slice rfl rfl ho_4) ?_
      refine HA.two (k := 0) (k' := 9) ⟨⟨hL_l.is, (hS.own 0 rfl)⟩, (Go.Wk.at_nil _ _)⟩ (by kernel_rfl) ?_ ?_
      · refine HS.eff rfl (want_none) rfl (st_litEmpty (α := Str) encT hS tl_36) ?_
        rintro _ h_5 ⟨b_2, rfl, hS, hk⟩
        replace hK := hK.trans hk
        replace hL_l := hL_l.kp hk
        refine HA.two (k := 4) (k' := 9) ⟨⟨hL_l.is, (hS.own 1 rfl)⟩, (Go.Wk.at_nil _ _)⟩ (by kernel_rfl) ?_ ?_
        · refine HS.eff rfl (want_none) rfl (st_append te_36 hS (i := 0) rfl (cutIs (hS.own 1 rfl).slice 0 n_1 ho_6.1 ho_6.2.1 ho_6.2.2) rfl rfl rfl (by intro a _ u hu; simp [encT, encI, encN, encB, encT] at hu; subst hu; rfl) ho_7 (by omega)) ?_
          rintro v_1 h_6 ⟨hS, hk⟩
          replace hS : St F_3 (Ow.own 9 1 encT v_1 (([] : List Str) ++ (cut out_1 0 n_1)) :: Ow.own 9 1 encT vout_1 out_1 :: fr) h_6 := hS
          replace hK := hK.trans hk
          replace hL_l := hL_l.kp hk
          refine HA.one (k := 9) ⟨⟨hL_l.is, (hS.own 1 rfl)⟩, (Go.Wk.at_nil _ _)⟩ (by kernel_rfl) ?_
          refine HS.eff rfl (want_none) rfl (st_lit (enc := encT) (cells := #[.string (bs (gi l i_1))]) #[.string (bs [])] ([(gi l i_1)] : List Str) hS tl_36 (by decide) (by decide) (by kernel_rfl) (by kernel_rfl) rfl (by intro x hx; rfl) rfl) ?_
          rintro _ h_7 ⟨b_3, rfl, hS, hk⟩
          replace hK := hK.trans hk
          replace hL_l := hL_l.kp hk
          refine HA.one (k := 10) ⟨⟨hL_l.is, (hS.own 2 rfl)⟩, (Go.Wk.at_nil _ _)⟩ (by kernel_rfl) ?_
          refine HS.eff rfl (want_none) rfl (st_append te_36 hS (i := 1) rfl (hS.own 0 rfl).slice rfl rfl rfl (by intro a _ u hu; simp [encT, encI, encN, encB, encT] at hu; subst hu; rfl) ho_8 (by omega)) ?_
          rintro v_2 h_8 ⟨hS, hk⟩
          replace hS : St F_3 (Ow.own 9 1 encT (.slice (some ⟨b_3, 0, none⟩) 1 1) ([(gi l i_1)] : List Str) :: Ow.own 9 1 encT v_2 ((([] : List Str) ++ (cut out_1 0 n_1)) ++ ([(gi l i_1)] : List Str)) :: Ow.own 9 1 encT vout_1 out_1 :: fr) h_8 := hS
          replace hK := hK.trans hk
          replace hL_l := hL_l.kp hk
          refine HA.one (k := 14) ⟨⟨hL_l.is, (hS.own 2 rfl)⟩, (Go.Wk.at_nil _ _)⟩ (by kernel_rfl) ?_
          refine HS.eff rfl (want_none) rfl (st_append te_36 hS (i := 1) rfl (cutIs (hS.own 2 rfl).slice n_1 (out_1.length : Int) ho_9.1 ho_9.2.1 ho_9.2.2) rfl rfl rfl (by intro a _ u hu; simp [encT, encI, encN, encB, encT] at hu; subst hu; rfl) ho_10 (by omega)) ?_
          rintro v_3 h_9 ⟨hS, hk⟩
          replace hS : St F_3 (Ow.own 9 1 encT (.slice (some ⟨b_3, 0, none⟩) 1 1) ([(gi l i_1)] : List Str) :: Ow.own 9 1 encT v_3 (((([] : List Str) ++ (cut out_1 0 n_1)) ++ ([(gi l i_1)] : List Str)) ++ (cut out_1 n_1 (out_1.length : Int))) :: Ow.own 9 1 encT vout_1 out_1 :: fr) h_9 := hS
          replace hK := hK.trans hk
          replace hL_l := hL_l.kp hk
          refine HA.val (k := 15) (v := v_3) rfl rfl (by kernel_rfl) (by kernel_rfl) (want_none) rfl (fun _ ⟨hL_l, c304⟩ => q_assign rfl) ?_
          refine HA.nil ⟨⟨hL_l.is, (hS.own 2 rfl)⟩, (Go.Wk.at_nil _ _)⟩ (by kernel_rfl) (blockQ_normal (thenQ_normal (?_)))
          refine HW.region ?_
          refine HO.val (v := .int .i64 i_1) (want_none) rfl (q_move rfl) ?_
          obtain ⟨ho_11, hM⟩ := hM
          refine HO.val (v := .int .i64 (i_1 + 1)) (want_none) rfl (q_addN _ rfl rfl rfl ho_11.1 ho_11.2) ?_
          refine HO.val (v := .int .i64 (i_1 + 1)) (want_none) rfl (q_assign rfl) ?_
          refine HO.nil (thenQ_normal (?_))
          replace hS : St F_3 (Ow.own 9 1 encT v_3 (((([] : List Str) ++ (cut out_1 0 n_1)) ++ ([(gi l i_1)] : List Str)) ++ (cut out_1 n_1 (out_1.length : Int))) :: fr) h_9 := hS.perm2 [1] 3 rfl rfl
          rw [hKe_1] at hM
          exact ⟨(((([] : List Str) ++ (cut out_1 0 n_1)) ++ ([(gi l i_1)] : List Str)) ++ (cut out_1 n_1 (out_1.length : Int)), i_1 + 1), ⟨F_3, v_3, rfl, rfl, rfl, rfl, hK, hS, hL_l, hM.1⟩, hM.2⟩
        · refine HS.eff rfl (want_none) rfl (st_lit (enc := encT) (cells := #[.string (bs (gi l i_1))]) #[.string (bs [])] ([(gi l i_1)] : List Str) hS tl_36 (by decide) (by decide) (by kernel_rfl) (by kernel_rfl) rfl (by intro x hx; rfl) rfl) ?_
          rintro _ h_6 ⟨b_3, rfl, hS, hk⟩
          replace hK := hK.trans hk
          replace hL_l := hL_l.kp hk
          refine HA.one (k := 4) ⟨⟨hL_l.is, (hS.own 2 rfl)⟩, (Go.Wk.at_nil _ _)⟩ (by kernel_rfl) ?_
          refine HS.eff rfl (want_none) rfl (st_append te_36 hS (i := 1) rfl (cutIs (hS.own 2 rfl).slice 0 n_1 ho_6.1 ho_6.2.1 ho_6.2.2) rfl rfl rfl (by intro a _ u hu; simp [encT, encI, encN, encB, encT] at hu; subst hu; rfl) ho_7 (by omega)) ?_
          rintro v_1 h_7 ⟨hS, hk⟩
          replace hS : St F_3 (Ow.own 9 1 encT (.slice (some ⟨b_3, 0, none⟩) 1 1) ([(gi l i_1)] : List Str) :: Ow.own 9 1 encT v_1 (([] : List Str) ++ (cut out_1 0 n_1)) :: Ow.own 9 1 encT vout_1 out_1 :: fr) h_7 := hS
          replace hK := hK.trans hk
          replace hL_l := hL_l.kp hk
          refine HA.one (k := 10) ⟨⟨hL_l.is, (hS.own 2 rfl)⟩, (Go.Wk.at_nil _ _)⟩ (by kernel_rfl) ?_
          refine HS.eff rfl (want_none) rfl (st_append te_36 hS (i := 1) rfl (hS.own 0 rfl).slice rfl rfl rfl (by intro a _ u hu; simp [encT, encI, encN, encB, encT] at hu; subst hu; rfl) ho_8 (by omega)) ?_
          rintro v_2 h_8 ⟨hS, hk⟩
          replace hS : St F_3 (Ow.own 9 1 encT (.slice (some ⟨b_3, 0, none⟩) 1 1) ([(gi l i_1)] : List Str) :: Ow.own 9 1 encT v_2 ((([] : List Str) ++ (cut out_1 0 n_1)) ++ ([(gi l i_1)] : List Str)) :: Ow.own 9 1 encT vout_1 out_1 :: fr) h_8 := hS
          replace hK := hK.trans hk
          replace hL_l := hL_l.kp hk
          refine HA.one (k := 14) ⟨⟨hL_l.is, (hS.own 2 rfl)⟩, (Go.Wk.at_nil _ _)⟩ (by kernel_rfl) ?_
          refine HS.eff rfl (want_none) rfl (st_append te_36 hS (i := 1) rfl (cutIs (hS.own 2 rfl).slice n_1 (out_1.length : Int) ho_9.1 ho_9.2.1 ho_9.2.2) rfl rfl rfl (by intro a _ u hu; simp [encT, encI, encN, encB, encT] at hu; subst hu; rfl) ho_10 (by omega)) ?_
          rintro v_3 h_9 ⟨hS, hk⟩
          replace hS : St F_3 (Ow.own 9 1 encT (.slice (some ⟨b_3, 0, none⟩) 1 1) ([(gi l i_1)] : List Str) :: Ow.own 9 1 encT v_3 (((([] : List Str) ++ (cut out_1 0 n_1)) ++ ([(gi l i_1)] : List Str)) ++ (cut out_1 n_1 (out_1.length : Int))) :: Ow.own 9 1 encT vout_1 out_1 :: fr) h_9 := hS
          replace hK := hK.trans hk
          replace hL_l := hL_l.kp hk
          refine HA.val (k := 15) (v := v_3) rfl rfl (by kernel_rfl) (by kernel_rfl) (want_none) rfl (fun _ ⟨hL_l, c304⟩ => q_assign rfl) ?_
          refine HA.nil ⟨⟨hL_l.is, (hS.own 2 rfl)⟩, (Go.Wk.at_nil _ _)⟩ (by kernel_rfl) (blockQ_normal (thenQ_normal (?_)))
          refine HW.region ?_
          refine HO.val (v := .int .i64 i_1) (want_none) rfl (q_move rfl) ?_
          obtain ⟨ho_11, hM⟩ := hM
          refine HO.val (v := .int .i64 (i_1 + 1)) (want_none) rfl (q_addN _ rfl rfl rfl ho_11.1 ho_11.2) ?_
          refine HO.val (v := .int .i64 (i_1 + 1)) (want_none) rfl (q_assign rfl) ?_
          refine HO.nil (thenQ_normal (?_))
          replace hS : St F_3 (Ow.own 9 1 encT v_3 (((([] : List Str) ++ (cut out_1 0 n_1)) ++ ([(gi l i_1)] : List Str)) ++ (cut out_1 n_1 (out_1.length : Int))) :: fr) h_9 := hS.perm2 [1] 3 rfl rfl
          rw [hKe_1] at hM
          exact ⟨(((([] : List Str) ++ (cut out_1 0 n_1)) ++ ([(gi l i_1)] : List Str)) ++ (cut out_1 n_1 (out_1.length : Int)), i_1 + 1), ⟨F_3, v_3, rfl, rfl, rfl, rfl, hK, hS, hL_l, hM.1⟩, hM.2⟩
      · refine HS.eff rfl (want_none) rfl (st_lit (enc := encT) (cells := #[.string (bs (gi l i_1))]) #[.string (bs [])] ([(gi l i_1)] : List Str) hS tl_36 (by decide) (by decide) (by kernel_rfl) (by kernel_rfl) rfl (by intro x hx; rfl) rfl) ?_
        rintro _ h_5 ⟨b_2, rfl, hS, hk⟩
        replace hK := hK.trans hk
        replace hL_l := hL_l.kp hk
        refine HA.one (k := 0) ⟨⟨hL_l.is, (hS.own 1 rfl)⟩, (Go.Wk.at_nil _ _)⟩ (by kernel_rfl) ?_
        refine HS.eff rfl (want_none) rfl (st_litEmpty (α := Str) encT hS tl_36) ?_
        rintro _ h_6 ⟨b_3, rfl, hS, hk⟩
        replace hK := hK.trans hk
        replace hL_l := hL_l.kp hk
        refine HA.one (k := 4) ⟨⟨hL_l.is, (hS.own 2 rfl)⟩, (Go.Wk.at_nil _ _)⟩ (by kernel_rfl) ?_
        refine HS.eff rfl (want_none) rfl (st_append te_36 hS (i := 0) rfl (cutIs (hS.own 2 rfl).slice 0 n_1 ho_6.1 ho_6.2.1 ho_6.2.2) rfl rfl rfl (by intro a _ u hu; simp [encT, encI, encN, encB, encT] at hu; subst hu; rfl) ho_7 (by omega)) ?_
        rintro v_1 h_7 ⟨hS, hk⟩
        replace hS : St F_3 (Ow.own 9 1 encT v_1 (([] : List Str) ++ (cut out_1 0 n_1)) :: Ow.own 9 1 encT (.slice (some ⟨b_2, 0, none⟩) 1 1) ([(gi l i_1)] : List Str) :: Ow.own 9 1 encT vout_1 out_1 :: fr) h_7 := hS
        replace hK := hK.trans hk
        replace hL_l := hL_l.kp hk
        refine HA.one (k := 10) ⟨⟨hL_l.is, (hS.own 2 rfl)⟩, (Go.Wk.at_nil _ _)⟩ (by kernel_rfl) ?_
        refine HS.eff rfl (want_none) rfl (st_append te_36 hS (i := 0) rfl (hS.own 1 rfl).slice rfl rfl rfl (by intro a _ u hu; simp [encT, encI, encN, encB, encT] at hu; subst hu; rfl) ho_8 (by omega)) ?_
        rintro v_2 h_8 ⟨hS, hk⟩
        replace hS : St F_3 (Ow.own 9 1 encT v_2 ((([] : List Str) ++ (cut out_1 0 n_1)) ++ ([(gi l i_1)] : List Str)) :: Ow.own 9 1 encT (.slice (some ⟨b_2, 0, none⟩) 1 1) ([(gi l i_1)] : List Str) :: Ow.own 9 1 encT vout_1 out_1 :: fr) h_8 := hS
        replace hK := hK.trans hk
        replace hL_l := hL_l.kp hk
        refine HA.one (k := 14) ⟨⟨hL_l.is, (hS.own 2 rfl)⟩, (Go.Wk.at_nil _ _)⟩ (by kernel_rfl) ?_
        refine HS.eff rfl (want_none) rfl (st_append te_36 hS (i := 0) rfl (cutIs (hS.own 2 rfl).slice n_1 (out_1.length : Int) ho_9.1 ho_9.2.1 ho_9.2.2) rfl rfl rfl (by intro a _ u hu; simp [encT, encI, encN, encB, encT] at hu; subst hu; rfl) ho_10 (by omega)) ?_
        rintro v_3 h_9 ⟨hS, hk⟩
        replace hS : St F_3 (Ow.own 9 1 encT v_3 (((([] : List Str) ++ (cut out_1 0 n_1)) ++ ([(gi l i_1)] : List Str)) ++ (cut out_1 n_1 (out_1.length : Int))) :: Ow.own 9 1 encT (.slice (some ⟨b_2, 0, none⟩) 1 1) ([(gi l i_1)] : List Str) :: Ow.own 9 1 encT vout_1 out_1 :: fr) h_9 := hS
        replace hK := hK.trans hk
        replace hL_l := hL_l.kp hk
        refine HA.val (k := 15) (v := v_3) rfl rfl (by kernel_rfl) (by kernel_rfl) (want_none) rfl (fun _ ⟨hL_l, c304⟩ => q_assign rfl) ?_
        refine HA.nil ⟨⟨hL_l.is, (hS.own 2 rfl)⟩, (Go.Wk.at_nil _ _)⟩ (by kernel_rfl) (blockQ_normal (thenQ_normal (?_)))
        refine HW.region ?_
        refine HO.val (v := .int .i64 i_1) (want_none) rfl (q_move rfl) ?_
        obtain ⟨ho_11, hM⟩ := hM
        refine HO.val (v := .int .i64 (i_1 + 1)) (want_none) rfl (q_addN _ rfl rfl rfl ho_11.1 ho_11.2) ?_
        refine HO.val (v := .int .i64 (i_1 + 1)) (want_none) rfl (q_assign rfl) ?_
        refine HO.nil (thenQ_normal (?_))
        replace hS : St F_3 (Ow.own 9 1 encT v_3 (((([] : List Str) ++ (cut out_1 0 n_1)) ++ ([(gi l i_1)] : List Str)) ++ (cut out_1 n_1 (out_1.length : Int))) :: fr) h_9 := hS.perm2 [0] 3 rfl rfl
        rw [hKe_1] at hM
        exact ⟨(((([] : List Str) ++ (cut out_1 0 n_1)) ++ ([(gi l i_1)] : List Str)) ++ (cut out_1 n_1 (out_1.length : Int)), i_1 + 1), ⟨F_3, v_3, rfl, rfl, rfl, rfl, hK, hS, hL_l, hM.1⟩, hM.2⟩
  · replace hM := hM.2 (of_decide_eq_false c_1)
    refine HW.exit (thenQ_exit (thenQ_exit (blockQ_exit (thenQ_normal (?_)))))
    refine HW.seq ?_
    refine HW.region ?_
    refine HO.val (v := vout_1) (want_none) rfl (q_move rfl) ?_
    refine HO.val (v := vout_1) (want_none) rfl (q_assign rfl) ?_
    refine HO.nil (thenQ_normal (?_))
    refine HW.ret (?_)
    refine ⟨.inr rfl, vout_1, res1 rfl (rt rfl), ?_⟩
    exact ⟨F_1, out_1, vout_1, rfl, hK, hS, hL_l, hM⟩

def law12_told_j1 (l : List T_acequiaref12_Entry) (Q : Bool → (List (Str × Int)) → Prop) (cm_2 : List (Str × Int)) : Prop :=
  clock_Clock_Len_string_W cm_2 (fun r_3 => (r_3 = (l.length : Int) → clock_Clock_Keys_string_W cm_2 (fun r_4 => ref12_Keys_W l (fun r_5 => ref12_Sorted_W r_5 (fun r_6 => ref12_Same_W r_4 r_6 (fun r_7 => Q r_7 cm_2))))) ∧ (¬ (r_3 = (l.length : Int)) → Q false cm_2))
def law12_told_W (c_at : List (Str × Int)) (l : List T_acequiaref12_Entry) (ask : Str) (Q : Bool → (List (Str × Int)) → Prop) : Prop :=
  clock_Clock_At_string_W c_at ask (fun r0_1 r1_1 => ref12_Find_W l ask (fun r_2 => clock_Clock_Next_string_W c_at (fun r0_2 r1_2 r2_1 cm_2 => ((!(r1_1 == (decide (0 ≤ r_2)))) = true → Q false cm_2) ∧ ((!(r1_1 == (decide (0 ≤ r_2)))) = false → (r1_1 = true → ((0 : Int) ≤ r_2 ∧ r_2 < (l.length : Int)) ∧ ((¬ (r0_1 = ((gi l r_2).2)) → Q false cm_2) ∧ (r0_1 = ((gi l r_2).2) → ((!(r2_1 == (decide (0 < (l.length : Int))))) = true → Q false cm_2) ∧ ((!(r2_1 == (decide (0 < (l.length : Int))))) = false → (r2_1 = true → ((0 : Int) ≤ 0 ∧ 0 < (l.length : Int)) ∧ ((¬ ((r0_2 : Str) = (gi l 0).1) → Q false cm_2) ∧ ((r0_2 : Str) = (gi l 0).1 → (¬ (r1_2 = ((gi l 0).2)) → Q false cm_2) ∧ (r1_2 = ((gi l 0).2) → law12_told_j1 l Q cm_2)))) ∧ (r2_1 = false → (¬ ((r0_2 : Str) = []) → Q false cm_2) ∧ ((r0_2 : Str) = [] → (¬ (r1_2 = 0) → Q false cm_2) ∧ (r1_2 = 0 → law12_told_j1 l Q cm_2))))))) ∧ (r1_1 = false → (¬ (r0_1 = 0) → Q false cm_2) ∧ (r0_1 = 0 → ((!(r2_1 == (decide (0 < (l.length : Int))))) = true → Q false cm_2) ∧ ((!(r2_1 == (decide (0 < (l.length : Int))))) = false → (r2_1 = true → ((0 : Int) ≤ 0 ∧ 0 < (l.length : Int)) ∧ ((¬ ((r0_2 : Str) = (gi l 0).1) → Q false cm_2) ∧ ((r0_2 : Str) = (gi l 0).1 → (¬ (r1_2 = ((gi l 0).2)) → Q false cm_2) ∧ (r1_2 = ((gi l 0).2) → law12_told_j1 l Q cm_2)))) ∧ (r2_1 = false → (¬ ((r0_2 : Str) = []) → Q false cm_2) ∧ ((r0_2 : Str) = [] → (¬ (r1_2 = 0) → Q false cm_2) ∧ (r1_2 = 0 → law12_told_j1 l Q cm_2))))))))))
set_option maxHeartbeats 40000000 in
set_option maxRecDepth 100000 in
theorem law12_told_walk {F : Fz} {fr : List Ow} {h0 : Heap} (c_at : List (Str × Int)) (l : List T_acequiaref12_Entry) (ask : Str) (bc : Nat) (rc_at : Nat) (vl : Value) (hS : St F (Ow.box bc 78 #[.map (some rc_at)] :: Ow.map rc_at kT kI c_at :: fr) h0) (hL_l : SliceF F h0 2 e_acequiaref12_Entry vl l) (hD : DM.on = false) {Q : Bool → (List (Str × Int)) → Prop} (hM : law12_told_W c_at l ask Q) :
    HC Try.prog 19 #[.pointer (some ⟨bc, 0, none⟩), vl, .string (bs ask)] h0 fun u h' => ∃ (F' : Fz) (r_1 : Bool) (cm_1 : List (Str × Int)), u = .bool r_1 ∧ Kp F h0 F' h' ∧ St F' (Ow.box bc 78 #[.map (some rc_at)] :: Ow.map rc_at kT kI cm_1 :: fr) h' ∧ (SliceF F' h' 2 e_acequiaref12_Entry vl l) ∧ Q r_1 cm_1 := by
  unfold law12_told_W at hM
  have hK := Kp.refl F h0
  refine HC.of_HW (n := 103) Try.func19 rfl rfl (Nat.le_of_ble_eq_true rfl) ?_
  refine HW.seq ?_
  refine HW.region ?_
  refine HO.val (v := .bool false) (want_none) rfl (q_assign rfl) ?_
  refine HO.nil (thenQ_normal (?_))
  refine HW.seq ?_
  refine HW.region ?_
  refine HO.val (v := .pointer (some ⟨bc, 0, none⟩)) (want_none) rfl (q_move rfl) ?_
  refine HO.val (v := .string (bs ask)) (want_none) rfl (q_move rfl) ?_
  have hZ_1 := hS
  have hkz_1 := (hS.freeze).2
  replace hS := hS.freeze.1
  have hL_1 := hZ_1.lent
  have hZ_2 := hS
  have hkz_2 := (hS.freeze).2
  replace hS := hS.freeze.1
  have hL_2 := hZ_2.lent
  refine HO.call (want_none) rfl (ec en_22 rfl rfl) (clock_Clock_At_string_walk (fr := (fr)) c_at ask bc rc_at hS hL_2 (hL_1.kp hkz_2) hM) ?_
  rintro _ h_1 ⟨F_1, r0_1, r1_1, rfl, hk, hS, _, _, hM⟩
  obtain ⟨hS, hk⟩ := hZ_2.back hk hS
  obtain ⟨hS, hk⟩ := hZ_1.back hk hS
  generalize (fun b => (fun b => F_1 b ∧ ¬ (Ow.map rc_at kT kI c_at).foot b) b ∧ ¬ (Ow.box bc 78 #[.map (some rc_at)]).foot b) = F_2 at hS hk
  replace hK := hK.trans hk
  replace hL_l := hL_l.kp hk
  refine HO.val (v := .tuple #[.int .i64 r0_1, .bool r1_1]) (want_none) rfl (q_move rfl) ?_
  refine HO.val (v := .int .i64 r0_1) (want_none) rfl (q_extract rfl rfl) ?_
  refine HO.val (v := .bool r1_1) (want_none) rfl (q_extract rfl rfl) ?_
  refine HO.val (v := .int .i64 r0_1) (want_none) rfl (q_assign rfl) ?_
  refine HO.val (v := .bool r1_1) (want_none) rfl (q_assign rfl) ?_
  refine HO.nil (thenQ_normal (?_))
  refine HW.seq ?_
  refine HW.region ?_
  refine HO.val (v := vl) (want_none) rfl (q_move rfl) ?_
  refine HO.val (v := .string (bs ask)) (want_none) rfl (q_move rfl) ?_
  refine HO.call (want_none) rfl (ec en_9 rfl rfl) (ref12_Find_walk (fr := (Ow.box bc 78 #[.map (some rc_at)] :: Ow.map rc_at kT kI c_at :: fr)) l ask vl hS hL_l hM) ?_
  rintro _ h_2 ⟨F_3, r_2, rfl, hk, hS, _, hM⟩
  replace hK := hK.trans hk
  replace hL_l := hL_l.kp hk
  refine HO.val (v := .int .i64 r_2) (want_none) rfl (q_assign rfl) ?_
  refine HO.nil (thenQ_normal (?_))
  refine HW.seq ?_
  refine HW.region ?_
  refine HO.val (v := .pointer (some ⟨bc, 0, none⟩)) (want_none) rfl (q_move rfl) ?_
  refine HO.call (want_none) rfl (ec en_23 rfl rfl) (clock_Clock_Next_string_walk (fr := (fr)) c_at bc rc_at hS hM) ?_
  rintro _ h_3 ⟨F_4, r0_2, r1_2, r2_1, cm_2, rfl, hk, hS, hM⟩
  replace hK := hK.trans hk
  replace hL_l := hL_l.kp hk
  refine HO.val (v := .tuple #[.string (bs r0_2), .int .i64 r1_2, .bool r2_1]) (want_none) rfl (q_move rfl) ?_
  refine HO.val (v := .string (bs r0_2)) (want_none) rfl (q_extract rfl rfl) ?_
  refine HO.val (v := .int .i64 r1_2) (want_none) rfl (q_extract rfl rfl) ?_
  refine HO.val (v := .bool r2_1) (want_none) rfl (q_extract rfl rfl) ?_
  refine HO.val (v := .string (bs r0_2)) (want_none) rfl (q_assign rfl) ?_
  refine HO.val (v := .int .i64 r1_2) (want_none) rfl (q_assign rfl) ?_
  refine HO.val (v := .bool r2_1) (want_none) rfl (q_assign rfl) ?_
  refine HO.nil (thenQ_normal (?_))
  refine HW.seq_mid (fun f h => ∃ (F' : Fz), f 0 = .pointer (some ⟨bc, 0, none⟩) ∧ f 1 = vl ∧ f 6 = .bool false ∧ Kp F h0 F' h ∧ St F' (Ow.box bc 78 #[.map (some rc_at)] :: Ow.map rc_at kT kI cm_2 :: fr) h ∧ (SliceF F' h 2 e_acequiaref12_Entry vl l) ∧ law12_told_j1 l Q cm_2) ?_ ?_
  · refine HW.seq ?_
    refine HW.region ?_
    refine HO.val (v := .bool r1_1) (want_none) rfl (q_move rfl) ?_
    refine HO.val (v := .int .i64 r_2) (want_none) rfl (q_move rfl) ?_
    refine HO.val (v := .bool (decide (0 ≤ r_2))) (want_none) rfl (q_geq rfl rfl) ?_
    refine HO.val (v := .bool (!(r1_1 == (decide (0 ≤ r_2))))) (want_none) rfl (q_neqB Try.underlying4 rfl rfl) ?_
    refine HO.val (v := .bool (!(r1_1 == (decide (0 ≤ r_2))))) (want_none) rfl (q_move rfl) ?_
    rcases Bool.eq_false_or_eq_true (!(r1_1 == (decide (0 ≤ r_2)))) with c_1 | c_1
    · replace hM := hM.1 c_1
      refine HO.past (past_by rfl rfl c_1) rfl ?_
      refine HO.past (past_by rfl rfl c_1) rfl ?_
      refine HO.past (past_undef rfl rfl) rfl ?_
      refine HO.past (past_undef rfl rfl) rfl ?_
      refine HO.past (past_undef rfl rfl) rfl ?_
      refine HO.past (past_undef rfl rfl) rfl ?_
      refine HO.past (past_undef rfl rfl) rfl ?_
      refine HO.past (past_undef rfl rfl) rfl ?_
      refine HO.past (past_undef rfl rfl) rfl ?_
      refine HO.past (past_by rfl rfl c_1) rfl ?_
      refine HO.val (v := .bool true) (want_none) rfl (q_pickK true rfl c_1 rfl) ?_
      refine HO.val (v := .bool true) (want_none) rfl (q_move rfl) ?_
      refine HO.past (past_some rfl rfl) rfl ?_
      refine HO.past (past_some rfl rfl) rfl ?_
      refine HO.past (past_some rfl rfl) rfl ?_
      refine HO.past (past_undef rfl rfl) rfl ?_
      refine HO.past (past_undef rfl rfl) rfl ?_
      refine HO.past (past_some rfl rfl) rfl ?_
      refine HO.val (v := .bool true) (want_none) rfl (q_pick rfl rfl) ?_
      refine HO.val (v := .bool true) (want_none) rfl (q_move rfl) ?_
      refine HO.past (past_some rfl rfl) rfl ?_
      refine HO.past (past_some rfl rfl) rfl ?_
      refine HO.past (past_some rfl rfl) rfl ?_
      refine HO.past (past_some rfl rfl) rfl ?_
      refine HO.past (past_some rfl rfl) rfl ?_
      refine HO.val (v := .bool true) (want_none) rfl (q_pick rfl rfl) ?_
      refine HO.val (v := .bool true) (want_none) rfl (q_move rfl) ?_
      refine HO.past (past_some rfl rfl) rfl ?_
      refine HO.past (past_some rfl rfl) rfl ?_
      refine HO.past (past_undef rfl rfl) rfl ?_
      refine HO.past (past_undef rfl rfl) rfl ?_
      refine HO.past (past_undef rfl rfl) rfl ?_
      refine HO.past (past_undef rfl rfl) rfl ?_
      refine HO.past (past_undef rfl rfl) rfl ?_
      refine HO.past (past_undef rfl rfl) rfl ?_
      refine HO.past (past_undef rfl rfl) rfl ?_
      refine HO.past (past_undef rfl rfl) rfl ?_
      refine HO.past (past_undef rfl rfl) rfl ?_
      refine HO.past (past_undef rfl rfl) rfl ?_
      refine HO.past (past_undef rfl rfl) rfl ?_
      refine HO.past (past_undef rfl rfl) rfl ?_
      refine HO.past (past_undef rfl rfl) rfl ?_
      refine HO.past (past_undef rfl rfl) rfl ?_
      refine HO.past (past_some rfl rfl) rfl ?_
      refine HO.val (v := .bool true) (want_none) rfl (q_pick rfl rfl) ?_
      refine HO.val (v := .bool true) (want_none) rfl (q_move rfl) ?_
      refine HO.past (past_some rfl rfl) rfl ?_
      refine HO.past (past_some rfl rfl) rfl ?_
      refine HO.past (past_some rfl rfl) rfl ?_
      refine HO.past (past_undef rfl rfl) rfl ?_
      refine HO.past (past_undef rfl rfl) rfl ?_
      refine HO.past (past_undef rfl rfl) rfl ?_
      refine HO.past (past_undef rfl rfl) rfl ?_
      refine HO.past (past_undef rfl rfl) rfl ?_
      refine HO.past (past_undef rfl rfl) rfl ?_
      refine HO.past (past_some rfl rfl) rfl ?_
      refine HO.val (v := .bool true) (want_none) rfl (q_pick rfl rfl) ?_
      refine HO.nil (thenQ_normal (?_))
      refine HW.condT rfl ?_
      refine HW.seq ?_
      refine HW.region ?_
      refine HO.val (v := .bool false) (want_none) rfl (q_assign rfl) ?_
      refine HO.nil (thenQ_normal (?_))
      refine HW.ret (thenQ_ret (?_))
      refine ⟨.inr rfl, .bool false, res1 rfl (rt rfl), ?_⟩
      exact ⟨F_4, false, cm_2, rfl, hK, hS, hL_l, hM⟩
    · replace hM := hM.2 c_1
      refine HO.val (v := .bool r1_1) (want_by rfl rfl c_1) rfl (q_move rfl) ?_
      refine HO.val (v := .bool r1_1) (want_by rfl rfl c_1) rfl (q_move rfl) ?_
      rcases Bool.eq_false_or_eq_true r1_1 with c_2 | c_2
      · replace hM := hM.1 c_2
        refine HO.val (v := .int .i64 r0_1) (want_by rfl rfl c_2) rfl (q_move rfl) ?_
        refine HO.val (v := vl) (want_by rfl rfl c_2) rfl (q_move rfl) ?_
        refine HO.val (v := .int .i64 r_2) (want_by rfl rfl c_2) rfl (q_move rfl) ?_
        obtain ⟨ho_1, hM⟩ := hM
        refine HO.val (v := elemPtr 2 vl (r_2).toNat) (want_by rfl rfl c_2) rfl (q_idx ts_25 hL_l.is rfl rfl ho_1) ?_
        refine HO.val (v := fieldPtr 2 vl (r_2).toNat 1) (want_by rfl rfl c_2) rfl (q_fldElem fa_80_1 hL_l.is rfl ho_1) ?_
        refine HO.val (v := .int .i64 ((gi l r_2).2)) (want_by rfl rfl c_2) rfl (q_ldField to_3 hL_l.is rfl ho_1 (by decide) rfl) ?_
        refine HO.val (v := .bool (!decide (r0_1 = ((gi l r_2).2)))) (want_by rfl rfl c_2) rfl (q_neq rfl rfl) ?_
        refine HO.val (v := .bool (!decide (r0_1 = ((gi l r_2).2)))) (want_by rfl rfl c_1) rfl (q_pickK true rfl c_2 rfl) ?_
        refine HO.val (v := .bool (!decide (r0_1 = ((gi l r_2).2)))) (want_none) rfl (q_pickK false rfl c_1 rfl) ?_
        refine HO.val (v := .bool (!decide (r0_1 = ((gi l r_2).2)))) (want_none) rfl (q_move rfl) ?_
        rcases Bool.eq_false_or_eq_true (!decide (r0_1 = ((gi l r_2).2))) with c_3 | c_3
        · replace hM := hM.1 (nd_true c_3)
          refine HO.past (past_by rfl rfl c_3) rfl ?_
          refine HO.past (past_by rfl rfl c_3) rfl ?_
          refine HO.past (past_by rfl rfl c_3) rfl ?_
          refine HO.past (past_undef rfl rfl) rfl ?_
          refine HO.past (past_undef rfl rfl) rfl ?_
          refine HO.past (past_by rfl rfl c_3) rfl ?_
          refine HO.val (v := .bool true) (want_none) rfl (q_pickK true rfl c_3 rfl) ?_
          refine HO.val (v := .bool true) (want_none) rfl (q_move rfl) ?_
          refine HO.past (past_some rfl rfl) rfl ?_
          refine HO.past (past_some rfl rfl) rfl ?_
          refine HO.past (past_some rfl rfl) rfl ?_
          refine HO.past (past_some rfl rfl) rfl ?_
          refine HO.past (past_some rfl rfl) rfl ?_
          refine HO.val (v := .bool true) (want_none) rfl (q_pick rfl rfl) ?_
          refine HO.val (v := .bool true) (want_none) rfl (q_move rfl) ?_
          refine HO.past (past_some rfl rfl) rfl ?_
          refine HO.past (past_some rfl rfl) rfl ?_
          refine HO.past (past_undef rfl rfl) rfl ?_
          refine HO.past (past_undef rfl rfl) rfl ?_
          refine HO.past (past_undef rfl rfl) rfl ?_
          refine HO.past (past_undef rfl rfl) rfl ?_
          refine HO.past (past_undef rfl rfl) rfl ?_
          refine HO.past (past_undef rfl rfl) rfl ?_
          refine HO.past (past_undef rfl rfl) rfl ?_
          refine HO.past (past_undef rfl rfl) rfl ?_
          refine HO.past (past_undef rfl rfl) rfl ?_
          refine HO.past (past_undef rfl rfl) rfl ?_
          refine HO.past (past_undef rfl rfl) rfl ?_
          refine HO.past (past_undef rfl rfl) rfl ?_
          refine HO.past (past_undef rfl rfl) rfl ?_
          refine HO.past (past_undef rfl rfl) rfl ?_
          refine HO.past (past_some rfl rfl) rfl ?_
          refine HO.val (v := .bool true) (want_none) rfl (q_pick rfl rfl) ?_
          refine HO.val (v := .bool true) (want_none) rfl (q_move rfl) ?_
          refine HO.past (past_some rfl rfl) rfl ?_
          refine HO.past (past_some rfl rfl) rfl ?_
          refine HO.past (past_some rfl rfl) rfl ?_
          refine HO.past (past_undef rfl rfl) rfl ?_
          refine HO.past (past_undef rfl rfl) rfl ?_
          refine HO.past (past_undef rfl rfl) rfl ?_
          refine HO.past (past_undef rfl rfl) rfl ?_
          refine HO.past (past_undef rfl rfl) rfl ?_
          refine HO.past (past_undef rfl rfl) rfl ?_
          refine HO.past (past_some rfl rfl) rfl ?_
          refine HO.val (v := .bool true) (want_none) rfl (q_pick rfl rfl) ?_
          refine HO.nil (thenQ_normal (?_))
          refine HW.condT rfl ?_
          refine HW.seq ?_
          refine HW.region ?_
          refine HO.val (v := .bool false) (want_none) rfl (q_assign rfl) ?_
          refine HO.nil (thenQ_normal (?_))
          refine HW.ret (thenQ_ret (?_))
          refine ⟨.inr rfl, .bool false, res1 rfl (rt rfl), ?_⟩
          exact ⟨F_4, false, cm_2, rfl, hK, hS, hL_l, hM⟩
        · replace hM := hM.2 (nd_false c_3)
          refine HO.val (v := .bool r1_1) (want_by rfl rfl c_3) rfl (q_move rfl) ?_
          refine HO.val (v := .bool (!r1_1)) (want_by rfl rfl c_3) rfl (q_not rfl) ?_
          refine HO.val (v := .bool (!r1_1)) (want_by rfl rfl c_3) rfl (q_move rfl) ?_
          refine HO.past (past_by rfl rfl (by rw [c_2] <;> rfl)) rfl ?_
          refine HO.past (past_by rfl rfl (by rw [c_2] <;> rfl)) rfl ?_
          refine HO.val (v := .bool false) (want_by rfl rfl c_3) rfl (q_pickK false rfl (by rw [c_2] <;> rfl) rfl) ?_
          refine HO.val (v := .bool false) (want_none) rfl (q_pickK false rfl c_3 rfl) ?_
          refine HO.val (v := .bool false) (want_none) rfl (q_move rfl) ?_
          refine HO.val (v := .bool r2_1) (want_some rfl rfl) rfl (q_move rfl) ?_
          refine HO.val (v := vl) (want_some rfl rfl) rfl (q_move rfl) ?_
          refine HO.val (v := .int .i64 (l.length : Int)) (want_some rfl rfl) rfl (q_len ts_25 (shp hL_l.is) rfl rfl) ?_
          refine HO.val (v := .bool (decide (0 < (l.length : Int)))) (want_some rfl rfl) rfl (q_gtr rfl rfl) ?_
          refine HO.val (v := .bool (!(r2_1 == (decide (0 < (l.length : Int)))))) (want_some rfl rfl) rfl (q_neqB Try.underlying4 rfl rfl) ?_
          refine HO.val (v := .bool (!(r2_1 == (decide (0 < (l.length : Int)))))) (want_none) rfl (q_pick rfl rfl) ?_
          refine HO.val (v := .bool (!(r2_1 == (decide (0 < (l.length : Int)))))) (want_none) rfl (q_move rfl) ?_
          rcases Bool.eq_false_or_eq_true (!(r2_1 == (decide (0 < (l.length : Int))))) with c_4 | c_4
          · replace hM := hM.1 c_4
            refine HO.past (past_by rfl rfl c_4) rfl ?_
            refine HO.past (past_by rfl rfl c_4) rfl ?_
            refine HO.past (past_undef rfl rfl) rfl ?_
            refine HO.past (past_undef rfl rfl) rfl ?_
            refine HO.past (past_undef rfl rfl) rfl ?_
            refine HO.past (past_undef rfl rfl) rfl ?_
            refine HO.past (past_undef rfl rfl) rfl ?_
            refine HO.past (past_undef rfl rfl) rfl ?_
            refine HO.past (past_undef rfl rfl) rfl ?_
            refine HO.past (past_undef rfl rfl) rfl ?_
            refine HO.past (past_undef rfl rfl) rfl ?_
            refine HO.past (past_undef rfl rfl) rfl ?_
            refine HO.past (past_undef rfl rfl) rfl ?_
            refine HO.past (past_undef rfl rfl) rfl ?_
            refine HO.past (past_undef rfl rfl) rfl ?_
            refine HO.past (past_undef rfl rfl) rfl ?_
            refine HO.past (past_by rfl rfl c_4) rfl ?_
            refine HO.val (v := .bool true) (want_none) rfl (q_pickK true rfl c_4 rfl) ?_
            refine HO.val (v := .bool true) (want_none) rfl (q_move rfl) ?_
            refine HO.past (past_some rfl rfl) rfl ?_
            refine HO.past (past_some rfl rfl) rfl ?_
            refine HO.past (past_some rfl rfl) rfl ?_
            refine HO.past (past_undef rfl rfl) rfl ?_
            refine HO.past (past_undef rfl rfl) rfl ?_
            refine HO.past (past_undef rfl rfl) rfl ?_
            refine HO.past (past_undef rfl rfl) rfl ?_
            refine HO.past (past_undef rfl rfl) rfl ?_
            refine HO.past (past_undef rfl rfl) rfl ?_
            refine HO.past (past_some rfl rfl) rfl ?_
            refine HO.val (v := .bool true) (want_none) rfl (q_pick rfl rfl) ?_
            refine HO.nil (thenQ_normal (?_))
            refine HW.condT rfl ?_
            refine HW.seq ?_
            refine HW.region ?_
            refine HO.val (v := .bool false) (want_none) rfl (q_assign rfl) ?_
            refine HO.nil (thenQ_normal (?_))
            refine HW.ret (thenQ_ret (?_))
            refine ⟨.inr rfl, .bool false, res1 rfl (rt rfl), ?_⟩
            exact ⟨F_4, false, cm_2, rfl, hK, hS, hL_l, hM⟩
          · replace hM := hM.2 c_4
            refine HO.val (v := .bool r2_1) (want_by rfl rfl c_4) rfl (q_move rfl) ?_
            refine HO.val (v := .bool r2_1) (want_by rfl rfl c_4) rfl (q_move rfl) ?_
            rcases Bool.eq_false_or_eq_true r2_1 with c_5 | c_5
            · replace hM := hM.1 c_5
              refine HO.val (v := .string (bs r0_2)) (want_by rfl rfl c_5) rfl (q_move rfl) ?_
              refine HO.val (v := vl) (want_by rfl rfl c_5) rfl (q_move rfl) ?_
              obtain ⟨ho_2, hM⟩ := hM
              refine HO.val (v := elemPtr 2 vl (0 : Int).toNat) (want_by rfl rfl c_5) rfl (q_idx ts_25 hL_l.is rfl rfl ho_2) ?_
              refine HO.val (v := fieldPtr 2 vl (0 : Int).toNat 0) (want_by rfl rfl c_5) rfl (q_fldElem fa_80_0 hL_l.is rfl ho_2) ?_
              refine HO.val (v := .string (bs ((gi l 0).1))) (want_by rfl rfl c_5) rfl (q_ldField to_9 hL_l.is rfl ho_2 (by decide) rfl) ?_
              refine HO.val (v := .bool (!decide ((r0_2 : Str) = (gi l 0).1))) (want_by rfl rfl c_5) rfl (q_neqT rfl rfl) ?_
              refine HO.val (v := .bool (!decide ((r0_2 : Str) = (gi l 0).1))) (want_by rfl rfl c_5) rfl (q_move rfl) ?_
              rcases Bool.eq_false_or_eq_true (!decide ((r0_2 : Str) = (gi l 0).1)) with c_6 | c_6
              · replace hM := hM.1 (nd_true c_6)
                refine HO.past (past_by rfl rfl c_6) rfl ?_
                refine HO.past (past_by rfl rfl c_6) rfl ?_
                refine HO.past (past_by rfl rfl c_6) rfl ?_
                refine HO.past (past_by rfl rfl c_6) rfl ?_
                refine HO.past (past_by rfl rfl c_6) rfl ?_
                refine HO.past (past_by rfl rfl c_6) rfl ?_
                refine HO.val (v := .bool true) (want_by rfl rfl c_5) rfl (q_pickK true rfl c_6 rfl) ?_
                refine HO.val (v := .bool true) (want_by rfl rfl c_4) rfl (q_pickK true rfl c_5 rfl) ?_
                refine HO.val (v := .bool true) (want_none) rfl (q_pickK false rfl c_4 rfl) ?_
                refine HO.val (v := .bool true) (want_none) rfl (q_move rfl) ?_
                refine HO.past (past_some rfl rfl) rfl ?_
                refine HO.past (past_some rfl rfl) rfl ?_
                refine HO.past (past_some rfl rfl) rfl ?_
                refine HO.past (past_undef rfl rfl) rfl ?_
                refine HO.past (past_undef rfl rfl) rfl ?_
                refine HO.past (past_undef rfl rfl) rfl ?_
                refine HO.past (past_undef rfl rfl) rfl ?_
                refine HO.past (past_undef rfl rfl) rfl ?_
                refine HO.past (past_undef rfl rfl) rfl ?_
                refine HO.past (past_some rfl rfl) rfl ?_
                refine HO.val (v := .bool true) (want_none) rfl (q_pick rfl rfl) ?_
                refine HO.nil (thenQ_normal (?_))
                refine HW.condT rfl ?_
                refine HW.seq ?_
                refine HW.region ?_
                refine HO.val (v := .bool false) (want_none) rfl (q_assign rfl) ?_
                refine HO.nil (thenQ_normal (?_))
                refine HW.ret (thenQ_ret (?_))
                refine ⟨.inr rfl, .bool false, res1 rfl (rt rfl), ?_⟩
                exact ⟨F_4, false, cm_2, rfl, hK, hS, hL_l, hM⟩
              · replace hM := hM.2 (nd_false c_6)
                refine HO.val (v := .int .i64 r1_2) (want_by rfl rfl c_6) rfl (q_move rfl) ?_
                refine HO.val (v := vl) (want_by rfl rfl c_6) rfl (q_move rfl) ?_
                refine HO.val (v := elemPtr 2 vl (0 : Int).toNat) (want_by rfl rfl c_6) rfl (q_idx ts_25 hL_l.is rfl rfl ho_2) ?_
                refine HO.val (v := fieldPtr 2 vl (0 : Int).toNat 1) (want_by rfl rfl c_6) rfl (q_fldElem fa_80_1 hL_l.is rfl ho_2) ?_
                refine HO.val (v := .int .i64 ((gi l 0).2)) (want_by rfl rfl c_6) rfl (q_ldField to_3 hL_l.is rfl ho_2 (by decide) rfl) ?_
                refine HO.val (v := .bool (!decide (r1_2 = ((gi l 0).2)))) (want_by rfl rfl c_6) rfl (q_neq rfl rfl) ?_
                refine HO.val (v := .bool (!decide (r1_2 = ((gi l 0).2)))) (want_by rfl rfl c_5) rfl (q_pickK false rfl c_6 rfl) ?_
                refine HO.val (v := .bool (!decide (r1_2 = ((gi l 0).2)))) (want_by rfl rfl c_4) rfl (q_pickK true rfl c_5 rfl) ?_
                refine HO.val (v := .bool (!decide (r1_2 = ((gi l 0).2)))) (want_none) rfl (q_pickK false rfl c_4 rfl) ?_
                refine HO.val (v := .bool (!decide (r1_2 = ((gi l 0).2)))) (want_none) rfl (q_move rfl) ?_
                rcases Bool.eq_false_or_eq_true (!decide (r1_2 = ((gi l 0).2))) with c_7 | c_7
                · replace hM := hM.1 (nd_true c_7)
                  refine HO.past (past_by rfl rfl c_7) rfl ?_
                  refine HO.past (past_by rfl rfl c_7) rfl ?_
                  refine HO.past (past_by rfl rfl c_7) rfl ?_
                  refine HO.past (past_undef rfl rfl) rfl ?_
                  refine HO.past (past_undef rfl rfl) rfl ?_
                  refine HO.past (past_undef rfl rfl) rfl ?_
                  refine HO.past (past_undef rfl rfl) rfl ?_
                  refine HO.past (past_undef rfl rfl) rfl ?_
                  refine HO.past (past_undef rfl rfl) rfl ?_
                  refine HO.past (past_by rfl rfl c_7) rfl ?_
                  refine HO.val (v := .bool true) (want_none) rfl (q_pickK true rfl c_7 rfl) ?_
                  refine HO.nil (thenQ_normal (?_))
                  refine HW.condT rfl ?_
                  refine HW.seq ?_
                  refine HW.region ?_
                  refine HO.val (v := .bool false) (want_none) rfl (q_assign rfl) ?_
                  refine HO.nil (thenQ_normal (?_))
                  refine HW.ret (thenQ_ret (?_))
                  refine ⟨.inr rfl, .bool false, res1 rfl (rt rfl), ?_⟩
                  exact ⟨F_4, false, cm_2, rfl, hK, hS, hL_l, hM⟩
                · replace hM := hM.2 (nd_false c_7)
                  refine HO.val (v := .bool r2_1) (want_by rfl rfl c_7) rfl (q_move rfl) ?_
                  refine HO.val (v := .bool (!r2_1)) (want_by rfl rfl c_7) rfl (q_not rfl) ?_
                  refine HO.val (v := .bool (!r2_1)) (want_by rfl rfl c_7) rfl (q_move rfl) ?_
                  refine HO.past (past_by rfl rfl (by rw [c_5] <;> rfl)) rfl ?_
                  refine HO.past (past_by rfl rfl (by rw [c_5] <;> rfl)) rfl ?_
                  refine HO.past (past_by rfl rfl (by rw [c_5] <;> rfl)) rfl ?_
                  refine HO.past (past_undef rfl rfl) rfl ?_
                  refine HO.past (past_undef rfl rfl) rfl ?_
                  refine HO.past (past_by rfl rfl (by rw [c_5] <;> rfl)) rfl ?_
                  refine HO.val (v := .bool false) (want_by rfl rfl c_7) rfl (q_pickK false rfl (by rw [c_5] <;> rfl) rfl) ?_
                  refine HO.val (v := .bool false) (want_none) rfl (q_pickK false rfl c_7 rfl) ?_
                  refine HO.nil (thenQ_normal (?_))
                  refine HW.condF rfl ?_
                  refine HW.skip (thenQ_normal (?_))
                  exact ⟨F_4, rfl, rfl, rfl, hK, hS, hL_l, hM⟩
            · replace hM := hM.2 c_5
              refine HO.past (past_by rfl rfl c_5) rfl ?_
              refine HO.past (past_by rfl rfl c_5) rfl ?_
              refine HO.past (past_by rfl rfl c_5) rfl ?_
              refine HO.past (past_by rfl rfl c_5) rfl ?_
              refine HO.past (past_by rfl rfl c_5) rfl ?_
              refine HO.past (past_by rfl rfl c_5) rfl ?_
              refine HO.past (past_by rfl rfl c_5) rfl ?_
              refine HO.past (past_undef rfl rfl) rfl ?_
              refine HO.past (past_undef rfl rfl) rfl ?_
              refine HO.past (past_undef rfl rfl) rfl ?_
              refine HO.past (past_undef rfl rfl) rfl ?_
              refine HO.past (past_undef rfl rfl) rfl ?_
              refine HO.past (past_undef rfl rfl) rfl ?_
              refine HO.past (past_by rfl rfl c_5) rfl ?_
              refine HO.val (v := .bool false) (want_by rfl rfl c_4) rfl (q_pickK false rfl c_5 rfl) ?_
              refine HO.val (v := .bool false) (want_none) rfl (q_pickK false rfl c_4 rfl) ?_
              refine HO.val (v := .bool false) (want_none) rfl (q_move rfl) ?_
              refine HO.val (v := .bool r2_1) (want_some rfl rfl) rfl (q_move rfl) ?_
              refine HO.val (v := .bool (!r2_1)) (want_some rfl rfl) rfl (q_not rfl) ?_
              refine HO.val (v := .bool (!r2_1)) (want_some rfl rfl) rfl (q_move rfl) ?_
              refine HO.val (v := .string (bs r0_2)) (want_by rfl rfl (by rw [c_5] <;> rfl)) rfl (q_move rfl) ?_
              refine HO.val (v := .bool (!decide ((r0_2 : Str) = []))) (want_by rfl rfl (by rw [c_5] <;> rfl)) rfl (q_neqT rfl rfl) ?_
              refine HO.val (v := .bool (!decide ((r0_2 : Str) = []))) (want_by rfl rfl (by rw [c_5] <;> rfl)) rfl (q_move rfl) ?_
              rcases Bool.eq_false_or_eq_true (!decide ((r0_2 : Str) = [])) with c_8 | c_8
              · replace hM := hM.1 (nd_true c_8)
                refine HO.past (past_by rfl rfl c_8) rfl ?_
                refine HO.past (past_by rfl rfl c_8) rfl ?_
                refine HO.val (v := .bool true) (want_by rfl rfl (by rw [c_5] <;> rfl)) rfl (q_pickK true rfl c_8 rfl) ?_
                refine HO.val (v := .bool true) (want_some rfl rfl) rfl (q_pickK true rfl (by rw [c_5] <;> rfl) rfl) ?_
                refine HO.val (v := .bool true) (want_none) rfl (q_pick rfl rfl) ?_
                refine HO.nil (thenQ_normal (?_))
                refine HW.condT rfl ?_
                refine HW.seq ?_
                refine HW.region ?_
                refine HO.val (v := .bool false) (want_none) rfl (q_assign rfl) ?_
                refine HO.nil (thenQ_normal (?_))
                refine HW.ret (thenQ_ret (?_))
                refine ⟨.inr rfl, .bool false, res1 rfl (rt rfl), ?_⟩
                exact ⟨F_4, false, cm_2, rfl, hK, hS, hL_l, hM⟩
              · replace hM := hM.2 (nd_false c_8)
                refine HO.val (v := .int .i64 r1_2) (want_by rfl rfl c_8) rfl (q_move rfl) ?_
                refine HO.val (v := .bool (!decide (r1_2 = 0))) (want_by rfl rfl c_8) rfl (q_neq rfl rfl) ?_
                refine HO.val (v := .bool (!decide (r1_2 = 0))) (want_by rfl rfl (by rw [c_5] <;> rfl)) rfl (q_pickK false rfl c_8 rfl) ?_
                refine HO.val (v := .bool (!decide (r1_2 = 0))) (want_some rfl rfl) rfl (q_pickK true rfl (by rw [c_5] <;> rfl) rfl) ?_
                refine HO.val (v := .bool (!decide (r1_2 = 0))) (want_none) rfl (q_pick rfl rfl) ?_
                refine HO.nil (thenQ_normal (?_))
                refine HW.cond (!decide (r1_2 = 0)) rfl (fun c_9 => ?_) (fun c_9 => ?_)
                · replace hM := hM.1 (nd_true c_9)
                  refine HW.seq ?_
                  refine HW.region ?_
                  refine HO.val (v := .bool false) (want_none) rfl (q_assign rfl) ?_
                  refine HO.nil (thenQ_normal (?_))
                  refine HW.ret (thenQ_ret (?_))
                  refine ⟨.inr rfl, .bool false, res1 rfl (rt rfl), ?_⟩
                  exact ⟨F_4, false, cm_2, rfl, hK, hS, hL_l, hM⟩
                · replace hM := hM.2 (nd_false c_9)
                  refine HW.skip (thenQ_normal (?_))
                  exact ⟨F_4, rfl, rfl, rfl, hK, hS, hL_l, hM⟩
      · replace hM := hM.2 c_2
        refine HO.past (past_by rfl rfl c_2) rfl ?_
        refine HO.past (past_by rfl rfl c_2) rfl ?_
        refine HO.past (past_by rfl rfl c_2) rfl ?_
        refine HO.past (past_by rfl rfl c_2) rfl ?_
        refine HO.past (past_by rfl rfl c_2) rfl ?_
        refine HO.past (past_by rfl rfl c_2) rfl ?_
        refine HO.past (past_by rfl rfl c_2) rfl ?_
        refine HO.val (v := .bool false) (want_by rfl rfl c_1) rfl (q_pickK false rfl c_2 rfl) ?_
        refine HO.val (v := .bool false) (want_none) rfl (q_pickK false rfl c_1 rfl) ?_
        refine HO.val (v := .bool false) (want_none) rfl (q_move rfl) ?_
        refine HO.val (v := .bool r1_1) (want_some rfl rfl) rfl (q_move rfl) ?_
        refine HO.val (v := .bool (!r1_1)) (want_some rfl rfl) rfl (q_not rfl) ?_
        refine HO.val (v := .bool (!r1_1)) (want_some rfl rfl) rfl (q_move rfl) ?_
        refine HO.val (v := .int .i64 r0_1) (want_by rfl rfl (by rw [c_2] <;> rfl)) rfl (q_move rfl) ?_
        refine HO.val (v := .bool (!decide (r0_1 = 0))) (want_by rfl rfl (by rw [c_2] <;> rfl)) rfl (q_neq rfl rfl) ?_
        refine HO.val (v := .bool (!decide (r0_1 = 0))) (want_some rfl rfl) rfl (q_pickK true rfl (by rw [c_2] <;> rfl) rfl) ?_
        refine HO.val (v := .bool (!decide (r0_1 = 0))) (want_none) rfl (q_pick rfl rfl) ?_
        refine HO.val (v := .bool (!decide (r0_1 = 0))) (want_none) rfl (q_move rfl) ?_
        rcases Bool.eq_false_or_eq_true (!decide (r0_1 = 0)) with c_10 | c_10
        · replace hM := hM.1 (nd_true c_10)
          refine HO.past (past_by rfl rfl c_10) rfl ?_
          refine HO.past (past_by rfl rfl c_10) rfl ?_
          refine HO.past (past_by rfl rfl c_10) rfl ?_
          refine HO.past (past_by rfl rfl c_10) rfl ?_
          refine HO.past (past_by rfl rfl c_10) rfl ?_
          refine HO.val (v := .bool true) (want_none) rfl (q_pickK true rfl c_10 rfl) ?_
          refine HO.val (v := .bool true) (want_none) rfl (q_move rfl) ?_
          refine HO.past (past_some rfl rfl) rfl ?_
          refine HO.past (past_some rfl rfl) rfl ?_
          refine HO.past (past_undef rfl rfl) rfl ?_
          refine HO.past (past_undef rfl rfl) rfl ?_
          refine HO.past (past_undef rfl rfl) rfl ?_
          refine HO.past (past_undef rfl rfl) rfl ?_
          refine HO.past (past_undef rfl rfl) rfl ?_
          refine HO.past (past_undef rfl rfl) rfl ?_
          refine HO.past (past_undef rfl rfl) rfl ?_
          refine HO.past (past_undef rfl rfl) rfl ?_
          refine HO.past (past_undef rfl rfl) rfl ?_
          refine HO.past (past_undef rfl rfl) rfl ?_
          refine HO.past (past_undef rfl rfl) rfl ?_
          refine HO.past (past_undef rfl rfl) rfl ?_
          refine HO.past (past_undef rfl rfl) rfl ?_
          refine HO.past (past_undef rfl rfl) rfl ?_
          refine HO.past (past_some rfl rfl) rfl ?_
          refine HO.val (v := .bool true) (want_none) rfl (q_pick rfl rfl) ?_
          refine HO.val (v := .bool true) (want_none) rfl (q_move rfl) ?_
          refine HO.past (past_some rfl rfl) rfl ?_
          refine HO.past (past_some rfl rfl) rfl ?_
          refine HO.past (past_some rfl rfl) rfl ?_
          refine HO.past (past_undef rfl rfl) rfl ?_
          refine HO.past (past_undef rfl rfl) rfl ?_
          refine HO.past (past_undef rfl rfl) rfl ?_
          refine HO.past (past_undef rfl rfl) rfl ?_
          refine HO.past (past_undef rfl rfl) rfl ?_
          refine HO.past (past_undef rfl rfl) rfl ?_
          refine HO.past (past_some rfl rfl) rfl ?_
          refine HO.val (v := .bool true) (want_none) rfl (q_pick rfl rfl) ?_
          refine HO.nil (thenQ_normal (?_))
          refine HW.condT rfl ?_
          refine HW.seq ?_
          refine HW.region ?_
          refine HO.val (v := .bool false) (want_none) rfl (q_assign rfl) ?_
          refine HO.nil (thenQ_normal (?_))
          refine HW.ret (thenQ_ret (?_))
          refine ⟨.inr rfl, .bool false, res1 rfl (rt rfl), ?_⟩
          exact ⟨F_4, false, cm_2, rfl, hK, hS, hL_l, hM⟩
        · replace hM := hM.2 (nd_false c_10)
          refine HO.val (v := .bool r2_1) (want_by rfl rfl c_10) rfl (q_move rfl) ?_
          refine HO.val (v := vl) (want_by rfl rfl c_10) rfl (q_move rfl) ?_
          refine HO.val (v := .int .i64 (l.length : Int)) (want_by rfl rfl c_10) rfl (q_len ts_25 (shp hL_l.is) rfl rfl) ?_
          refine HO.val (v := .bool (decide (0 < (l.length : Int)))) (want_by rfl rfl c_10) rfl (q_gtr rfl rfl) ?_
          refine HO.val (v := .bool (!(r2_1 == (decide (0 < (l.length : Int)))))) (want_by rfl rfl c_10) rfl (q_neqB Try.underlying4 rfl rfl) ?_
          refine HO.val (v := .bool (!(r2_1 == (decide (0 < (l.length : Int)))))) (want_none) rfl (q_pickK false rfl c_10 rfl) ?_
          refine HO.val (v := .bool (!(r2_1 == (decide (0 < (l.length : Int)))))) (want_none) rfl (q_move rfl) ?_
          rcases Bool.eq_false_or_eq_true (!(r2_1 == (decide (0 < (l.length : Int))))) with c_11 | c_11
          · replace hM := hM.1 c_11
            refine HO.past (past_by rfl rfl c_11) rfl ?_
            refine HO.past (past_by rfl rfl c_11) rfl ?_
            refine HO.past (past_undef rfl rfl) rfl ?_
            refine HO.past (past_undef rfl rfl) rfl ?_
            refine HO.past (past_undef rfl rfl) rfl ?_
            refine HO.past (past_undef rfl rfl) rfl ?_
            refine HO.past (past_undef rfl rfl) rfl ?_
            refine HO.past (past_undef rfl rfl) rfl ?_
            refine HO.past (past_undef rfl rfl) rfl ?_
            refine HO.past (past_undef rfl rfl) rfl ?_
            refine HO.past (past_undef rfl rfl) rfl ?_
            refine HO.past (past_undef rfl rfl) rfl ?_
            refine HO.past (past_undef rfl rfl) rfl ?_
            refine HO.past (past_undef rfl rfl) rfl ?_
            refine HO.past (past_undef rfl rfl) rfl ?_
            refine HO.past (past_undef rfl rfl) rfl ?_
            refine HO.past (past_by rfl rfl c_11) rfl ?_
            refine HO.val (v := .bool true) (want_none) rfl (q_pickK true rfl c_11 rfl) ?_
            refine HO.val (v := .bool true) (want_none) rfl (q_move rfl) ?_
            refine HO.past (past_some rfl rfl) rfl ?_
            refine HO.past (past_some rfl rfl) rfl ?_
            refine HO.past (past_some rfl rfl) rfl ?_
            refine HO.past (past_undef rfl rfl) rfl ?_
            refine HO.past (past_undef rfl rfl) rfl ?_
            refine HO.past (past_undef rfl rfl) rfl ?_
            refine HO.past (past_undef rfl rfl) rfl ?_
            refine HO.past (past_undef rfl rfl) rfl ?_
            refine HO.past (past_undef rfl rfl) rfl ?_
            refine HO.past (past_some rfl rfl) rfl ?_
            refine HO.val (v := .bool true) (want_none) rfl (q_pick rfl rfl) ?_
            refine HO.nil (thenQ_normal (?_))
            refine HW.condT rfl ?_
            refine HW.seq ?_
            refine HW.region ?_
            refine HO.val (v := .bool false) (want_none) rfl (q_assign rfl) ?_
            refine HO.nil (thenQ_normal (?_))
            refine HW.ret (thenQ_ret (?_))
            refine ⟨.inr rfl, .bool false, res1 rfl (rt rfl), ?_⟩
            exact ⟨F_4, false, cm_2, rfl, hK, hS, hL_l, hM⟩
          · replace hM := hM.2 c_11
            refine HO.val (v := .bool r2_1) (want_by rfl rfl c_11) rfl (q_move rfl) ?_
            refine HO.val (v := .bool r2_1) (want_by rfl rfl c_11) rfl (q_move rfl) ?_
            rcases Bool.eq_false_or_eq_true r2_1 with c_12 | c_12
            · replace hM := hM.1 c_12
              refine HO.val (v := .string (bs r0_2)) (want_by rfl rfl c_12) rfl (q_move rfl) ?_
              refine HO.val (v := vl) (want_by rfl rfl c_12) rfl (q_move rfl) ?_
              obtain ⟨ho_3, hM⟩ := hM
              refine HO.val (v := elemPtr 2 vl (0 : Int).toNat) (want_by rfl rfl c_12) rfl (q_idx ts_25 hL_l.is rfl rfl ho_3) ?_
              refine HO.val (v := fieldPtr 2 vl (0 : Int).toNat 0) (want_by rfl rfl c_12) rfl (q_fldElem fa_80_0 hL_l.is rfl ho_3) ?_
              refine HO.val (v := .string (bs ((gi l 0).1))) (want_by rfl rfl c_12) rfl (q_ldField to_9 hL_l.is rfl ho_3 (by decide) rfl) ?_
              refine HO.val (v := .bool (!decide ((r0_2 : Str) = (gi l 0).1))) (want_by rfl rfl c_12) rfl (q_neqT rfl rfl) ?_
              refine HO.val (v := .bool (!decide ((r0_2 : Str) = (gi l 0).1))) (want_by rfl rfl c_12) rfl (q_move rfl) ?_
              rcases Bool.eq_false_or_eq_true (!decide ((r0_2 : Str) = (gi l 0).1)) with c_13 | c_13
              · replace hM := hM.1 (nd_true c_13)
                refine HO.past (past_by rfl rfl c_13) rfl ?_
                refine HO.past (past_by rfl rfl c_13) rfl ?_
                refine HO.past (past_by rfl rfl c_13) rfl ?_
                refine HO.past (past_by rfl rfl c_13) rfl ?_
                refine HO.past (past_by rfl rfl c_13) rfl ?_
                refine HO.past (past_by rfl rfl c_13) rfl ?_
                refine HO.val (v := .bool true) (want_by rfl rfl c_12) rfl (q_pickK true rfl c_13 rfl) ?_
                refine HO.val (v := .bool true) (want_by rfl rfl c_11) rfl (q_pickK true rfl c_12 rfl) ?_
                refine HO.val (v := .bool true) (want_none) rfl (q_pickK false rfl c_11 rfl) ?_
                refine HO.val (v := .bool true) (want_none) rfl (q_move rfl) ?_
                refine HO.past (past_some rfl rfl) rfl ?_
                refine HO.past (past_some rfl rfl) rfl ?_
                refine HO.past (past_some rfl rfl) rfl ?_
                refine HO.past (past_undef rfl rfl) rfl ?_
                refine HO.past (past_undef rfl rfl) rfl ?_
                refine HO.past (past_undef rfl rfl) rfl ?_
                refine HO.past (past_undef rfl rfl) rfl ?_
                refine HO.past (past_undef rfl rfl) rfl ?_
                refine HO.past (past_undef rfl rfl) rfl ?_
                refine HO.past (past_some rfl rfl) rfl ?_
                refine HO.val (v := .bool true) (want_none) rfl (q_pick rfl rfl) ?_
                refine HO.nil (thenQ_normal (?_))
                refine HW.condT rfl ?_
                refine HW.seq ?_
                refine HW.region ?_
                refine HO.val (v := .bool false) (want_none) rfl (q_assign rfl) ?_
                refine HO.nil (thenQ_normal (?_))
                refine HW.ret (thenQ_ret (?_))
                refine ⟨.inr rfl, .bool false, res1 rfl (rt rfl), ?_⟩
                exact ⟨F_4, false, cm_2, rfl, hK, hS, hL_l, hM⟩
              · replace hM := hM.2 (nd_false c_13)
                refine HO.val (v := .int .i64 r1_2) (want_by rfl rfl c_13) rfl (q_move rfl) ?_
                refine HO.val (v := vl) (want_by rfl rfl c_13) rfl (q_move rfl) ?_
                refine HO.val (v := elemPtr 2 vl (0 : Int).toNat) (want_by rfl rfl c_13) rfl (q_idx ts_25 hL_l.is rfl rfl ho_3) ?_
                refine HO.val (v := fieldPtr 2 vl (0 : Int).toNat 1) (want_by rfl rfl c_13) rfl (q_fldElem fa_80_1 hL_l.is rfl ho_3) ?_
                refine HO.val (v := .int .i64 ((gi l 0).2)) (want_by rfl rfl c_13) rfl (q_ldField to_3 hL_l.is rfl ho_3 (by decide) rfl) ?_
                refine HO.val (v := .bool (!decide (r1_2 = ((gi l 0).2)))) (want_by rfl rfl c_13) rfl (q_neq rfl rfl) ?_
                refine HO.val (v := .bool (!decide (r1_2 = ((gi l 0).2)))) (want_by rfl rfl c_12) rfl (q_pickK false rfl c_13 rfl) ?_
                refine HO.val (v := .bool (!decide (r1_2 = ((gi l 0).2)))) (want_by rfl rfl c_11) rfl (q_pickK true rfl c_12 rfl) ?_
                refine HO.val (v := .bool (!decide (r1_2 = ((gi l 0).2)))) (want_none) rfl (q_pickK false rfl c_11 rfl) ?_
                refine HO.val (v := .bool (!decide (r1_2 = ((gi l 0).2)))) (want_none) rfl (q_move rfl) ?_
                rcases Bool.eq_false_or_eq_true (!decide (r1_2 = ((gi l 0).2))) with c_14 | c_14
                · replace hM := hM.1 (nd_true c_14)
                  refine HO.past (past_by rfl rfl c_14) rfl ?_
                  refine HO.past (past_by rfl rfl c_14) rfl ?_
                  refine HO.past (past_by rfl rfl c_14) rfl ?_
                  refine HO.past (past_undef rfl rfl) rfl ?_
                  refine HO.past (past_undef rfl rfl) rfl ?_
                  refine HO.past (past_undef rfl rfl) rfl ?_
                  refine HO.past (past_undef rfl rfl) rfl ?_
                  refine HO.past (past_undef rfl rfl) rfl ?_
                  refine HO.past (past_undef rfl rfl) rfl ?_
                  refine HO.past (past_by rfl rfl c_14) rfl ?_
                  refine HO.val (v := .bool true) (want_none) rfl (q_pickK true rfl c_14 rfl) ?_
                  refine HO.nil (thenQ_normal (?_))
                  refine HW.condT rfl ?_
                  refine HW.seq ?_
                  refine HW.region ?_
                  refine HO.val (v := .bool false) (want_none) rfl (q_assign rfl) ?_
                  refine HO.nil (thenQ_normal (?_))
                  refine HW.ret (thenQ_ret (?_))
                  refine ⟨.inr rfl, .bool false, res1 rfl (rt rfl), ?_⟩
                  exact ⟨F_4, false, cm_2, rfl, hK, hS, hL_l, hM⟩
                · replace hM := hM.2 (nd_false c_14)
                  refine HO.val (v := .bool r2_1) (want_by rfl rfl c_14) rfl (q_move rfl) ?_
                  refine HO.val (v := .bool (!r2_1)) (want_by rfl rfl c_14) rfl (q_not rfl) ?_
                  refine HO.val (v := .bool (!r2_1)) (want_by rfl rfl c_14) rfl (q_move rfl) ?_
                  refine HO.past (past_by rfl rfl (by rw [c_12] <;> rfl)) rfl ?_
                  refine HO.past (past_by rfl rfl (by rw [c_12] <;> rfl)) rfl ?_
                  refine HO.past (past_by rfl rfl (by rw [c_12] <;> rfl)) rfl ?_
                  refine HO.past (past_undef rfl rfl) rfl ?_
                  refine HO.past (past_undef rfl rfl) rfl ?_
                  refine HO.past (past_by rfl rfl (by rw [c_12] <;> rfl)) rfl ?_
                  refine HO.val (v := .bool false) (want_by rfl rfl c_14) rfl (q_pickK false rfl (by rw [c_12] <;> rfl) rfl) ?_
                  refine HO.val (v := .bool false) (want_none) rfl (q_pickK false rfl c_14 rfl) ?_
                  refine HO.nil (thenQ_normal (?_))
                  refine HW.condF rfl ?_
                  refine HW.skip (thenQ_normal (?_))
                  exact ⟨F_4, rfl, rfl, rfl, hK, hS, hL_l, hM⟩
            · replace hM := hM.2 c_12
              refine HO.past (past_by rfl rfl c_12) rfl ?_
              refine HO.past (past_by rfl rfl c_12) rfl ?_
              refine HO.past (past_by rfl rfl c_12) rfl ?_
              refine HO.past (past_by rfl rfl c_12) rfl ?_
              refine HO.past (past_by rfl rfl c_12) rfl ?_
              refine HO.past (past_by rfl rfl c_12) rfl ?_
              refine HO.past (past_by rfl rfl c_12) rfl ?_
              refine HO.past (past_undef rfl rfl) rfl ?_
              refine HO.past (past_undef rfl rfl) rfl ?_
              refine HO.past (past_undef rfl rfl) rfl ?_
              refine HO.past (past_undef rfl rfl) rfl ?_
              refine HO.past (past_undef rfl rfl) rfl ?_
              refine HO.past (past_undef rfl rfl) rfl ?_
              refine HO.past (past_by rfl rfl c_12) rfl ?_
              refine HO.val (v := .bool false) (want_by rfl rfl c_11) rfl (q_pickK false rfl c_12 rfl) ?_
              refine HO.val (v := .bool false) (want_none) rfl (q_pickK false rfl c_11 rfl) ?_
              refine HO.val (v := .bool false) (want_none) rfl (q_move rfl) ?_
              refine HO.val (v := .bool r2_1) (want_some rfl rfl) rfl (q_move rfl) ?_
              refine HO.val (v := .bool (!r2_1)) (want_some rfl rfl) rfl (q_not rfl) ?_
              refine HO.val (v := .bool (!r2_1)) (want_some rfl rfl) rfl (q_move rfl) ?_
              refine HO.val (v := .string (bs r0_2)) (want_by rfl rfl (by rw [c_12] <;> rfl)) rfl (q_move rfl) ?_
              refine HO.val (v := .bool (!decide ((r0_2 : Str) = []))) (want_by rfl rfl (by rw [c_12] <;> rfl)) rfl (q_neqT rfl rfl) ?_
              refine HO.val (v := .bool (!decide ((r0_2 : Str) = []))) (want_by rfl rfl (by rw [c_12] <;> rfl)) rfl (q_move rfl) ?_
              rcases Bool.eq_false_or_eq_true (!decide ((r0_2 : Str) = [])) with c_15 | c_15
              · replace hM := hM.1 (nd_true c_15)
                refine HO.past (past_by rfl rfl c_15) rfl ?_
                refine HO.past (past_by rfl rfl c_15) rfl ?_
                refine HO.val (v := .bool true) (want_by rfl rfl (by rw [c_12] <;> rfl)) rfl (q_pickK true rfl c_15 rfl) ?_
                refine HO.val (v := .bool true) (want_some rfl rfl) rfl (q_pickK true rfl (by rw [c_12] <;> rfl) rfl) ?_
                refine HO.val (v := .bool true) (want_none) rfl (q_pick rfl rfl) ?_
                refine HO.nil (thenQ_normal (?_))
                refine HW.condT rfl ?_
                refine HW.seq ?_
                refine HW.region ?_
                refine HO.val (v := .bool false) (want_none) rfl (q_assign rfl) ?_
                refine HO.nil (thenQ_normal (?_))
                refine HW.ret (thenQ_ret (?_))
                refine ⟨.inr rfl, .bool false, res1 rfl (rt rfl), ?_⟩
                exact ⟨F_4, false, cm_2, rfl, hK, hS, hL_l, hM⟩
              · replace hM := hM.2 (nd_false c_15)
                refine HO.val (v := .int .i64 r1_2) (want_by rfl rfl c_15) rfl (q_move rfl) ?_
                refine HO.val (v := .bool (!decide (r1_2 = 0))) (want_by rfl rfl c_15) rfl (q_neq rfl rfl) ?_
                refine HO.val (v := .bool (!decide (r1_2 = 0))) (want_by rfl rfl (by rw [c_12] <;> rfl)) rfl (q_pickK false rfl c_15 rfl) ?_
                refine HO.val (v := .bool (!decide (r1_2 = 0))) (want_some rfl rfl) rfl (q_pickK true rfl (by rw [c_12] <;> rfl) rfl) ?_
                refine HO.val (v := .bool (!decide (r1_2 = 0))) (want_none) rfl (q_pick rfl rfl) ?_
                refine HO.nil (thenQ_normal (?_))
                refine HW.cond (!decide (r1_2 = 0)) rfl (fun c_16 => ?_) (fun c_16 => ?_)
                · replace hM := hM.1 (nd_true c_16)
                  refine HW.seq ?_
                  refine HW.region ?_
                  refine HO.val (v := .bool false) (want_none) rfl (q_assign rfl) ?_
                  refine HO.nil (thenQ_normal (?_))
                  refine HW.ret (thenQ_ret (?_))
                  refine ⟨.inr rfl, .bool false, res1 rfl (rt rfl), ?_⟩
                  exact ⟨F_4, false, cm_2, rfl, hK, hS, hL_l, hM⟩
                · replace hM := hM.2 (nd_false c_16)
                  refine HW.skip (thenQ_normal (?_))
                  exact ⟨F_4, rfl, rfl, rfl, hK, hS, hL_l, hM⟩
  · rintro f_1 h_4 ⟨F_5, e0, e1, e6, hK, hS, hL_l, hM⟩
    unfold law12_told_j1 at hM
    refine HW.fr [(0, .pointer (some ⟨bc, 0, none⟩)), (1, vl), (6, .bool false)] ⟨e0, e1, e6, trivial⟩ ?_
    refine HW.seq ?_
    refine HW.region ?_
    refine HO.val (v := .pointer (some ⟨bc, 0, none⟩)) (want_none) rfl (q_move rfl) ?_
    have hZ_3 := hS
    have hkz_3 := (hS.freeze).2
    replace hS := hS.freeze.1
    have hL_3 := hZ_3.lent
    have hZ_4 := hS
    have hkz_4 := (hS.freeze).2
    replace hS := hS.freeze.1
    have hL_4 := hZ_4.lent
    refine HO.call (want_none) rfl (ec en_25 rfl rfl) (clock_Clock_Len_string_walk (fr := (fr)) cm_2 bc rc_at hS hL_4 (hL_3.kp hkz_4) hM) ?_
    rintro _ h_5 ⟨F_6, r_3, rfl, hk, hS, _, _, hM⟩
    obtain ⟨hS, hk⟩ := hZ_4.back hk hS
    obtain ⟨hS, hk⟩ := hZ_3.back hk hS
    generalize (fun b => (fun b => F_6 b ∧ ¬ (Ow.map rc_at kT kI cm_2).foot b) b ∧ ¬ (Ow.box bc 78 #[.map (some rc_at)]).foot b) = F_7 at hS hk
    replace hK := hK.trans hk
    replace hL_l := hL_l.kp hk
    refine HO.val (v := vl) (want_none) rfl (q_move rfl) ?_
    refine HO.val (v := .int .i64 (l.length : Int)) (want_none) rfl (q_len ts_25 (shp hL_l.is) rfl rfl) ?_
    refine HO.val (v := .bool (decide (r_3 = (l.length : Int)))) (want_none) rfl (q_eql rfl rfl) ?_
    refine HO.val (v := .bool (decide (r_3 = (l.length : Int)))) (want_none) rfl (q_move rfl) ?_
    rcases Bool.eq_false_or_eq_true (decide (r_3 = (l.length : Int))) with c_17 | c_17
    · replace hM := hM.1 (of_decide_eq_true c_17)
      refine HO.val (v := .pointer (some ⟨bc, 0, none⟩)) (want_by rfl rfl c_17) rfl (q_move rfl) ?_
      have hZ_5 := hS
      have hkz_5 := (hS.freeze).2
      replace hS := hS.freeze.1
      have hL_5 := hZ_5.lent
      have hZ_6 := hS
      have hkz_6 := (hS.freeze).2
      replace hS := hS.freeze.1
      have hL_6 := hZ_6.lent
      refine HO.call (want_by rfl rfl c_17) rfl (ec en_24 rfl rfl) (clock_Clock_Keys_string_walk (fr := (fr)) cm_2 bc rc_at hS hL_6 (hL_5.kp hkz_6) hD hM) ?_
      rintro vr_1 h_6 ⟨F_8, r_4, _, rfl, hk, hS, _, _, hM⟩
      obtain ⟨hS, hk⟩ := hZ_6.back hk hS
      obtain ⟨hS, hk⟩ := hZ_5.back hk hS
      generalize (fun b => (fun b => F_8 b ∧ ¬ (Ow.map rc_at kT kI cm_2).foot b) b ∧ ¬ (Ow.box bc 78 #[.map (some rc_at)]).foot b) = F_9 at hS hk
      replace hK := hK.trans hk
      replace hL_l := hL_l.kp hk
      refine HO.val (v := vl) (want_by rfl rfl c_17) rfl (q_move rfl) ?_
      refine HO.call (want_by rfl rfl c_17) rfl (ec en_17 rfl rfl) (ref12_Keys_walk (fr := (Ow.box bc 78 #[.map (some rc_at)] :: Ow.map rc_at kT kI cm_2 :: Ow.own 9 1 encT vr_1 r_4 :: fr)) l vl hS hL_l hM) ?_
      rintro vr_2 h_7 ⟨F_10, r_5, _, rfl, hk, hS, _, hM⟩
      replace hK := hK.trans hk
      replace hL_l := hL_l.kp hk
      have hZ_7 := hS
      have hkz_7 := (hS.freeze).2
      replace hS := hS.freeze.1
      have hL_7 : SliceF (fun b => F_10 b ∨ (Ow.own 9 1 encT vr_2 r_5).foot b) h_7 1 encT vr_2 r_5 := ⟨(hZ_7.own 0 rfl).slice, fun _ b hb => .inr hb⟩
      refine HO.call (want_by rfl rfl c_17) rfl (ec en_47 rfl rfl) (ref12_Sorted_walk (fr := (Ow.box bc 78 #[.map (some rc_at)] :: Ow.map rc_at kT kI cm_2 :: Ow.own 9 1 encT vr_1 r_4 :: fr)) r_5 vr_2 hS hL_7 hM) ?_
      rintro vr_3 h_8 ⟨F_11, r_6, _, rfl, hk, hS, _, hM⟩
      obtain ⟨hS, hk⟩ := hZ_7.back hk hS
      generalize (fun b => F_11 b ∧ ¬ (Ow.own 9 1 encT vr_2 r_5).foot b) = F_12 at hS hk
      replace hK := hK.trans hk
      replace hL_l := hL_l.kp hk
      replace hS : St F_12 (Ow.own 9 1 encT vr_1 r_4 :: Ow.own 9 1 encT vr_2 r_5 :: Ow.own 9 1 encT vr_3 r_6 :: Ow.box bc 78 #[.map (some rc_at)] :: Ow.map rc_at kT kI cm_2 :: fr) h_8 := hS.perm2 [4, 0, 1, 2, 3] 5 rfl rfl
      have hZ_8 := hS
      have hkz_8 := (hS.freeze).2
      replace hS := hS.freeze.1
      have hL_8 : SliceF (fun b => F_12 b ∨ (Ow.own 9 1 encT vr_1 r_4).foot b) h_8 1 encT vr_1 r_4 := ⟨(hZ_8.own 0 rfl).slice, fun _ b hb => .inr hb⟩
      replace hS : St (fun b => F_12 b ∨ (Ow.own 9 1 encT vr_1 r_4).foot b) (Ow.own 9 1 encT vr_3 r_6 :: Ow.own 9 1 encT vr_2 r_5 :: Ow.box bc 78 #[.map (some rc_at)] :: Ow.map rc_at kT kI cm_2 :: fr) h_8 := hS.perm2 [1, 0, 2, 3] 4 rfl rfl
      have hZ_9 := hS
      have hkz_9 := (hS.freeze).2
      replace hS := hS.freeze.1
      have hL_9 : SliceF (fun b => (fun b => F_12 b ∨ (Ow.own 9 1 encT vr_1 r_4).foot b) b ∨ (Ow.own 9 1 encT vr_3 r_6).foot b) h_8 1 encT vr_3 r_6 := ⟨(hZ_9.own 0 rfl).slice, fun _ b hb => .inr hb⟩
      refine HO.call (want_by rfl rfl c_17) rfl (ec en_15 rfl rfl) (ref12_Same_walk (fr := (Ow.own 9 1 encT vr_2 r_5 :: Ow.box bc 78 #[.map (some rc_at)] :: Ow.map rc_at kT kI cm_2 :: fr)) r_4 r_6 vr_1 vr_3 hS (hL_8.kp hkz_9) hL_9 hM) ?_
      rintro _ h_9 ⟨F_13, r_7, rfl, hk, hS, _, _, hM⟩
      obtain ⟨hS, hk⟩ := hZ_9.back hk hS
      obtain ⟨hS, hk⟩ := hZ_8.back hk hS
      generalize (fun b => (fun b => F_13 b ∧ ¬ (Ow.own 9 1 encT vr_3 r_6).foot b) b ∧ ¬ (Ow.own 9 1 encT vr_1 r_4).foot b) = F_14 at hS hk
      replace hK := hK.trans hk
      replace hL_l := hL_l.kp hk
      refine HO.val (v := .bool r_7) (want_none) rfl (q_pickK true rfl c_17 rfl) ?_
      refine HO.val (v := .bool r_7) (want_none) rfl (q_assign rfl) ?_
      refine HO.nil (thenQ_normal (?_))
      refine HW.ret (?_)
      refine ⟨.inr rfl, .bool r_7, res1 rfl (rt rfl), ?_⟩
      replace hS : St F_14 (Ow.box bc 78 #[.map (some rc_at)] :: Ow.map rc_at kT kI cm_2 :: fr) h_9 := hS.perm2 [3, 4] 5 rfl rfl
      exact ⟨F_14, r_7, cm_2, rfl, hK, hS, hL_l, hM⟩
    · replace hM := hM.2 (of_decide_eq_false c_17)
      refine HO.past (past_by rfl rfl c_17) rfl ?_
      refine HO.past (past_by rfl rfl c_17) rfl ?_
      refine HO.past (past_by rfl rfl c_17) rfl ?_
      refine HO.past (past_by rfl rfl c_17) rfl ?_
      refine HO.past (past_by rfl rfl c_17) rfl ?_
      refine HO.past (past_by rfl rfl c_17) rfl ?_
      refine HO.val (v := .bool false) (want_none) rfl (q_pickK false rfl c_17 rfl) ?_
      refine HO.val (v := .bool false) (want_none) rfl (q_assign rfl) ?_
      refine HO.nil (thenQ_normal (?_))
      refine HW.ret (?_)
      refine ⟨.inr rfl, .bool false, res1 rfl (rt rfl), ?_⟩
      exact ⟨F_7, false, cm_2, rfl, hK, hS, hL_l, hM⟩

def law12_lives_W (Q : Bool → Prop) : Prop :=
  clock_New_string_W  (clock_Clock_Set_string_W [] [98] 5 (fun r_3 cm_1 => clock_Clock_Set_string_W cm_1 [97] 5 (fun r_4 cm_2 => clock_Clock_Set_string_W cm_2 [99] 4 (fun r_5 cm_3 => clock_Clock_Len_string_W cm_3 (fun r_6 => (r_6 = 3 → clock_Clock_Due_string_W cm_3 5 (fun r_7 cm_4 => ref12_Same_W r_7 ([[99], [97], [98]] : List Str) (fun r_8 => (r_8 = true → clock_Clock_Due_string_W cm_4 3 (fun r_9 cm_5 => Q (decide ((r_9.length : Int) = 0)))) ∧ (r_8 = false → Q false)))) ∧ (¬ (r_6 = 3) → Q false))))))
set_option maxHeartbeats 40000000 in
set_option maxRecDepth 100000 in
theorem law12_lives_walk {F : Fz} {fr : List Ow} {h0 : Heap}  (hS : St F (fr) h0)  {Q : Bool → Prop} (hM : law12_lives_W Q) :
    HC Try.prog 20 #[] h0 fun u h' => ∃ (F' : Fz) (r_1 : Bool), u = .bool r_1 ∧ Kp F h0 F' h' ∧ St F' (fr) h' ∧ Q r_1 := by
  unfold law12_lives_W at hM
  have hK := Kp.refl F h0
  refine HC.of_HW (n := 24) Try.func20 rfl rfl (Nat.le_of_ble_eq_true rfl) ?_
  refine HW.seq ?_
  refine HW.region ?_
  refine HO.val (v := .bool false) (want_none) rfl (q_assign rfl) ?_
  refine HO.nil (thenQ_normal (?_))
  refine HW.seq ?_
  refine HW.region ?_
  refine HO.call (want_none) rfl (ec en_7 rfl rfl) (clock_New_string_walk (fr := (fr))  hS hM) ?_
  rintro _ h_1 ⟨F_1, b_1, r_2, rfl, hk, hS, hM⟩
  replace hK := hK.trans hk
  refine HO.val (v := .pointer (some ⟨b_1, 0, none⟩)) (want_none) rfl (q_assign rfl) ?_
  refine HO.nil (thenQ_normal (?_))
  refine HW.seq ?_
  refine HW.region ?_
  refine HO.val (v := .pointer (some ⟨b_1, 0, none⟩)) (want_none) rfl (q_move rfl) ?_
  refine HO.call (want_none) rfl (ec en_11 rfl rfl) (clock_Clock_Set_string_walk (fr := (fr)) [] [98] 5 b_1 r_2 hS hM) ?_
  rintro _ h_2 ⟨F_2, r_3, cm_1, rfl, hk, hS, hM⟩
  replace hK := hK.trans hk
  refine HO.nil (thenQ_normal (?_))
  refine HW.seq ?_
  refine HW.region ?_
  refine HO.val (v := .pointer (some ⟨b_1, 0, none⟩)) (want_none) rfl (q_move rfl) ?_
  refine HO.call (want_none) rfl (ec en_11 rfl rfl) (clock_Clock_Set_string_walk (fr := (fr)) cm_1 [97] 5 b_1 r_2 hS hM) ?_
  rintro _ h_3 ⟨F_3, r_4, cm_2, rfl, hk, hS, hM⟩
  replace hK := hK.trans hk
  refine HO.nil (thenQ_normal (?_))
  refine HW.seq ?_
  refine HW.region ?_
  refine HO.val (v := .pointer (some ⟨b_1, 0, none⟩)) (want_none) rfl (q_move rfl) ?_
  refine HO.call (want_none) rfl (ec en_11 rfl rfl) (clock_Clock_Set_string_walk (fr := (fr)) cm_2 [99] 4 b_1 r_2 hS hM) ?_
  rintro _ h_4 ⟨F_4, r_5, cm_3, rfl, hk, hS, hM⟩
  replace hK := hK.trans hk
  refine HO.nil (thenQ_normal (?_))
  refine HW.seq ?_
  refine HW.region ?_
  refine HO.val (v := .pointer (some ⟨b_1, 0, none⟩)) (want_none) rfl (q_move rfl) ?_
  have hZ_1 := hS
  have hkz_1 := (hS.freeze).2
  replace hS := hS.freeze.1
  have hL_1 := hZ_1.lent
  have hZ_2 := hS
  have hkz_2 := (hS.freeze).2
  replace hS := hS.freeze.1
  have hL_2 := hZ_2.lent
  refine HO.call (want_none) rfl (ec en_25 rfl rfl) (clock_Clock_Len_string_walk (fr := (fr)) cm_3 b_1 r_2 hS hL_2 (hL_1.kp hkz_2) hM) ?_
  rintro _ h_5 ⟨F_5, r_6, rfl, hk, hS, _, _, hM⟩
  obtain ⟨hS, hk⟩ := hZ_2.back hk hS
  obtain ⟨hS, hk⟩ := hZ_1.back hk hS
  generalize (fun b => (fun b => F_5 b ∧ ¬ (Ow.map r_2 kT kI cm_3).foot b) b ∧ ¬ (Ow.box b_1 78 #[.map (some r_2)]).foot b) = F_6 at hS hk
  replace hK := hK.trans hk
  refine HO.val (v := .bool (decide (r_6 = 3))) (want_none) rfl (q_eql rfl rfl) ?_
  refine HO.val (v := .bool (decide (r_6 = 3))) (want_none) rfl (q_move rfl) ?_
  rcases Bool.eq_false_or_eq_true (decide (r_6 = 3)) with c_1 | c_1
  · replace hM := hM.1 (of_decide_eq_true c_1)
    refine HO.val (v := .pointer (some ⟨b_1, 0, none⟩)) (want_by rfl rfl c_1) rfl (q_move rfl) ?_
    refine HO.call (want_by rfl rfl c_1) rfl (ec en_18 rfl rfl) (clock_Clock_Due_string_walk (fr := (fr)) cm_3 5 b_1 r_2 hS hM) ?_
    rintro vr_1 h_6 ⟨F_7, r_7, cm_4, _, rfl, hk, hS, hM⟩
    replace hK := hK.trans hk
    refine HO.eff (want_by rfl rfl c_1) rfl (st_lit (enc := encT) (cells := #[.string (bs [99]), .string (bs [97]), .string (bs [98])]) #[.string (bs []), .string (bs []), .string (bs [])] ([[99], [97], [98]] : List Str) hS tl_36 (by decide) (by decide) (by kernel_rfl) (by kernel_rfl) rfl (by intro x hx; rfl) rfl) ?_
    rintro _ h_7 ⟨b_2, rfl, hS, hk⟩
    replace hK := hK.trans hk
    replace hS : St F_7 (Ow.own 9 1 encT vr_1 r_7 :: Ow.own 9 1 encT (.slice (some ⟨b_2, 0, none⟩) 3 3) ([[99], [97], [98]] : List Str) :: Ow.box b_1 78 #[.map (some r_2)] :: Ow.map r_2 kT kI cm_4 :: fr) h_7 := hS.perm2 [1, 0, 2, 3] 4 rfl rfl
    have hZ_3 := hS
    have hkz_3 := (hS.freeze).2
    replace hS := hS.freeze.1
    have hL_3 : SliceF (fun b => F_7 b ∨ (Ow.own 9 1 encT vr_1 r_7).foot b) h_7 1 encT vr_1 r_7 := ⟨(hZ_3.own 0 rfl).slice, fun _ b hb => .inr hb⟩
    have hZ_4 := hS
    have hkz_4 := (hS.freeze).2
    replace hS := hS.freeze.1
    have hL_4 : SliceF (fun b => (fun b => F_7 b ∨ (Ow.own 9 1 encT vr_1 r_7).foot b) b ∨ (Ow.own 9 1 encT (.slice (some ⟨b_2, 0, none⟩) 3 3) ([[99], [97], [98]] : List Str)).foot b) h_7 1 encT (.slice (some ⟨b_2, 0, none⟩) 3 3) ([[99], [97], [98]] : List Str) := ⟨(hZ_4.own 0 rfl).slice, fun _ b hb => .inr hb⟩
    refine HO.call (want_by rfl rfl c_1) rfl (ec en_15 rfl rfl) (ref12_Same_walk (fr := (Ow.box b_1 78 #[.map (some r_2)] :: Ow.map r_2 kT kI cm_4 :: fr)) r_7 ([[99], [97], [98]] : List Str) vr_1 (.slice (some ⟨b_2, 0, none⟩) 3 3) hS (hL_3.kp hkz_4) hL_4 hM) ?_
    rintro _ h_8 ⟨F_8, r_8, rfl, hk, hS, _, _, hM⟩
    obtain ⟨hS, hk⟩ := hZ_4.back hk hS
    obtain ⟨hS, hk⟩ := hZ_3.back hk hS
    generalize (fun b => (fun b => F_8 b ∧ ¬ (Ow.own 9 1 encT (.slice (some ⟨b_2, 0, none⟩) 3 3) ([[99], [97], [98]] : List Str)).foot b) b ∧ ¬ (Ow.own 9 1 encT vr_1 r_7).foot b) = F_9 at hS hk
    replace hK := hK.trans hk
    refine HO.val (v := .bool r_8) (want_none) rfl (q_pickK true rfl c_1 rfl) ?_
    refine HO.val (v := .bool r_8) (want_none) rfl (q_move rfl) ?_
    rcases Bool.eq_false_or_eq_true r_8 with c_2 | c_2
    · replace hM := hM.1 c_2
      refine HO.val (v := .pointer (some ⟨b_1, 0, none⟩)) (want_by rfl rfl c_2) rfl (q_move rfl) ?_
      replace hS : St F_9 (Ow.box b_1 78 #[.map (some r_2)] :: Ow.map r_2 kT kI cm_4 :: Ow.own 9 1 encT vr_1 r_7 :: Ow.own 9 1 encT (.slice (some ⟨b_2, 0, none⟩) 3 3) ([[99], [97], [98]] : List Str) :: fr) h_8 := hS.perm2 [2, 3, 0, 1] 4 rfl rfl
      refine HO.call (want_by rfl rfl c_2) rfl (ec en_18 rfl rfl) (clock_Clock_Due_string_walk (fr := (Ow.own 9 1 encT vr_1 r_7 :: Ow.own 9 1 encT (.slice (some ⟨b_2, 0, none⟩) 3 3) ([[99], [97], [98]] : List Str) :: fr)) cm_4 3 b_1 r_2 hS hM) ?_
      rintro vr_2 h_9 ⟨F_10, r_9, cm_5, _, rfl, hk, hS, hM⟩
      replace hK := hK.trans hk
      refine HO.val (v := .int .i64 (r_9.length : Int)) (want_by rfl rfl c_2) rfl (q_len ts_36 (shp (hS.own 0 rfl).slice) rfl rfl) ?_
      refine HO.val (v := .bool (decide ((r_9.length : Int) = 0))) (want_by rfl rfl c_2) rfl (q_eql rfl rfl) ?_
      refine HO.val (v := .bool (decide ((r_9.length : Int) = 0))) (want_none) rfl (q_pickK true rfl c_2 rfl) ?_
      refine HO.val (v := .bool (decide ((r_9.length : Int) = 0))) (want_none) rfl (q_assign rfl) ?_
      refine HO.nil (thenQ_normal (?_))
      refine HW.ret (?_)
      refine ⟨.inr rfl, .bool (decide ((r_9.length : Int) = 0)), res1 rfl (rt rfl), ?_⟩
      replace hS : St F_10 (fr) h_9 := hS.perm2 [] 5 rfl rfl
      exact ⟨F_10, decide ((r_9.length : Int) = 0), rfl, hK, hS, hM⟩
    · replace hM := hM.2 c_2
      refine HO.past (past_by rfl rfl c_2) rfl ?_
      refine HO.past (past_by rfl rfl c_2) rfl ?_
      refine HO.past (past_by rfl rfl c_2) rfl ?_
      refine HO.past (past_by rfl rfl c_2) rfl ?_
      refine HO.val (v := .bool false) (want_none) rfl (q_pickK false rfl c_2 rfl) ?_
      refine HO.val (v := .bool false) (want_none) rfl (q_assign rfl) ?_
      refine HO.nil (thenQ_normal (?_))
      refine HW.ret (?_)
      refine ⟨.inr rfl, .bool false, res1 rfl (rt rfl), ?_⟩
      replace hS : St F_9 (fr) h_8 := hS.perm2 [] 4 rfl rfl
      exact ⟨F_9, false, rfl, hK, hS, hM⟩
  · replace hM := hM.2 (of_decide_eq_false c_1)
    refine HO.past (past_by rfl rfl c_1) rfl ?_
    refine HO.past (past_by rfl rfl c_1) rfl ?_
    refine HO.past (past_by rfl rfl c_1) rfl ?_
    refine HO.past (past_by rfl rfl c_1) rfl ?_
    refine HO.val (v := .bool false) (want_none) rfl (q_pickK false rfl c_1 rfl) ?_
    refine HO.val (v := .bool false) (want_none) rfl (q_move rfl) ?_
    refine HO.past (past_some rfl rfl) rfl ?_
    refine HO.past (past_some rfl rfl) rfl ?_
    refine HO.past (past_some rfl rfl) rfl ?_
    refine HO.past (past_some rfl rfl) rfl ?_
    refine HO.val (v := .bool false) (want_none) rfl (q_pick rfl rfl) ?_
    refine HO.val (v := .bool false) (want_none) rfl (q_assign rfl) ?_
    refine HO.nil (thenQ_normal (?_))
    refine HW.ret (?_)
    refine ⟨.inr rfl, .bool false, res1 rfl (rt rfl), ?_⟩
    replace hS : St F_6 (fr) h_5 := hS.perm2 [] 2 rfl rfl
    exact ⟨F_6, false, rfl, hK, hS, hM⟩
end Go.Wk
