/- Walks of plans: what all laws share. -/
import Derived.Test.YtjliljlmgepmpaaStrs
import Derived.Test.YtjliljlmgepmpaaTxt
import Derived.Test.YtjliljlmgepmpaaNest
import Derived.Test.YtjliljlmgepmpaaBag
import Derived.Test.YtjliljlmgepmpaaGrw
import Derived.Test.YtjliljlmgepmpaaTight
import Derived.Test.YtjliljlmgepmpaaRf
import Derived.Test.YtjliljlmgepmpaaLayP
import Derived.Test.YtjliljlmgepmpaaProg
set_option linter.unusedSimpArgs false
set_option linter.unusedVariables false
set_option linter.unusedSectionVars false
namespace Go.Wk
open Go.HL
open Go.Proofs hiding encI
variable [DM]
abbrev T_api_Branch := Int × Int
abbrev T_s_int := Value × List Int
def e_api_Branch (x : T_api_Branch) : List Value := [.int .i64 x.1, .int .i64 x.2]
def e_s_int (x : T_s_int) : List Value := [x.1]
def nf_s_int : Nf T_s_int := Nf.sl 1 encI
theorem en_29 (args : Array Value) (w : World) : (callFunc 29 args).run Try.prog w = .ok (.enter 29 args) w := by kernel_rfl
theorem tz_46 : TZero Try.prog 46 (.agg #[.int .i64 0, .slice none 0 0]) := Try.zeroValue46
theorem tp_46 : TPlaces Try.prog 46 #[(0, 1), (1, 1)] #[.int .i64 0, .slice none 0 0] := tplaces Try.runUnderlying46 Try.zeroValue46 rfl (fun w => by kernel_rfl)
theorem ta_46 : TAgg Try.prog 46 2 := ⟨Try.isAgg46, Try.sizeOf46⟩
theorem ts_31 : TSlice Try.prog 31 3 1 := ⟨Try.underlying31, Try.sizeOf3⟩
theorem to_3 : TOne Try.prog 3 := ⟨Try.isAgg3, Try.sizeOf3⟩
theorem fa_46_1 : FieldAt Try.prog 46 1 1 := fun a w => by kernel_rfl
theorem to_44 : TOne Try.prog 44 := ⟨Try.isAgg44, Try.sizeOf44⟩
theorem tp_67 : TPlaces Try.prog 67 #[(0, 1), (1, 1)] #[.int .i64 0, .int .i64 0] := tplaces Try.runUnderlying67 Try.zeroValue67 rfl (fun w => by kernel_rfl)
theorem tz_67 : TZero Try.prog 67 (.agg #[.int .i64 0, .int .i64 0]) := Try.zeroValue67
theorem ts_44 : TSlice Try.prog 44 67 2 := ⟨Try.underlying44, Try.sizeOf67⟩
theorem tl_44 : TLit Try.prog 44 67 2 #[.int .i64 0, .int .i64 0] := tlit ts_44 tz_67 rfl
theorem te_44 : TElem Try.prog 44 67 2 16 := ⟨Try.underlying44, ⟨Try.t67, .agg #[.int .i64 0, .int .i64 0], by kernel_rfl, by kernel_rfl, by kernel_rfl, by kernel_rfl, by kernel_rfl⟩, by decide⟩
theorem nfm_s_int {F : Fz} {h : Heap} (x : T_s_int) (s : SliceF F h 1 encI x.1 x.2) : (nf_s_int).p F h x := s
theorem nfi_s_int_0 {h : Heap} {x : T_s_int} (s : (nf_s_int).q h x) : SliceIs h 1 encI x.1 x.2 := s
theorem ts_83 : TSlice Try.prog 83 31 1 := ⟨Try.underlying83, Try.sizeOf31⟩
theorem to_31 : TOne Try.prog 31 := ⟨Try.isAgg31, Try.sizeOf31⟩
theorem en_63 (args : Array Value) (w : World) : (callFunc 63 args).run Try.prog w = .ok (.enter 63 args) w := by kernel_rfl
theorem te_31 : TElem Try.prog 31 3 1 8 := ⟨Try.underlying31, ⟨Try.t3, .int .i64 0, by kernel_rfl, by kernel_rfl, by kernel_rfl, by kernel_rfl, by kernel_rfl⟩, by decide⟩
theorem en_91 (args : Array Value) (w : World) : (callFunc 91 args).run Try.prog w = .ok (.enter 91 args) w := by kernel_rfl
theorem ta_67 : TAgg Try.prog 67 2 := ⟨Try.isAgg67, Try.sizeOf67⟩
theorem apv_100 {F : Fz} {os : List Ow} {h : Heap} {b : Nat} {sv : Value} {l : List T_api_Branch} (hS : St F os h) (hB : Blk h b (.cells #[sv] 44 (0, 0))) (hX : SliceIs h 2 e_api_Branch sv l) (hN : l.length * 16 ≤ 140737488355328) :
    HC Try.prog 100 #[.slice none 0 0, .func (.func 91) #[] #[.pointer (some ⟨b, 0, none⟩)]] h fun u h' => St F (Ow.own 67 2 e_api_Branch u l :: os) h' ∧ Kp F h F h' :=
  appendV_hc (enc := e_api_Branch) Try.func100 rfl rfl rfl Try.func91 rfl rfl rfl en_91 te_44 ts_44 ta_67 to_44 tz_67 rfl tl_44 (by decide) (fun _ => rfl) (by intro a u hu; simp [e_api_Branch, encI, encN, encB, encT] at hu; rcases hu with rfl | rfl <;> rfl) hS hB hX hN
theorem en_100 (args : Array Value) (w : World) : (callFunc 100 args).run Try.prog w = .ok (.enter 100 args) w := by kernel_rfl
theorem en_89 (args : Array Value) (w : World) : (callFunc 89 args).run Try.prog w = .ok (.enter 89 args) w := by kernel_rfl
theorem en_90 (args : Array Value) (w : World) : (callFunc 90 args).run Try.prog w = .ok (.enter 90 args) w := by kernel_rfl
theorem en_62 (args : Array Value) (w : World) : (callFunc 62 args).run Try.prog w = .ok (.enter 62 args) w := by kernel_rfl
theorem fa_67_0 : FieldAt Try.prog 67 0 0 := fun a w => by kernel_rfl
theorem fa_67_1 : FieldAt Try.prog 67 1 1 := fun a w => by kernel_rfl
theorem en_39 (args : Array Value) (w : World) : (callFunc 39 args).run Try.prog w = .ok (.enter 39 args) w := by kernel_rfl
theorem tz_3 : TZero Try.prog 3 (.int .i64 0) := Try.zeroValue3
theorem tl_31 : TLit Try.prog 31 3 1 #[.int .i64 0] := tlit ts_31 tz_3 rfl
theorem en_38 (args : Array Value) (w : World) : (callFunc 38 args).run Try.prog w = .ok (.enter 38 args) w := by kernel_rfl
theorem mixed : Try.prog.follows .mixedOrders = true := by kernel_rfl
theorem tz_31 : TZero Try.prog 31 (.slice none 0 0) := Try.zeroValue31
theorem tmk_90 : TMapK Try.prog 90 3 31 (.slice none 0 0) := ⟨Try.underlying90, tz_31⟩
theorem ka_3 : KeyAt Try.prog 3 kI := keyAt_of keyOk_int Try.underlying3
theorem en_69 (args : Array Value) (w : World) : (callFunc 69 args).run Try.prog w = .ok (.enter 69 args) w := by kernel_rfl
theorem tmk_110 : TMapK Try.prog 110 3 3 (.int .i64 0) := ⟨Try.underlying110, tz_3⟩
theorem fa_46_0 : FieldAt Try.prog 46 0 0 := fun a w => by kernel_rfl
theorem en_66 (args : Array Value) (w : World) : (callFunc 66 args).run Try.prog w = .ok (.enter 66 args) w := by kernel_rfl
theorem en_72 (args : Array Value) (w : World) : (callFunc 72 args).run Try.prog w = .ok (.enter 72 args) w := by kernel_rfl
theorem en_65 (args : Array Value) (w : World) : (callFunc 65 args).run Try.prog w = .ok (.enter 65 args) w := by kernel_rfl
theorem en_64 (args : Array Value) (w : World) : (callFunc 64 args).run Try.prog w = .ok (.enter 64 args) w := by kernel_rfl
theorem en_67 (args : Array Value) (w : World) : (callFunc 67 args).run Try.prog w = .ok (.enter 67 args) w := by kernel_rfl
theorem en_30 (args : Array Value) (w : World) : (callFunc 30 args).run Try.prog w = .ok (.enter 30 args) w := by kernel_rfl
theorem en_40 (args : Array Value) (w : World) : (callFunc 40 args).run Try.prog w = .ok (.enter 40 args) w := by kernel_rfl
theorem tl_83 : TLit Try.prog 83 31 1 #[.slice none 0 0] := tlit ts_83 tz_31 rfl
theorem en_41 (args : Array Value) (w : World) : (callFunc 41 args).run Try.prog w = .ok (.enter 41 args) w := by kernel_rfl
theorem en_42 (args : Array Value) (w : World) : (callFunc 42 args).run Try.prog w = .ok (.enter 42 args) w := by kernel_rfl
theorem en_94 (args : Array Value) (w : World) : (callFunc 94 args).run Try.prog w = .ok (.enter 94 args) w := by kernel_rfl
theorem en_78 (args : Array Value) (w : World) : (callFunc 78 args).run Try.prog w = .ok (.enter 78 args) w := by kernel_rfl
theorem en_58 (args : Array Value) (w : World) : (callFunc 58 args).run Try.prog w = .ok (.enter 58 args) w := by kernel_rfl
theorem en_19 (args : Array Value) (w : World) : (callFunc 19 args).run Try.prog w = .ok (.enter 19 args) w := by kernel_rfl
theorem en_31 (args : Array Value) (w : World) : (callFunc 31 args).run Try.prog w = .ok (.enter 31 args) w := by kernel_rfl
theorem en_10 (args : Array Value) (w : World) : (callFunc 10 args).run Try.prog w = .ok (.enter 10 args) w := by kernel_rfl
theorem en_12 (args : Array Value) (w : World) : (callFunc 12 args).run Try.prog w = .ok (.enter 12 args) w := by kernel_rfl
def plan_need_W (members : Int) (fan : Int) (Q : Int → Bool → Prop) : Prop :=
 (members ≤ fan → Q 0 true) ∧ (¬ (members ≤ fan) → (fan ≤ 1 → Q 0 false) ∧ (¬ (fan ≤ 1) → (I64 (members - fan)) ∧ ((I64 ((members - fan) + fan)) ∧ ((I64 (((members - fan) + fan) - 2)) ∧ ((I64 (fan - 1)) ∧ ((fan - 1 ≠ 0) ∧ ((I64 ((((members - fan) + fan) - 2).tdiv (fan - 1))) ∧ (Q ((((members - fan) + fan) - 2).tdiv (fan - 1)) true))))))))
set_option maxHeartbeats 40000000 in
set_option maxRecDepth 100000 in
theorem plan_need_walk {F : Fz} {fr : List Ow} {h0 : Heap} (members : Int) (fan : Int) (hS : St F (fr) h0)  {Q : Int → Bool → Prop} (hM : plan_need_W members fan Q) :
  HC Try.prog 29 #[.int .i64 members, .int .i64 fan] h0 fun u h' => ∃ (F' : Fz) (r0_1 : Int) (r1_1 : Bool), u = .tuple #[.int .i64 r0_1, .bool r1_1] ∧ Kp F h0 F' h' ∧ St F' (fr) h' ∧ Q r0_1 r1_1 := by
 unfold plan_need_W at hM
 have hK := Kp.refl F h0
 refine HC.of_HW (n := 22) Try.func29 rfl rfl (Nat.le_of_ble_eq_true rfl) ?_
 refine HW.seq ?_
 refine HW.region ?_
 refine oA (.int .i64 0) rfl rfl ?_
 refine oA (.bool false) rfl rfl ?_
 refine HO.nil (thenQ_normal (?_))
 refine HW.seq ?_
 refine HW.block ?_
 refine HW.seq ?_
 refine HW.region ?_
 refine oM (.int .i64 members) rfl rfl ?_
 refine oM (.int .i64 fan) rfl rfl ?_
 refine oV (.bool (decide (members ≤ fan))) (q_leq rfl rfl) rfl ?_
 refine oA (.bool (decide (members ≤ fan))) rfl rfl ?_
 refine HO.nil (thenQ_normal (?_))
 refine HW.cond (decide (members ≤ fan)) rfl (fun c_1 => ?_) (fun c_1 => ?_)
 ·
  replace hM := hM.1 (of_decide_eq_true c_1)
  refine HW.seq ?_
  refine HW.region ?_
  refine oA (.int .i64 0) rfl rfl ?_
  refine oA (.bool true) rfl rfl ?_
  refine HO.nil (thenQ_normal (?_))
  refine HW.ret (blockQ_ret (thenQ_ret (?_)))
  refine ⟨.inr rfl, .tuple #[.int .i64 0, .bool true], res2 rfl (rt rfl) (rt rfl), ?_⟩
  exact ⟨F, 0, true, rfl, hK, hS, hM⟩
 ·
  replace hM := hM.2 (of_decide_eq_false c_1)
  refine HW.seq ?_
  refine HW.region ?_
  refine oM (.int .i64 fan) rfl rfl ?_
  refine oV (.bool (decide (fan ≤ 1))) (q_leq rfl rfl) rfl ?_
  refine oA (.bool (decide (fan ≤ 1))) rfl rfl ?_
  refine HO.nil (thenQ_normal (?_))
  refine HW.cond (decide (fan ≤ 1)) rfl (fun c_2 => ?_) (fun c_2 => ?_)
  ·
   replace hM := hM.1 (of_decide_eq_true c_2)
   refine HW.seq ?_
   refine HW.region ?_
   refine oA (.int .i64 0) rfl rfl ?_
   refine oA (.bool false) rfl rfl ?_
   refine HO.nil (thenQ_normal (?_))
   refine HW.ret (blockQ_ret (thenQ_ret (?_)))
   refine ⟨.inr rfl, .tuple #[.int .i64 0, .bool false], res2 rfl (rt rfl) (rt rfl), ?_⟩
   exact ⟨F, 0, false, rfl, hK, hS, hM⟩
  ·
   replace hM := hM.2 (of_decide_eq_false c_2)
   refine HW.skip (blockQ_normal (thenQ_normal (?_)))
   refine HW.seq ?_
   refine HW.region ?_
   refine oM (.int .i64 members) rfl rfl ?_
   refine oM (.int .i64 fan) rfl rfl ?_
   obtain ⟨ho_1, hM⟩ := hM
   refine oV (.int .i64 (members - fan)) (q_subN _ rfl rfl rfl ho_1.1 ho_1.2) rfl ?_
   refine oM (.int .i64 fan) rfl rfl ?_
   obtain ⟨ho_2, hM⟩ := hM
   refine oV (.int .i64 ((members - fan) + fan)) (q_addN _ rfl rfl rfl ho_2.1 ho_2.2) rfl ?_
   obtain ⟨ho_3, hM⟩ := hM
   refine oV (.int .i64 (((members - fan) + fan) - 2)) (q_subN _ rfl rfl rfl ho_3.1 ho_3.2) rfl ?_
   refine oM (.int .i64 fan) rfl rfl ?_
   obtain ⟨ho_4, hM⟩ := hM
   refine oV (.int .i64 (fan - 1)) (q_subN _ rfl rfl rfl ho_4.1 ho_4.2) rfl ?_
   obtain ⟨ho_5, hM⟩ := hM
   obtain ⟨ho_6, hM⟩ := hM
   refine oV (.int .i64 ((((members - fan) + fan) - 2).tdiv (fan - 1))) (q_quoN _ rfl rfl ho_5 rfl ho_6.1 ho_6.2) rfl ?_
   refine oA (.int .i64 ((((members - fan) + fan) - 2).tdiv (fan - 1))) rfl rfl ?_
   refine oA (.bool true) rfl rfl ?_
   refine HO.nil (thenQ_normal (?_))
   refine HW.ret (?_)
   refine ⟨.inr rfl, .tuple #[.int .i64 ((((members - fan) + fan) - 2).tdiv (fan - 1)), .bool true], res2 rfl (rt rfl) (rt rfl), ?_⟩
   exact ⟨F, (((members - fan) + fan) - 2).tdiv (fan - 1), true, rfl, hK, hS, hM⟩

def plan_fits_W (members : Int) (services : Int) (fan : Int) (Q : Bool → Prop) : Prop :=
 plan_need_W members fan (fun r0_1 r1_1 => (r1_1 = true → Q (decide (r0_1 ≤ services))) ∧ (r1_1 = false → Q false))
set_option maxHeartbeats 40000000 in
set_option maxRecDepth 100000 in
theorem plan_fits_walk {F : Fz} {fr : List Ow} {h0 : Heap} (members : Int) (services : Int) (fan : Int) (hS : St F (fr) h0)  {Q : Bool → Prop} (hM : plan_fits_W members services fan Q) :
  HC Try.prog 30 #[.int .i64 members, .int .i64 services, .int .i64 fan] h0 fun u h' => ∃ (F' : Fz) (r_1 : Bool), u = .bool r_1 ∧ Kp F h0 F' h' ∧ St F' (fr) h' ∧ Q r_1 := by
 unfold plan_fits_W at hM
 have hK := Kp.refl F h0
 refine HC.of_HW (n := 21) Try.func30 rfl rfl (Nat.le_of_ble_eq_true rfl) ?_
 refine HW.seq ?_
 refine HW.region ?_
 refine oA (.bool false) rfl rfl ?_
 refine HO.nil (thenQ_normal (?_))
 refine HW.seq ?_
 refine HW.region ?_
 refine oM (.int .i64 members) rfl rfl ?_
 refine oM (.int .i64 fan) rfl rfl ?_
 refine HO.call (want_none) rfl (ec en_29 rfl rfl) (plan_need_walk (fr := (fr)) members fan hS hM) ?_
 rintro _ h_1 ⟨F_1, r0_1, r1_1, rfl, hk, hS, hM⟩
 replace hK := hK.trans hk
 refine oM (.tuple #[.int .i64 r0_1, .bool r1_1]) rfl rfl ?_
 refine oV (.int .i64 r0_1) (q_extract rfl rfl) rfl ?_
 refine oV (.bool r1_1) (q_extract rfl rfl) rfl ?_
 refine oA (.int .i64 r0_1) rfl rfl ?_
 refine oA (.bool r1_1) rfl rfl ?_
 refine HO.nil (thenQ_normal (?_))
 refine HW.seq ?_
 refine HW.region ?_
 refine oM (.bool r1_1) rfl rfl ?_
 refine oM (.bool r1_1) rfl rfl ?_
 rcases Bool.eq_false_or_eq_true r1_1 with c_1 | c_1
 ·
  replace hM := hM.1 c_1
  refine HO.val (v := .int .i64 r0_1) (want_by rfl rfl c_1) rfl (q_move rfl) ?_
  refine HO.val (v := .int .i64 services) (want_by rfl rfl c_1) rfl (q_move rfl) ?_
  refine HO.val (v := .bool (decide (r0_1 ≤ services))) (want_by rfl rfl c_1) rfl (q_leq rfl rfl) ?_
  refine oV (.bool (decide (r0_1 ≤ services))) (q_pickK true rfl c_1 rfl) rfl ?_
  refine oA (.bool (decide (r0_1 ≤ services))) rfl rfl ?_
  refine HO.nil (thenQ_normal (?_))
  refine HW.ret (?_)
  refine ⟨.inr rfl, .bool (decide (r0_1 ≤ services)), res1 rfl (rt rfl), ?_⟩
  exact ⟨F_1, decide (r0_1 ≤ services), rfl, hK, hS, hM⟩
 ·
  replace hM := hM.2 c_1
  refine HO.past (past_by rfl rfl c_1) rfl ?_
  refine HO.past (past_by rfl rfl c_1) rfl ?_
  refine HO.past (past_by rfl rfl c_1) rfl ?_
  refine oV (.bool false) (q_pickK false rfl c_1 rfl) rfl ?_
  refine oA (.bool false) rfl rfl ?_
  refine HO.nil (thenQ_normal (?_))
  refine HW.ret (?_)
  refine ⟨.inr rfl, .bool false, res1 rfl (rt rfl), ?_⟩
  exact ⟨F_1, false, rfl, hK, hS, hM⟩

def plan_star_l1 (root : Int) (members : List Int) (Q : Int → (List T_api_Branch) → Prop) (K_1 : (List T_api_Branch) → Int → Prop) (t_1_1 : List T_api_Branch) (n_1 : Int) : Prop :=
 (n_1 < (members.length : Int) → ((0 : Int) ≤ n_1 ∧ n_1 < (members.length : Int)) ∧ (((t_1_1.length + ([(root, (gi members n_1))] : List T_api_Branch).length) * 16 ≤ 140737488355328) ∧ ((I64 (n_1 + 1)) ∧ (K_1 (t_1_1 ++ ([(root, (gi members n_1))] : List T_api_Branch)) (n_1 + 1))))) ∧ (¬ (n_1 < (members.length : Int)) → Q root t_1_1)
def plan_star_W (root : Int) (members : List Int) (Q : Int → (List T_api_Branch) → Prop) : Prop :=
 loopW (fun (K_1 : (List T_api_Branch × Int) → Prop) (s : List T_api_Branch × Int) => plan_star_l1 root members Q (fun t_1_1 n_1 => K_1 (t_1_1, n_1)) s.1 s.2) ([], 0)
set_option maxHeartbeats 40000000 in
set_option maxRecDepth 100000 in
theorem plan_star_walk {F : Fz} {fr : List Ow} {h0 : Heap} (root : Int) (members : List Int) (vmembers : Value) (hS : St F (fr) h0) (hL_members : SliceF F h0 1 encI vmembers members) {Q : Int → (List T_api_Branch) → Prop} (hM : plan_star_W root members Q) :
  HC Try.prog 40 #[.int .i64 root, vmembers] h0 fun u h' => ∃ (F' : Fz) (r_0_1 : Int) (r_1_1 : List T_api_Branch) (vr_1_1 : Value), u = .agg #[.int .i64 r_0_1, vr_1_1] ∧ Kp F h0 F' h' ∧ St F' (Ow.own 67 2 e_api_Branch vr_1_1 r_1_1 :: fr) h' ∧ (SliceF F' h' 1 encI vmembers members) ∧ Q r_0_1 r_1_1 := by
 unfold plan_star_W at hM
 have hK := Kp.refl F h0
 refine HC.of_HW (n := 26) Try.func40 rfl rfl (Nat.le_of_ble_eq_true rfl) ?_
 refine HW.seq ?_
 refine HW.region ?_
 refine HO.eff (want_none) rfl (st_alloc (c := #[.int .i64 0, .slice none 0 0]) hS tz_46 rfl) ?_
 rintro _ h_1 ⟨b_1, rfl, hS, hk⟩
 replace hK := hK.trans hk
 replace hL_members := hL_members.kp hk
 refine HO.nil (thenQ_normal (?_))
 refine HW.seq ?_
 refine HW.region ?_
 refine oM (.int .i64 root) rfl rfl ?_
 refine oV (.agg #[.int .i64 root, .slice none 0 0]) (q_build tp_46 rfl) rfl ?_
 refine HO.eff (want_none) rfl (st_alloc (c := #[.int .i64 0, .slice none 0 0]) hS tz_46 rfl) ?_
 rintro _ h_2 ⟨b_2, rfl, hS, hk⟩
 replace hK := hK.trans hk
 replace hL_members := hL_members.kp hk
 refine HO.sto (want_none) rfl (st_storeAgg (c' := #[.int .i64 root, .slice none 0 0]) hS (i := 0) rfl ta_46 rfl rfl rfl (by simp [Value.oneCell']) (Nat.le_of_ble_eq_true rfl) rfl) ?_
 rintro h_3 ⟨hS, hk⟩
 replace hS : St F (Ow.box b_2 46 #[.int .i64 root, .slice none 0 0] :: Ow.box b_1 46 #[.int .i64 0, .slice none 0 0] :: fr) h_3 := hS
 replace hK := hK.trans hk
 replace hL_members := hL_members.kp hk
 refine HO.nil (thenQ_normal (?_))
 refine HW.seq ?_
 refine HW.seq ?_
 refine HW.region ?_
 refine oM (vmembers) rfl rfl ?_
 refine oV (.int .i64 (members.length : Int)) (q_len ts_31 (shp hL_members.is) rfl rfl) rfl ?_
 refine oM (.int .i64 0) rfl rfl ?_
 refine HO.nil (thenQ_normal (?_))
 refine HW.block ?_
 obtain ⟨I_1, m_1, hI_1, hR_1⟩ := hM
 replace hS := hS.nilOwn 67 2 e_api_Branch
 replace hS : St F (Ow.box b_1 46 #[.int .i64 0, .slice none 0 0] :: Ow.box b_2 46 #[.int .i64 root, .slice none 0 0] :: Ow.own 67 2 e_api_Branch (.slice none 0 0) ([] : List T_api_Branch) :: fr) h_3 := hS.perm2 [2, 1, 0] 3 rfl rfl
 refine HW.loop (S := List T_api_Branch × Int) (fun s f h => match s with | (t_1_1, n_1) => ∃ (F' : Fz) (vt_1_1 : Value), f 0 = .int .i64 root ∧ f 4 = .pointer (some ⟨b_1, 0, none⟩) ∧ f 5 = .pointer (some ⟨b_2, 0, none⟩) ∧ f 10 = vmembers ∧ f 11 = .int .i64 (members.length : Int) ∧ f 12 = .int .i64 n_1 ∧ Kp F h0 F' h ∧ St F' (Ow.box b_1 46 #[.int .i64 0, .slice none 0 0] :: Ow.box b_2 46 #[.int .i64 root, vt_1_1] :: Ow.own 67 2 e_api_Branch vt_1_1 t_1_1 :: fr) h ∧ (SliceF F' h 1 encI vmembers members) ∧ I_1 (t_1_1, n_1)) m_1 ([], 0) ⟨F, .slice none 0 0, rfl, rfl, rfl, rfl, rfl, rfl, hK, hS, hL_members, hI_1⟩ ?_
 rintro ⟨t_1_1, n_1⟩ f_1 h_4 ⟨F_1, vt_1_1, e0, e4, e5, e10, e11, e12, hK, hS, hL_members, hI0⟩
 obtain ⟨K_1, hKe_1⟩ : ∃ K : (List T_api_Branch) → Int → Prop, K = fun t_1_1' n_1' => I_1 (t_1_1', n_1') ∧ m_1 (t_1_1', n_1') < m_1 (t_1_1, n_1) := ⟨_, rfl⟩
 have hM : plan_star_l1 root members Q K_1 t_1_1 n_1 := by rw [hKe_1]; exact hR_1 (t_1_1, n_1) hI0
 unfold plan_star_l1 at hM
 refine HW.fr [(0, .int .i64 root), (4, .pointer (some ⟨b_1, 0, none⟩)), (5, .pointer (some ⟨b_2, 0, none⟩)), (10, vmembers), (11, .int .i64 (members.length : Int)), (12, .int .i64 n_1)] ⟨e0, e4, e5, e10, e11, e12, trivial⟩ ?_
 refine HW.seq ?_
 refine HW.region ?_
 refine oV (.bool (decide (n_1 < (members.length : Int)))) (q_lss rfl rfl) rfl ?_
 refine HO.nil (thenQ_normal (?_))
 refine HW.seq ?_
 refine HW.cond (decide (n_1 < (members.length : Int))) rfl (fun c_1 => ?_) (fun c_1 => ?_)
 ·
  replace hM := hM.1 (of_decide_eq_true c_1)
  refine HW.skip (thenQ_normal (?_))
  refine HW.seq ?_
  refine HW.block ?_
  refine HW.seq ?_
  refine HW.region ?_
  obtain ⟨ho_1, hM⟩ := hM
  refine oV (elemPtr 1 vmembers (n_1).toNat) (q_idx ts_31 hL_members.is rfl rfl ho_1) rfl ?_
  refine oV (.int .i64 (gi members n_1)) (q_ldElem to_3 hL_members.is rfl ho_1 rfl) rfl ?_
  refine oA (.int .i64 (gi members n_1)) rfl rfl ?_
  refine HO.nil (thenQ_normal (?_))
  refine HW.region ?_
  refine oV (.pointer (some ⟨b_2, 1, none⟩)) (q_fieldAddr fa_46_1 rfl rfl) rfl ?_
  refine oV (vt_1_1) (q_load to_44 rfl (Blk.cell (hS.box 1 rfl) rfl)) rfl ?_
  refine oM (.int .i64 root) rfl rfl ?_
  refine oM (.int .i64 (gi members n_1)) rfl rfl ?_
  refine oV (.agg #[.int .i64 root, .int .i64 (gi members n_1)]) (q_build tp_67 rfl) rfl ?_
  refine HO.eff (want_none) rfl (st_lit (enc := e_api_Branch) (cells := #[.int .i64 root, .int .i64 (gi members n_1)]) #[.int .i64 0, .int .i64 0] ([(root, (gi members n_1))] : List T_api_Branch) hS tl_44 (by decide) (by decide) (by kernel_rfl) (by kernel_rfl) rfl (by intro x hx; rfl) rfl) ?_
  rintro _ h_5 ⟨b_3, rfl, hS, hk⟩
  replace hK := hK.trans hk
  replace hL_members := hL_members.kp hk
  obtain ⟨ho_2, hM⟩ := hM
  refine HO.eff (want_none) rfl (st_append te_44 hS (i := 3) rfl (hS.own 0 rfl).slice rfl rfl rfl (by intro a _ u hu; simp [e_api_Branch, encI, encN, encB, encT] at hu; rcases hu with rfl | rfl <;> rfl) ho_2 (by omega)) ?_
  rintro v_1 h_6 ⟨hS, hk⟩
  replace hS : St F_1 (Ow.own 67 2 e_api_Branch (.slice (some ⟨b_3, 0, none⟩) 1 1) ([(root, (gi members n_1))] : List T_api_Branch) :: Ow.box b_1 46 #[.int .i64 0, .slice none 0 0] :: Ow.box b_2 46 #[.int .i64 root, vt_1_1] :: Ow.own 67 2 e_api_Branch v_1 (t_1_1 ++ ([(root, (gi members n_1))] : List T_api_Branch)) :: fr) h_6 := hS
  replace hK := hK.trans hk
  replace hL_members := hL_members.kp hk
  refine oV (.pointer (some ⟨b_2, 1, none⟩)) (q_fieldAddr fa_46_1 rfl rfl) rfl ?_
  refine HO.sto (want_none) rfl (st_store (c' := #[.int .i64 root, v_1]) hS (i := 2) rfl to_44 rfl rfl (shp (hS.own 3 rfl).slice).cells (shp (hS.own 3 rfl).slice).one (Nat.le_of_ble_eq_true rfl) rfl) ?_
  rintro h_7 ⟨hS, hk⟩
  replace hS : St F_1 (Ow.own 67 2 e_api_Branch (.slice (some ⟨b_3, 0, none⟩) 1 1) ([(root, (gi members n_1))] : List T_api_Branch) :: Ow.box b_1 46 #[.int .i64 0, .slice none 0 0] :: Ow.box b_2 46 #[.int .i64 root, v_1] :: Ow.own 67 2 e_api_Branch v_1 (t_1_1 ++ ([(root, (gi members n_1))] : List T_api_Branch)) :: fr) h_7 := hS
  replace hK := hK.trans hk
  replace hL_members := hL_members.kp hk
  refine HO.nil (blockQ_normal (thenQ_normal (?_)))
  refine HW.region ?_
  obtain ⟨ho_3, hM⟩ := hM
  refine oV (.int .i64 (n_1 + 1)) (q_addN _ rfl rfl rfl ho_3.1 ho_3.2) rfl ?_
  refine oM (.int .i64 (n_1 + 1)) rfl rfl ?_
  refine HO.nil (thenQ_normal (?_))
  replace hS : St F_1 (Ow.box b_1 46 #[.int .i64 0, .slice none 0 0] :: Ow.box b_2 46 #[.int .i64 root, v_1] :: Ow.own 67 2 e_api_Branch v_1 (t_1_1 ++ ([(root, (gi members n_1))] : List T_api_Branch)) :: fr) h_7 := hS.perm2 [1, 2, 3] 4 rfl rfl
  rw [hKe_1] at hM
  exact ⟨(t_1_1 ++ ([(root, (gi members n_1))] : List T_api_Branch), n_1 + 1), ⟨F_1, v_1, rfl, rfl, rfl, rfl, rfl, rfl, hK, hS, hL_members, hM.1⟩, hM.2⟩
 ·
  replace hM := hM.2 (of_decide_eq_false c_1)
  refine HW.exit (thenQ_exit (thenQ_exit (blockQ_exit (thenQ_normal (?_)))))
  refine HW.seq ?_
  refine HW.region ?_
  refine oV (.agg #[.int .i64 root, vt_1_1]) (q_loadAgg (cs := [.int .i64 root, vt_1_1]) ta_46 rfl rfl (Blk.cells (k := 2) (hS.box 1 rfl) rfl)) rfl ?_
  refine HO.sto (want_none) rfl (st_storeAgg (c' := #[.int .i64 root, vt_1_1]) hS (i := 0) rfl ta_46 rfl rfl rfl (List.forall_mem_cons.2 ⟨rfl, (List.forall_mem_cons.2 ⟨(shp (hS.own 2 rfl).slice).one, (fun _ h => by cases h)⟩)⟩) (Nat.le_of_ble_eq_true rfl) rfl) ?_
  rintro h_8 ⟨hS, hk⟩
  replace hS : St F_1 (Ow.box b_1 46 #[.int .i64 root, vt_1_1] :: Ow.box b_2 46 #[.int .i64 root, vt_1_1] :: Ow.own 67 2 e_api_Branch vt_1_1 t_1_1 :: fr) h_8 := hS
  replace hK := hK.trans hk
  replace hL_members := hL_members.kp hk
  refine HO.nil (thenQ_normal (?_))
  refine HW.ret (?_)
  refine ⟨.inr rfl, .agg #[.int .i64 root, vt_1_1], res1 rfl (rca (cs := [.int .i64 root, vt_1_1]) ta_46 rfl rfl (Blk.cells (k := 2) (hS.box 0 rfl) rfl)), ?_⟩
  replace hS : St F_1 (Ow.own 67 2 e_api_Branch vt_1_1 t_1_1 :: fr) h_8 := hS.perm2 [2] 3 rfl rfl
  exact ⟨F_1, root, t_1_1, vt_1_1, rfl, hK, hS, hL_members, hM⟩

def slices_Concat_s_int_int_l2 (slices : List T_s_int) (Q : (List Int) → Prop) (K_2 : (List Int) → Int → Prop) (newslice_1 : List Int) (n_2 : Int) : Prop :=
 (n_2 < (slices.length : Int) → ((0 : Int) ≤ n_2 ∧ n_2 < (slices.length : Int)) ∧ (((newslice_1.length + ((gi slices n_2).2).length) * 8 ≤ 140737488355328) ∧ ((I64 (n_2 + 1)) ∧ (K_2 (newslice_1 ++ ((gi slices n_2).2)) (n_2 + 1))))) ∧ (¬ (n_2 < (slices.length : Int)) → Q newslice_1)
def slices_Concat_s_int_int_l1 (slices : List T_s_int) (Q : (List Int) → Prop) (K_1 : Int → Int → Prop) (size_1 : Int) (n_1 : Int) : Prop :=
 (n_1 < (slices.length : Int) → ((0 : Int) ≤ n_1 ∧ n_1 < (slices.length : Int)) ∧ ((I64 (size_1 + (((gi slices n_1).2).length : Int))) ∧ (((size_1 + (((gi slices n_1).2).length : Int)) < 0 → False) ∧ (¬ ((size_1 + (((gi slices n_1).2).length : Int)) < 0) → (I64 (n_1 + 1)) ∧ (K_1 (size_1 + (((gi slices n_1).2).length : Int)) (n_1 + 1)))))) ∧ (¬ (n_1 < (slices.length : Int)) → ((0 : Int) ≤ size_1 ∧ (size_1 : Int).toNat * 8 ≤ 140737488355328 ∧ size_1 ≤ 4611686018427387904) ∧ (loopW (fun (K_2 : (List Int × Int) → Prop) (s : List Int × Int) => slices_Concat_s_int_int_l2 slices Q (fun newslice_1 n_2 => K_2 (newslice_1, n_2)) s.1 s.2) ([], 0)))
def slices_Concat_s_int_int_W (slices : List T_s_int) (Q : (List Int) → Prop) : Prop :=
 loopW (fun (K_1 : (Int × Int) → Prop) (s : Int × Int) => slices_Concat_s_int_int_l1 slices Q (fun size_1 n_1 => K_1 (size_1, n_1)) s.1 s.2) (0, 0)
set_option maxHeartbeats 40000000 in
set_option maxRecDepth 100000 in
theorem slices_Concat_s_int_int_walk {F : Fz} {fr : List Ow} {h0 : Heap} (slices : List T_s_int) (vslices : Value) (hS : St F (fr) h0) (hN_slices : NfL nf_s_int F h0 slices) (hL_slices : SliceF F h0 1 e_s_int vslices slices) (hD : DM.on = false) {Q : (List Int) → Prop} (hM : slices_Concat_s_int_int_W slices Q) :
  HC Try.prog 41 #[vslices] h0 fun u h' => ∃ (F' : Fz) (r_1 : List Int) (vr_1 : Value), u = vr_1 ∧ Kp F h0 F' h' ∧ St F' (Ow.own 3 1 encI vr_1 r_1 :: fr) h' ∧ (NfL nf_s_int F' h' slices) ∧ (SliceF F' h' 1 e_s_int vslices slices) ∧ Q r_1 := by
 unfold slices_Concat_s_int_int_W at hM
 have hK := Kp.refl F h0
 refine HC.of_HW (n := 36) Try.func41 rfl rfl (Nat.le_of_ble_eq_true rfl) ?_
 refine HW.seq ?_
 refine HW.region ?_
 refine oA (.slice none 0 0) rfl rfl ?_
 refine HO.nil (thenQ_normal (?_))
 refine HW.seq ?_
 refine HW.region ?_
 refine oA (.int .i64 0) rfl rfl ?_
 refine HO.nil (thenQ_normal (?_))
 refine HW.seq ?_
 refine HW.seq ?_
 refine HW.region ?_
 refine oM (vslices) rfl rfl ?_
 refine oV (.int .i64 (slices.length : Int)) (q_len ts_83 (shp hL_slices.is) rfl rfl) rfl ?_
 refine oM (.int .i64 0) rfl rfl ?_
 refine HO.nil (thenQ_normal (?_))
 refine HW.block ?_
 obtain ⟨I_1, m_1, hI_1, hR_1⟩ := hM
 refine HW.loop (S := Int × Int) (fun s f h => match s with | (size_1, n_1) => ∃ (F' : Fz), f 0 = vslices ∧ f 2 = .slice none 0 0 ∧ f 3 = .int .i64 size_1 ∧ f 9 = vslices ∧ f 10 = .int .i64 (slices.length : Int) ∧ f 11 = .int .i64 n_1 ∧ Kp F h0 F' h ∧ St F' (fr) h ∧ (NfL nf_s_int F' h slices) ∧ (SliceF F' h 1 e_s_int vslices slices) ∧ I_1 (size_1, n_1)) m_1 (0, 0) ⟨F, rfl, rfl, rfl, rfl, rfl, rfl, hK, hS, hN_slices, hL_slices, hI_1⟩ ?_
 rintro ⟨size_1, n_1⟩ f_1 h_1 ⟨F_1, e0, e2, e3, e9, e10, e11, hK, hS, hN_slices, hL_slices, hI0⟩
 obtain ⟨K_1, hKe_1⟩ : ∃ K : Int → Int → Prop, K = fun size_1' n_1' => I_1 (size_1', n_1') ∧ m_1 (size_1', n_1') < m_1 (size_1, n_1) := ⟨_, rfl⟩
 have hM : slices_Concat_s_int_int_l1 slices Q K_1 size_1 n_1 := by rw [hKe_1]; exact hR_1 (size_1, n_1) hI0
 unfold slices_Concat_s_int_int_l1 at hM
 refine HW.fr [(0, vslices), (2, .slice none 0 0), (3, .int .i64 size_1), (9, vslices), (10, .int .i64 (slices.length : Int)), (11, .int .i64 n_1)] ⟨e0, e2, e3, e9, e10, e11, trivial⟩ ?_
 refine HW.seq ?_
 refine HW.region ?_
 refine oV (.bool (decide (n_1 < (slices.length : Int)))) (q_lss rfl rfl) rfl ?_
 refine HO.nil (thenQ_normal (?_))
 refine HW.seq ?_
 refine HW.cond (decide (n_1 < (slices.length : Int))) rfl (fun c_1 => ?_) (fun c_1 => ?_)
 ·
  replace hM := hM.1 (of_decide_eq_true c_1)
  refine HW.skip (thenQ_normal (?_))
  refine HW.seq ?_
  refine HW.block ?_
  refine HW.seq ?_
  refine HW.region ?_
  obtain ⟨ho_1, hM⟩ := hM
  refine oV (elemPtr 1 vslices (n_1).toNat) (q_idx ts_83 hL_slices.is rfl rfl ho_1) rfl ?_
  refine oV ((gi slices n_1).1) (q_ldElem to_31 hL_slices.is rfl ho_1 rfl) rfl ?_
  refine oA ((gi slices n_1).1) rfl rfl ?_
  refine HO.nil (thenQ_normal (?_))
  refine HW.seq ?_
  refine HW.region ?_
  refine oM (.int .i64 size_1) rfl rfl ?_
  refine oM ((gi slices n_1).1) rfl rfl ?_
  refine oV (.int .i64 (((gi slices n_1).2).length : Int)) (q_len ts_31 (shp (nfi_s_int_0 (NfI.at hN_slices.is ho_1))) rfl rfl) rfl ?_
  obtain ⟨ho_2, hM⟩ := hM
  refine oV (.int .i64 (size_1 + (((gi slices n_1).2).length : Int))) (q_addN _ rfl rfl rfl ho_2.1 ho_2.2) rfl ?_
  refine oA (.int .i64 (size_1 + (((gi slices n_1).2).length : Int))) rfl rfl ?_
  refine HO.nil (thenQ_normal (?_))
  refine HW.seq ?_
  refine HW.region ?_
  refine oM (.int .i64 (size_1 + (((gi slices n_1).2).length : Int))) rfl rfl ?_
  refine oV (.bool (decide ((size_1 + (((gi slices n_1).2).length : Int)) < 0))) (q_lss rfl rfl) rfl ?_
  refine HO.nil (thenQ_normal (?_))
  refine HW.cond (decide ((size_1 + (((gi slices n_1).2).length : Int)) < 0)) rfl (fun c_2 => ?_) (fun c_2 => ?_)
  ·
   replace hM := hM.1 (of_decide_eq_true c_2)
   refine HW.region ?_
   refine oV (.iface 9 (.string (bs [108, 101, 110, 32, 111, 117, 116, 32, 111, 102, 32, 114, 97, 110, 103, 101]))) (q_mkIfaceS Try.underlying9 rfl) rfl ?_
   exact hM.elim
  ·
   replace hM := hM.2 (of_decide_eq_false c_2)
   refine HW.skip (blockQ_normal (thenQ_normal (?_)))
   refine HW.region ?_
   obtain ⟨ho_3, hM⟩ := hM
   refine oV (.int .i64 (n_1 + 1)) (q_addN _ rfl rfl rfl ho_3.1 ho_3.2) rfl ?_
   refine oM (.int .i64 (n_1 + 1)) rfl rfl ?_
   refine HO.nil (thenQ_normal (?_))
   rw [hKe_1] at hM
   exact ⟨(size_1 + (((gi slices n_1).2).length : Int), n_1 + 1), ⟨F_1, rfl, rfl, rfl, rfl, rfl, rfl, hK, hS, hN_slices, hL_slices, hM.1⟩, hM.2⟩
 ·
  replace hM := hM.2 (of_decide_eq_false c_1)
  refine HW.exit (thenQ_exit (thenQ_exit (blockQ_exit (thenQ_normal (?_)))))
  refine HW.seq ?_
  refine HW.region ?_
  refine oM (.int .i64 size_1) rfl rfl ?_
  obtain ⟨ho_4, hM⟩ := hM
  refine HO.call (want_none) rfl (ec en_63 rfl rfl) (growNil_hc (enc := encI) hD Try.growI te_31 rfl ho_4.1 ho_4.2.1 ho_4.2.2 hS) ?_
  rintro v_1 h_2 ⟨hS, hk⟩
  replace hS : St F_1 (Ow.own 3 1 encI v_1 ([] : List Int) :: fr) h_2 := hS
  replace hK := hK.trans hk
  replace hN_slices := hN_slices.kp hk
  replace hL_slices := hL_slices.kp hk
  refine oA (v_1) rfl rfl ?_
  refine HO.nil (thenQ_normal (?_))
  refine HW.seq ?_
  refine HW.seq ?_
  refine HW.region ?_
  refine oM (vslices) rfl rfl ?_
  refine oV (.int .i64 (slices.length : Int)) (q_len ts_83 (shp hL_slices.is) rfl rfl) rfl ?_
  refine oM (.int .i64 0) rfl rfl ?_
  refine HO.nil (thenQ_normal (?_))
  refine HW.block ?_
  obtain ⟨I_2, m_2, hI_2, hR_2⟩ := hM
  refine HW.loop (S := List Int × Int) (fun s f h => match s with | (newslice_1, n_2) => ∃ (F' : Fz) (vnewslice_1 : Value), f 2 = .slice none 0 0 ∧ f 6 = vnewslice_1 ∧ f 25 = vslices ∧ f 26 = .int .i64 (slices.length : Int) ∧ f 27 = .int .i64 n_2 ∧ Kp F h0 F' h ∧ St F' (Ow.own 3 1 encI vnewslice_1 newslice_1 :: fr) h ∧ (NfL nf_s_int F' h slices) ∧ (SliceF F' h 1 e_s_int vslices slices) ∧ I_2 (newslice_1, n_2)) m_2 ([], 0) ⟨F_1, v_1, rfl, rfl, rfl, rfl, rfl, hK, hS, hN_slices, hL_slices, hI_2⟩ ?_
  rintro ⟨newslice_1, n_2⟩ f_2 h_3 ⟨F_2, vnewslice_1, e2, e6, e25, e26, e27, hK, hS, hN_slices, hL_slices, hI0⟩
  obtain ⟨K_2, hKe_2⟩ : ∃ K : (List Int) → Int → Prop, K = fun newslice_1' n_2' => I_2 (newslice_1', n_2') ∧ m_2 (newslice_1', n_2') < m_2 (newslice_1, n_2) := ⟨_, rfl⟩
  have hM : slices_Concat_s_int_int_l2 slices Q K_2 newslice_1 n_2 := by rw [hKe_2]; exact hR_2 (newslice_1, n_2) hI0
  unfold slices_Concat_s_int_int_l2 at hM
  refine HW.fr [(2, .slice none 0 0), (6, vnewslice_1), (25, vslices), (26, .int .i64 (slices.length : Int)), (27, .int .i64 n_2)] ⟨e2, e6, e25, e26, e27, trivial⟩ ?_
  refine HW.seq ?_
  refine HW.region ?_
  refine oV (.bool (decide (n_2 < (slices.length : Int)))) (q_lss rfl rfl) rfl ?_
  refine HO.nil (thenQ_normal (?_))
  refine HW.seq ?_
  refine HW.cond (decide (n_2 < (slices.length : Int))) rfl (fun c_3 => ?_) (fun c_3 => ?_)
  ·
   replace hM := hM.1 (of_decide_eq_true c_3)
   refine HW.skip (thenQ_normal (?_))
   refine HW.seq ?_
   refine HW.block ?_
   refine HW.seq ?_
   refine HW.region ?_
   obtain ⟨ho_5, hM⟩ := hM
   refine oV (elemPtr 1 vslices (n_2).toNat) (q_idx ts_83 hL_slices.is rfl rfl ho_5) rfl ?_
   refine oV ((gi slices n_2).1) (q_ldElem to_31 hL_slices.is rfl ho_5 rfl) rfl ?_
   refine oA ((gi slices n_2).1) rfl rfl ?_
   refine HO.nil (thenQ_normal (?_))
   refine HW.region ?_
   refine oM (vnewslice_1) rfl rfl ?_
   refine oM ((gi slices n_2).1) rfl rfl ?_
   obtain ⟨ho_6, hM⟩ := hM
   refine HO.eff (want_none) rfl (st_append te_31 hS (i := 0) rfl (nfi_s_int_0 (NfI.at hN_slices.is ho_5)) rfl rfl rfl (by intro a _ u hu; simp [encI, encI, encN, encB, encT] at hu; subst hu; rfl) ho_6 (by omega)) ?_
   rintro v_2 h_4 ⟨hS, hk⟩
   replace hS : St F_2 (Ow.own 3 1 encI v_2 (newslice_1 ++ ((gi slices n_2).2)) :: fr) h_4 := hS
   replace hK := hK.trans hk
   replace hN_slices := hN_slices.kp hk
   replace hL_slices := hL_slices.kp hk
   refine oA (v_2) rfl rfl ?_
   refine HO.nil (blockQ_normal (thenQ_normal (?_)))
   refine HW.region ?_
   obtain ⟨ho_7, hM⟩ := hM
   refine oV (.int .i64 (n_2 + 1)) (q_addN _ rfl rfl rfl ho_7.1 ho_7.2) rfl ?_
   refine oM (.int .i64 (n_2 + 1)) rfl rfl ?_
   refine HO.nil (thenQ_normal (?_))
   rw [hKe_2] at hM
   exact ⟨(newslice_1 ++ ((gi slices n_2).2), n_2 + 1), ⟨F_2, v_2, rfl, rfl, rfl, rfl, rfl, hK, hS, hN_slices, hL_slices, hM.1⟩, hM.2⟩
  ·
   replace hM := hM.2 (of_decide_eq_false c_3)
   refine HW.exit (thenQ_exit (thenQ_exit (blockQ_exit (thenQ_normal (?_)))))
   refine HW.seq ?_
   refine HW.region ?_
   refine oM (vnewslice_1) rfl rfl ?_
   refine oA (vnewslice_1) rfl rfl ?_
   refine HO.nil (thenQ_normal (?_))
   refine HW.ret (?_)
   refine ⟨.inr rfl, vnewslice_1, res1 rfl (rt rfl), ?_⟩
   exact ⟨F_2, newslice_1, vnewslice_1, rfl, hK, hS, hN_slices, hL_slices, hM⟩

def slices_Collect_api_Branch_W (seq : List T_api_Branch) (Q : (List T_api_Branch) → Prop) : Prop :=
 ((seq).length * 16 ≤ 140737488355328) ∧ (Q seq)
set_option maxHeartbeats 40000000 in
set_option maxRecDepth 100000 in
theorem slices_Collect_api_Branch_walk {F : Fz} {fr : List Ow} {h0 : Heap} (seq : List T_api_Branch) (bseq : Nat) (vseq : Value) (hS : St F (fr) h0) (hL_seq : SliceF F h0 2 e_api_Branch vseq seq) (hB_bseq : RoF (Ow.box bseq 44 #[vseq]) F h0) {Q : (List T_api_Branch) → Prop} (hM : slices_Collect_api_Branch_W seq Q) :
  HC Try.prog 89 #[.func (.func 91) #[] #[.pointer (some ⟨bseq, 0, none⟩)]] h0 fun u h' => ∃ (F' : Fz) (r_1 : List T_api_Branch) (vr_1 : Value), u = vr_1 ∧ Kp F h0 F' h' ∧ St F' (Ow.own 67 2 e_api_Branch vr_1 r_1 :: fr) h' ∧ (SliceF F' h' 2 e_api_Branch vseq seq) ∧ (RoF (Ow.box bseq 44 #[vseq]) F' h') ∧ Q r_1 := by
 unfold slices_Collect_api_Branch_W at hM
 have hK := Kp.refl F h0
 refine HC.of_HW (n := 5) Try.func89 rfl rfl (Nat.le_of_ble_eq_true rfl) ?_
 refine HW.seq ?_
 refine HW.region ?_
 refine oA (.slice none 0 0) rfl rfl ?_
 refine HO.nil (thenQ_normal (?_))
 refine HW.seq ?_
 refine HW.region ?_
 refine oM (.func (.func 91) #[] #[.pointer (some ⟨bseq, 0, none⟩)]) rfl rfl ?_
 obtain ⟨ho_1, hM⟩ := hM
 refine HO.call (want_none) rfl (ec en_100 rfl rfl) (apv_100 hS hB_bseq.box hL_seq.is ho_1) ?_
 rintro v_1 h_1 ⟨hS, hk⟩
 replace hS : St F (Ow.own 67 2 e_api_Branch v_1 seq :: fr) h_1 := hS
 replace hK := hK.trans hk
 replace hL_seq := hL_seq.kp hk
 replace hB_bseq := hB_bseq.kp hk
 refine oA (v_1) rfl rfl ?_
 refine HO.nil (thenQ_normal (?_))
 refine HW.ret (?_)
 refine ⟨.inr rfl, v_1, res1 rfl (rt rfl), ?_⟩
 exact ⟨F, seq, v_1, rfl, hK, hS, hL_seq, hB_bseq, hM⟩

def slices_SortedFunc_api_Branch_W (seq : List T_api_Branch) (cf_cmp : T_api_Branch → T_api_Branch → Int) (Q : (List T_api_Branch) → Prop) : Prop :=
 slices_Collect_api_Branch_W seq (fun r_2 => Swo cf_cmp ∧ (r_2).length < 4611686018427387904 ∧ ∀ l_1 : List T_api_Branch, List.Perm l_1 r_2 → List.Pairwise (fun x y => ¬ cf_cmp y x < 0) l_1 → (Q l_1))
set_option maxHeartbeats 40000000 in
set_option maxRecDepth 100000 in
theorem slices_SortedFunc_api_Branch_walk {F : Fz} {fr : List Ow} {h0 : Heap} (seq : List T_api_Branch) (cf_cmp : T_api_Branch → T_api_Branch → Int) (bseq : Nat) (vseq : Value) (g_cmp : Nat) (cs_cmp : Array Value) (hS : St F (fr) h0) (hL_seq : SliceF F h0 2 e_api_Branch vseq seq) (hB_bseq : RoF (Ow.box bseq 44 #[vseq]) F h0) (hF_cf_cmp : FnP Try.prog F h0 g_cmp #[] cs_cmp (fun x : T_api_Branch × T_api_Branch => [.agg #[.int .i64 x.1.1, .int .i64 x.1.2], .agg #[.int .i64 x.2.1, .int .i64 x.2.2]]) (fun x => .int .i64 (cf_cmp x.1 x.2))) {Q : (List T_api_Branch) → Prop} (hM : slices_SortedFunc_api_Branch_W seq cf_cmp Q) :
  HC Try.prog 64 #[.func (.func 91) #[] #[.pointer (some ⟨bseq, 0, none⟩)], .func (.func g_cmp) #[] cs_cmp] h0 fun u h' => ∃ (F' : Fz) (r_1 : List T_api_Branch) (vr_1 : Value), u = vr_1 ∧ Kp F h0 F' h' ∧ St F' (Ow.own 67 2 e_api_Branch vr_1 r_1 :: fr) h' ∧ (SliceF F' h' 2 e_api_Branch vseq seq) ∧ (RoF (Ow.box bseq 44 #[vseq]) F' h') ∧ (FnP Try.prog F' h' g_cmp #[] cs_cmp (fun x : T_api_Branch × T_api_Branch => [.agg #[.int .i64 x.1.1, .int .i64 x.1.2], .agg #[.int .i64 x.2.1, .int .i64 x.2.2]]) (fun x => .int .i64 (cf_cmp x.1 x.2))) ∧ Q r_1 := by
 unfold slices_SortedFunc_api_Branch_W at hM
 have hK := Kp.refl F h0
 refine HC.of_HW (n := 12) Try.func64 rfl rfl (Nat.le_of_ble_eq_true rfl) ?_
 refine HW.seq ?_
 refine HW.region ?_
 refine oA (.slice none 0 0) rfl rfl ?_
 refine HO.nil (thenQ_normal (?_))
 refine HW.seq ?_
 refine HW.region ?_
 refine oM (.func (.func 91) #[] #[.pointer (some ⟨bseq, 0, none⟩)]) rfl rfl ?_
 refine HO.call (want_none) rfl (ec en_89 rfl rfl) (slices_Collect_api_Branch_walk (fr := (fr)) seq bseq vseq hS hL_seq hB_bseq hM) ?_
 rintro vr_2 h_1 ⟨F_1, r_2, _, rfl, hk, hS, _, _, hM⟩
 replace hK := hK.trans hk
 replace hL_seq := hL_seq.kp hk
 replace hB_bseq := hB_bseq.kp hk
 replace hF_cf_cmp := hF_cf_cmp.kp hk
 refine oA (vr_2) rfl rfl ?_
 refine HO.nil (thenQ_normal (?_))
 refine HW.seq ?_
 refine HW.region ?_
 refine oM (vr_2) rfl rfl ?_
 refine oM (.func (.func g_cmp) #[] cs_cmp) rfl rfl ?_
 obtain ⟨ho_1, ho_2, hM⟩ := hM
 refine HO.call (want_none) rfl (ec en_90 rfl rfl) (sortFunc_own Try.sortBr (by decide) (fun w => by kernel_rfl) (fun w => by kernel_rfl) (enc := e_api_Branch) (fun _ => rfl) (by intro a u hu; simp [e_api_Branch, encI, encN, encB, encT] at hu; rcases hu with rfl | rfl <;> rfl) ho_1 hS hF_cf_cmp ho_2) ?_
 rintro _ h_2 ⟨l_1, rfl, hk, hS, hp_1, hs_1⟩
 replace hM := hM l_1 hp_1 hs_1
 replace hS : St F_1 (Ow.own 67 2 e_api_Branch vr_2 l_1 :: fr) h_2 := hS
 replace hK := hK.trans hk
 replace hL_seq := hL_seq.kp hk
 replace hB_bseq := hB_bseq.kp hk
 replace hF_cf_cmp := hF_cf_cmp.kp hk
 refine HO.nil (thenQ_normal (?_))
 refine HW.seq ?_
 refine HW.region ?_
 refine oM (vr_2) rfl rfl ?_
 refine oA (vr_2) rfl rfl ?_
 refine HO.nil (thenQ_normal (?_))
 refine HW.ret (?_)
 refine ⟨.inr rfl, vr_2, res1 rfl (rt rfl), ?_⟩
 exact ⟨F_1, l_1, vr_2, rfl, hK, hS, hL_seq, hB_bseq, hF_cf_cmp, hM⟩

def cmp_isNaN_int_W (x : Int) (Q : Bool → Prop) : Prop :=
 Q (!decide (x = x))
set_option maxHeartbeats 40000000 in
set_option maxRecDepth 100000 in
theorem cmp_isNaN_int_walk {F : Fz} {fr : List Ow} {h0 : Heap} (x : Int) (hS : St F (fr) h0)  {Q : Bool → Prop} (hM : cmp_isNaN_int_W x Q) :
  HC Try.prog 62 #[.int .i64 x] h0 fun u h' => ∃ (F' : Fz) (r_1 : Bool), u = .bool r_1 ∧ Kp F h0 F' h' ∧ St F' (fr) h' ∧ Q r_1 := by
 unfold cmp_isNaN_int_W at hM
 have hK := Kp.refl F h0
 refine HC.of_HW (n := 6) Try.func62 rfl rfl (Nat.le_of_ble_eq_true rfl) ?_
 refine HW.seq ?_
 refine HW.region ?_
 refine oA (.bool false) rfl rfl ?_
 refine HO.nil (thenQ_normal (?_))
 refine HW.seq ?_
 refine HW.region ?_
 refine oM (.int .i64 x) rfl rfl ?_
 refine oM (.int .i64 x) rfl rfl ?_
 refine oV (.bool (!decide (x = x))) (q_neq rfl rfl) rfl ?_
 refine oA (.bool (!decide (x = x))) rfl rfl ?_
 refine HO.nil (thenQ_normal (?_))
 refine HW.ret (?_)
 refine ⟨.inr rfl, .bool (!decide (x = x)), res1 rfl (rt rfl), ?_⟩
 exact ⟨F, !decide (x = x), rfl, hK, hS, hM⟩

def cmp_Compare_int_W (x : Int) (y : Int) (Q : Int → Prop) : Prop :=
 cmp_isNaN_int_W x (fun r_2 => cmp_isNaN_int_W y (fun r_3 => (r_2 = true → (r_3 = true → Q 0) ∧ (r_3 = false → Q (-1))) ∧ (r_2 = false → (r_3 = true → Q 1) ∧ (r_3 = false → (x < y → Q (-1)) ∧ (¬ (x < y) → (y < x → Q 1) ∧ (¬ (y < x) → Q 0))))))
set_option maxHeartbeats 40000000 in
set_option maxRecDepth 100000 in
theorem cmp_Compare_int_walk {F : Fz} {fr : List Ow} {h0 : Heap} (x : Int) (y : Int) (hS : St F (fr) h0)  {Q : Int → Prop} (hM : cmp_Compare_int_W x y Q) :
  HC Try.prog 39 #[.int .i64 x, .int .i64 y] h0 fun u h' => ∃ (F' : Fz) (r_1 : Int), u = .int .i64 r_1 ∧ Kp F h0 F' h' ∧ St F' (fr) h' ∧ Q r_1 := by
 unfold cmp_Compare_int_W at hM
 have hK := Kp.refl F h0
 refine HC.of_HW (n := 20) Try.func39 rfl rfl (Nat.le_of_ble_eq_true rfl) ?_
 refine HW.seq ?_
 refine HW.region ?_
 refine oA (.int .i64 0) rfl rfl ?_
 refine HO.nil (thenQ_normal (?_))
 refine HW.seq ?_
 refine HW.region ?_
 refine oM (.int .i64 x) rfl rfl ?_
 refine HO.call (want_none) rfl (ec en_62 rfl rfl) (cmp_isNaN_int_walk (fr := (fr)) x hS hM) ?_
 rintro _ h_1 ⟨F_1, r_2, rfl, hk, hS, hM⟩
 replace hK := hK.trans hk
 refine oA (.bool r_2) rfl rfl ?_
 refine HO.nil (thenQ_normal (?_))
 refine HW.seq ?_
 refine HW.region ?_
 refine oM (.int .i64 y) rfl rfl ?_
 refine HO.call (want_none) rfl (ec en_62 rfl rfl) (cmp_isNaN_int_walk (fr := (fr)) y hS hM) ?_
 rintro _ h_2 ⟨F_2, r_3, rfl, hk, hS, hM⟩
 replace hK := hK.trans hk
 refine oA (.bool r_3) rfl rfl ?_
 refine HO.nil (thenQ_normal (?_))
 refine HW.seq ?_
 refine HW.seq ?_
 refine HW.region ?_
 refine oM (.bool r_2) rfl rfl ?_
 refine HO.nil (thenQ_normal (?_))
 refine HW.cond r_2 rfl (fun c_1 => ?_) (fun c_1 => ?_)
 ·
  replace hM := hM.1 c_1
  refine HW.seq ?_
  refine HW.seq ?_
  refine HW.region ?_
  refine oM (.bool r_3) rfl rfl ?_
  refine HO.nil (thenQ_normal (?_))
  refine HW.cond r_3 rfl (fun c_2 => ?_) (fun c_2 => ?_)
  ·
   replace hM := hM.1 c_2
   refine HW.seq ?_
   refine HW.region ?_
   refine oA (.int .i64 0) rfl rfl ?_
   refine HO.nil (thenQ_normal (?_))
   refine HW.ret (thenQ_ret (thenQ_ret (?_)))
   refine ⟨.inr rfl, .int .i64 0, res1 rfl (rt rfl), ?_⟩
   exact ⟨F_2, 0, rfl, hK, hS, hM⟩
  ·
   replace hM := hM.2 c_2
   refine HW.skip (thenQ_normal (?_))
   refine HW.seq ?_
   refine HW.region ?_
   refine oA (.int .i64 (-1)) rfl rfl ?_
   refine HO.nil (thenQ_normal (?_))
   refine HW.ret (thenQ_ret (?_))
   refine ⟨.inr rfl, .int .i64 (-1), res1 rfl (rt rfl), ?_⟩
   exact ⟨F_2, (-1), rfl, hK, hS, hM⟩
 ·
  replace hM := hM.2 c_1
  refine HW.skip (thenQ_normal (?_))
  refine HW.seq ?_
  refine HW.seq ?_
  refine HW.region ?_
  refine oM (.bool r_3) rfl rfl ?_
  refine HO.nil (thenQ_normal (?_))
  refine HW.cond r_3 rfl (fun c_3 => ?_) (fun c_3 => ?_)
  ·
   replace hM := hM.1 c_3
   refine HW.seq ?_
   refine HW.region ?_
   refine oA (.int .i64 1) rfl rfl ?_
   refine HO.nil (thenQ_normal (?_))
   refine HW.ret (thenQ_ret (?_))
   refine ⟨.inr rfl, .int .i64 1, res1 rfl (rt rfl), ?_⟩
   exact ⟨F_2, 1, rfl, hK, hS, hM⟩
  ·
   replace hM := hM.2 c_3
   refine HW.skip (thenQ_normal (?_))
   refine HW.seq ?_
   refine HW.seq ?_
   refine HW.region ?_
   refine oM (.int .i64 x) rfl rfl ?_
   refine oM (.int .i64 y) rfl rfl ?_
   refine oV (.bool (decide (x < y))) (q_lss rfl rfl) rfl ?_
   refine HO.nil (thenQ_normal (?_))
   refine HW.cond (decide (x < y)) rfl (fun c_4 => ?_) (fun c_4 => ?_)
   ·
    replace hM := hM.1 (of_decide_eq_true c_4)
    refine HW.seq ?_
    refine HW.region ?_
    refine oA (.int .i64 (-1)) rfl rfl ?_
    refine HO.nil (thenQ_normal (?_))
    refine HW.ret (thenQ_ret (?_))
    refine ⟨.inr rfl, .int .i64 (-1), res1 rfl (rt rfl), ?_⟩
    exact ⟨F_2, (-1), rfl, hK, hS, hM⟩
   ·
    replace hM := hM.2 (of_decide_eq_false c_4)
    refine HW.skip (thenQ_normal (?_))
    refine HW.seq ?_
    refine HW.seq ?_
    refine HW.region ?_
    refine oM (.int .i64 x) rfl rfl ?_
    refine oM (.int .i64 y) rfl rfl ?_
    refine oV (.bool (decide (y < x))) (q_gtr rfl rfl) rfl ?_
    refine HO.nil (thenQ_normal (?_))
    refine HW.cond (decide (y < x)) rfl (fun c_5 => ?_) (fun c_5 => ?_)
    ·
     replace hM := hM.1 (of_decide_eq_true c_5)
     refine HW.seq ?_
     refine HW.region ?_
     refine oA (.int .i64 1) rfl rfl ?_
     refine HO.nil (thenQ_normal (?_))
     refine HW.ret (thenQ_ret (?_))
     refine ⟨.inr rfl, .int .i64 1, res1 rfl (rt rfl), ?_⟩
     exact ⟨F_2, 1, rfl, hK, hS, hM⟩
    ·
     replace hM := hM.2 (of_decide_eq_false c_5)
     refine HW.skip (thenQ_normal (?_))
     refine HW.seq ?_
     refine HW.region ?_
     refine oA (.int .i64 0) rfl rfl ?_
     refine HO.nil (thenQ_normal (?_))
     refine HW.ret (?_)
     refine ⟨.inr rfl, .int .i64 0, res1 rfl (rt rfl), ?_⟩
     exact ⟨F_2, 0, rfl, hK, hS, hM⟩

def cmp_Or_int_l1 (vals : List Int) (Q : Int → Prop) (K_1 : Int → Prop) (n_1 : Int) : Prop :=
 (n_1 < (vals.length : Int) → ((0 : Int) ≤ n_1 ∧ n_1 < (vals.length : Int)) ∧ ((¬ ((gi vals n_1) = 0) → Q (gi vals n_1)) ∧ ((gi vals n_1) = 0 → (I64 (n_1 + 1)) ∧ (K_1 (n_1 + 1))))) ∧ (¬ (n_1 < (vals.length : Int)) → Q 0)
def cmp_Or_int_W (vals : List Int) (Q : Int → Prop) : Prop :=
 loopW (fun (K_1 : Int → Prop) (s : Int) => cmp_Or_int_l1 vals Q K_1 s) 0
set_option maxHeartbeats 40000000 in
set_option maxRecDepth 100000 in
theorem cmp_Or_int_walk {F : Fz} {fr : List Ow} {h0 : Heap} (vals : List Int) (vvals : Value) (hS : St F (fr) h0) (hL_vals : SliceF F h0 1 encI vvals vals) {Q : Int → Prop} (hM : cmp_Or_int_W vals Q) :
  HC Try.prog 38 #[vvals] h0 fun u h' => ∃ (F' : Fz) (r_1 : Int), u = .int .i64 r_1 ∧ Kp F h0 F' h' ∧ St F' (fr) h' ∧ (SliceF F' h' 1 encI vvals vals) ∧ Q r_1 := by
 unfold cmp_Or_int_W at hM
 have hK := Kp.refl F h0
 refine HC.of_HW (n := 18) Try.func38 rfl rfl (Nat.le_of_ble_eq_true rfl) ?_
 refine HW.seq ?_
 refine HW.region ?_
 refine oA (.int .i64 0) rfl rfl ?_
 refine HO.nil (thenQ_normal (?_))
 refine HW.seq ?_
 refine HW.region ?_
 refine oA (.int .i64 0) rfl rfl ?_
 refine HO.nil (thenQ_normal (?_))
 refine HW.seq ?_
 refine HW.seq ?_
 refine HW.region ?_
 refine oM (vvals) rfl rfl ?_
 refine oV (.int .i64 (vals.length : Int)) (q_len ts_31 (shp hL_vals.is) rfl rfl) rfl ?_
 refine oM (.int .i64 0) rfl rfl ?_
 refine HO.nil (thenQ_normal (?_))
 refine HW.block ?_
 obtain ⟨I_1, m_1, hI_1, hR_1⟩ := hM
 refine HW.loop (S := Int) (fun n_1 f h => ∃ (F' : Fz), f 2 = .int .i64 0 ∧ f 3 = .int .i64 0 ∧ f 6 = vvals ∧ f 7 = .int .i64 (vals.length : Int) ∧ f 8 = .int .i64 n_1 ∧ Kp F h0 F' h ∧ St F' (fr) h ∧ (SliceF F' h 1 encI vvals vals) ∧ I_1 n_1) m_1 0 ⟨F, rfl, rfl, rfl, rfl, rfl, hK, hS, hL_vals, hI_1⟩ ?_
 rintro n_1 f_1 h_1 ⟨F_1, e2, e3, e6, e7, e8, hK, hS, hL_vals, hI0⟩
 obtain ⟨K_1, hKe_1⟩ : ∃ K : Int → Prop, K = fun n_1' => I_1 n_1' ∧ m_1 n_1' < m_1 n_1 := ⟨_, rfl⟩
 have hM : cmp_Or_int_l1 vals Q K_1 n_1 := by rw [hKe_1]; exact hR_1 n_1 hI0
 unfold cmp_Or_int_l1 at hM
 refine HW.fr [(2, .int .i64 0), (3, .int .i64 0), (6, vvals), (7, .int .i64 (vals.length : Int)), (8, .int .i64 n_1)] ⟨e2, e3, e6, e7, e8, trivial⟩ ?_
 refine HW.seq ?_
 refine HW.region ?_
 refine oV (.bool (decide (n_1 < (vals.length : Int)))) (q_lss rfl rfl) rfl ?_
 refine HO.nil (thenQ_normal (?_))
 refine HW.seq ?_
 refine HW.cond (decide (n_1 < (vals.length : Int))) rfl (fun c_1 => ?_) (fun c_1 => ?_)
 ·
  replace hM := hM.1 (of_decide_eq_true c_1)
  refine HW.skip (thenQ_normal (?_))
  refine HW.seq ?_
  refine HW.block ?_
  refine HW.seq ?_
  refine HW.region ?_
  obtain ⟨ho_1, hM⟩ := hM
  refine oV (elemPtr 1 vvals (n_1).toNat) (q_idx ts_31 hL_vals.is rfl rfl ho_1) rfl ?_
  refine oV (.int .i64 (gi vals n_1)) (q_ldElem to_3 hL_vals.is rfl ho_1 rfl) rfl ?_
  refine oA (.int .i64 (gi vals n_1)) rfl rfl ?_
  refine HO.nil (thenQ_normal (?_))
  refine HW.seq ?_
  refine HW.region ?_
  refine oM (.int .i64 (gi vals n_1)) rfl rfl ?_
  refine oM (.int .i64 0) rfl rfl ?_
  refine oV (.bool (!decide ((gi vals n_1) = 0))) (q_neq rfl rfl) rfl ?_
  refine HO.nil (thenQ_normal (?_))
  refine HW.cond (!decide ((gi vals n_1) = 0)) rfl (fun c_2 => ?_) (fun c_2 => ?_)
  ·
   replace hM := hM.1 (nd_true c_2)
   refine HW.seq ?_
   refine HW.region ?_
   refine oM (.int .i64 (gi vals n_1)) rfl rfl ?_
   refine oA (.int .i64 (gi vals n_1)) rfl rfl ?_
   refine HO.nil (thenQ_normal (?_))
   refine HW.ret (blockQ_ret (thenQ_ret (thenQ_ret (blockQ_ret (thenQ_ret (?_))))))
   refine ⟨.inr rfl, .int .i64 (gi vals n_1), res1 rfl (rt rfl), ?_⟩
   exact ⟨F_1, (gi vals n_1), rfl, hK, hS, hL_vals, hM⟩
  ·
   replace hM := hM.2 (nd_false c_2)
   refine HW.skip (blockQ_normal (thenQ_normal (?_)))
   refine HW.region ?_
   obtain ⟨ho_2, hM⟩ := hM
   refine oV (.int .i64 (n_1 + 1)) (q_addN _ rfl rfl rfl ho_2.1 ho_2.2) rfl ?_
   refine oM (.int .i64 (n_1 + 1)) rfl rfl ?_
   refine HO.nil (thenQ_normal (?_))
   rw [hKe_1] at hM
   exact ⟨n_1 + 1, ⟨F_1, rfl, rfl, rfl, rfl, rfl, hK, hS, hL_vals, hM.1⟩, hM.2⟩
 ·
  replace hM := hM.2 (of_decide_eq_false c_1)
  refine HW.exit (thenQ_exit (thenQ_exit (blockQ_exit (thenQ_normal (?_)))))
  refine HW.seq ?_
  refine HW.region ?_
  refine oM (.int .i64 0) rfl rfl ?_
  refine oA (.int .i64 0) rfl rfl ?_
  refine HO.nil (thenQ_normal (?_))
  refine HW.ret (?_)
  refine ⟨.inr rfl, .int .i64 0, res1 rfl (rt rfl), ?_⟩
  exact ⟨F_1, 0, rfl, hK, hS, hL_vals, hM⟩

def tree_order_W (a : T_api_Branch) (b : T_api_Branch) (Q : Int → Prop) : Prop :=
 cmp_Compare_int_W a.1 b.1 (fun r_2 => cmp_Compare_int_W a.2 b.2 (fun r_3 => cmp_Or_int_W ([r_2, r_3] : List Int) (fun r_4 => Q r_4)))
set_option maxHeartbeats 40000000 in
set_option maxRecDepth 100000 in
theorem tree_order_walk {F : Fz} {fr : List Ow} {h0 : Heap} (a : T_api_Branch) (b : T_api_Branch) (hS : St F (fr) h0)  {Q : Int → Prop} (hM : tree_order_W a b Q) :
  HC Try.prog 66 #[.agg #[.int .i64 a.1, .int .i64 a.2], .agg #[.int .i64 b.1, .int .i64 b.2]] h0 fun u h' => ∃ (F' : Fz) (r_1 : Int), u = .int .i64 r_1 ∧ Kp F h0 F' h' ∧ St F' (fr) h' ∧ Q r_1 := by
 unfold tree_order_W at hM
 have hK := Kp.refl F h0
 refine HC.of_HW (n := 17) Try.func66 rfl rfl (Nat.le_of_ble_eq_true rfl) ?_
 refine HW.seq ?_
 refine HW.region ?_
 refine HO.eff (want_none) rfl (st_box (c := #[.int .i64 a.1, .int .i64 a.2]) (k' := 2) hS rfl rfl) ?_
 rintro _ h_1 ⟨b_1, rfl, hS, hk⟩
 replace hK := hK.trans hk
 refine HO.eff (want_none) rfl (st_box (c := #[.int .i64 b.1, .int .i64 b.2]) (k' := 2) hS rfl rfl) ?_
 rintro _ h_2 ⟨b_2, rfl, hS, hk⟩
 replace hK := hK.trans hk
 refine oA (.int .i64 0) rfl rfl ?_
 refine HO.nil (thenQ_normal (?_))
 refine HW.seq ?_
 refine HW.regionA 13 mixed (fun h => (Blk h b_2 (.cells #[.int .i64 b.1, .int .i64 b.2] 67 (0, 0))) ∧ (Blk h b_1 (.cells #[.int .i64 a.1, .int .i64 a.2] 67 (0, 0)))) [] (by kernel_rfl) ?_
 refine HA.val (k := 0) (v := .pointer (some ⟨b_1, 0, none⟩)) rfl rfl (by kernel_rfl) (by kernel_rfl) (want_none) rfl (fun _ ⟨c202, c201⟩ => q_fieldAddr fa_67_0 rfl rfl) ?_
 refine HA.val (k := 1) (v := .int .i64 a.1) rfl rfl (by kernel_rfl) (by kernel_rfl) (want_none) rfl (fun _ ⟨c202, c201⟩ => q_load to_3 rfl (Blk.cell c201 rfl)) ?_
 refine HA.val (k := 2) (v := .pointer (some ⟨b_2, 0, none⟩)) rfl rfl (by kernel_rfl) (by kernel_rfl) (want_none) rfl (fun _ ⟨c202, c201⟩ => q_fieldAddr fa_67_0 rfl rfl) ?_
 refine HA.val (k := 3) (v := .int .i64 b.1) rfl rfl (by kernel_rfl) (by kernel_rfl) (want_none) rfl (fun _ ⟨c202, c201⟩ => q_load to_3 rfl (Blk.cell c202 rfl)) ?_
 refine HA.val (k := 5) (v := .pointer (some ⟨b_1, 1, none⟩)) rfl rfl (by kernel_rfl) (by kernel_rfl) (want_none) rfl (fun _ ⟨c202, c201⟩ => q_fieldAddr fa_67_1 rfl rfl) ?_
 refine HA.val (k := 6) (v := .int .i64 a.2) rfl rfl (by kernel_rfl) (by kernel_rfl) (want_none) rfl (fun _ ⟨c202, c201⟩ => q_load to_3 rfl (Blk.cell c201 rfl)) ?_
 refine HA.val (k := 7) (v := .pointer (some ⟨b_2, 1, none⟩)) rfl rfl (by kernel_rfl) (by kernel_rfl) (want_none) rfl (fun _ ⟨c202, c201⟩ => q_fieldAddr fa_67_1 rfl rfl) ?_
 refine HA.val (k := 8) (v := .int .i64 b.2) rfl rfl (by kernel_rfl) (by kernel_rfl) (want_none) rfl (fun _ ⟨c202, c201⟩ => q_load to_3 rfl (Blk.cell c202 rfl)) ?_
 refine HA.one (k := 4) ⟨⟨(hS.box 0 rfl), (hS.box 1 rfl)⟩, (Go.Wk.at_nil _ _)⟩ (by kernel_rfl) ?_
 refine HS.call rfl (want_none) rfl (ec en_39 rfl rfl) (cmp_Compare_int_walk (fr := (Ow.box b_2 67 #[.int .i64 b.1, .int .i64 b.2] :: Ow.box b_1 67 #[.int .i64 a.1, .int .i64 a.2] :: fr)) a.1 b.1 hS hM) ?_
 rintro _ h_3 ⟨F_1, r_2, rfl, hk, hS, hM⟩
 replace hK := hK.trans hk
 refine HA.one (k := 9) ⟨⟨(hS.box 0 rfl), (hS.box 1 rfl)⟩, (Go.Wk.at_nil _ _)⟩ (by kernel_rfl) ?_
 refine HS.call rfl (want_none) rfl (ec en_39 rfl rfl) (cmp_Compare_int_walk (fr := (Ow.box b_2 67 #[.int .i64 b.1, .int .i64 b.2] :: Ow.box b_1 67 #[.int .i64 a.1, .int .i64 a.2] :: fr)) a.2 b.2 hS hM) ?_
 rintro _ h_4 ⟨F_2, r_3, rfl, hk, hS, hM⟩
 replace hK := hK.trans hk
 refine HA.one (k := 10) ⟨⟨(hS.box 0 rfl), (hS.box 1 rfl)⟩, (Go.Wk.at_nil _ _)⟩ (by kernel_rfl) ?_
 refine HS.eff rfl (want_none) rfl (st_lit (enc := encI) (cells := #[.int .i64 r_2, .int .i64 r_3]) #[.int .i64 0, .int .i64 0] ([r_2, r_3] : List Int) hS tl_31 (by decide) (by decide) (by kernel_rfl) (by kernel_rfl) rfl (by intro x hx; rfl) rfl) ?_
 rintro _ h_5 ⟨b_3, rfl, hS, hk⟩
 replace hK := hK.trans hk
 refine HA.one (k := 11) ⟨⟨(hS.box 1 rfl), (hS.box 2 rfl)⟩, (Go.Wk.at_nil _ _)⟩ (by kernel_rfl) ?_
 have hZ_1 := hS
 have hkz_1 := (hS.freeze).2
 replace hS := hS.freeze.1
 have hL_1 : SliceF (fun bz_ => F_2 bz_ ∨ (Ow.own 3 1 encI (.slice (some ⟨b_3, 0, none⟩) 2 2) ([r_2, r_3] : List Int)).foot bz_) h_5 1 encI (.slice (some ⟨b_3, 0, none⟩) 2 2) ([r_2, r_3] : List Int) := ⟨(hZ_1.own 0 rfl).slice, fun _ b hb => .inr hb⟩
 refine HS.call rfl (want_none) rfl (ec en_38 rfl rfl) (cmp_Or_int_walk (fr := (Ow.box b_2 67 #[.int .i64 b.1, .int .i64 b.2] :: Ow.box b_1 67 #[.int .i64 a.1, .int .i64 a.2] :: fr)) ([r_2, r_3] : List Int) (.slice (some ⟨b_3, 0, none⟩) 2 2) hS hL_1 hM) ?_
 rintro _ h_6 ⟨F_3, r_4, rfl, hk, hS, _, hM⟩
 obtain ⟨hS, hk⟩ := hZ_1.back hk hS
 generalize (fun bz_ => F_3 bz_ ∧ ¬ (Ow.own 3 1 encI (.slice (some ⟨b_3, 0, none⟩) 2 2) ([r_2, r_3] : List Int)).foot bz_) = F_4 at hS hk
 replace hK := hK.trans hk
 refine HA.val (k := 12) (v := .int .i64 r_4) rfl rfl (by kernel_rfl) (by kernel_rfl) (want_none) rfl (fun _ ⟨c202, c201⟩ => q_assign rfl) ?_
 refine HA.nil ⟨⟨(hS.box 1 rfl), (hS.box 2 rfl)⟩, (Go.Wk.at_nil _ _)⟩ (by kernel_rfl) (thenQ_normal (?_))
 refine HW.ret (?_)
 refine ⟨.inr rfl, .int .i64 r_4, res1 rfl (rt rfl), ?_⟩
 replace hS : St F_4 (fr) h_6 := hS.perm2 [] 3 rfl rfl
 exact ⟨F_4, r_4, rfl, hK, hS, hM⟩

def tree_nexts_l1 (t_Links : List T_api_Branch) (Q : (List (Int × Value × List Int)) → Prop) (K_1 : (List (Int × Value × List Int)) → Int → Prop) (out_1 : List (Int × Value × List Int)) (n_1 : Int) : Prop :=
 (n_1 < (t_Links.length : Int) → ((0 : Int) ≤ n_1 ∧ n_1 < (t_Links.length : Int)) ∧ (((((bagAt out_1 ((gi t_Links n_1).1)).2).length + ([(gi t_Links n_1).2] : List Int).length) * 8 ≤ 140737488355328) ∧ (∀ v_1 : Value, ((I64 (n_1 + 1)) ∧ (K_1 (mset out_1 ((gi t_Links n_1).1) (v_1, ((bagAt out_1 ((gi t_Links n_1).1)).2) ++ ([(gi t_Links n_1).2] : List Int))) (n_1 + 1)))))) ∧ (¬ (n_1 < (t_Links.length : Int)) → Q out_1)
def tree_nexts_W (t_Root : Int) (t_Links : List T_api_Branch) (Q : (List (Int × Value × List Int)) → Prop) : Prop :=
 loopW (fun (K_1 : ((List (Int × Value × List Int)) × Int) → Prop) (s : (List (Int × Value × List Int)) × Int) => tree_nexts_l1 t_Links Q (fun out_1 n_1 => K_1 (out_1, n_1)) s.1 s.2) ([], 0)
set_option maxHeartbeats 40000000 in
set_option maxRecDepth 100000 in
theorem tree_nexts_walk {F : Fz} {fr : List Ow} {h0 : Heap} (t_Root : Int) (t_Links : List T_api_Branch) (vt_Links : Value) (hS : St F (fr) h0) (hL_t_Links : SliceF F h0 2 e_api_Branch vt_Links t_Links) {Q : (List (Int × Value × List Int)) → Prop} (hM : tree_nexts_W t_Root t_Links Q) :
  HC Try.prog 69 #[.agg #[.int .i64 t_Root, vt_Links]] h0 fun u h' => ∃ (F' : Fz) (r_2 : List (Int × Value × List Int)) (r_1 : Nat), u = .map (some r_1) ∧ Kp F h0 F' h' ∧ St F' (Ow.bag r_1 kI 3 1 encI r_2 none :: fr) h' ∧ (SliceF F' h' 2 e_api_Branch vt_Links t_Links) ∧ Q r_2 := by
 unfold tree_nexts_W at hM
 have hK := Kp.refl F h0
 refine HC.of_HW (n := 27) Try.func69 rfl rfl (Nat.le_of_ble_eq_true rfl) ?_
 refine HW.seq ?_
 refine HW.region ?_
 refine HO.eff (want_none) rfl (st_box (c := #[.int .i64 t_Root, vt_Links]) (k' := 2) hS rfl rfl) ?_
 rintro _ h_1 ⟨b_1, rfl, hS, hk⟩
 replace hK := hK.trans hk
 replace hL_t_Links := hL_t_Links.kp hk
 refine oA (.map none) rfl rfl ?_
 refine HO.nil (thenQ_normal (?_))
 refine HW.seq ?_
 refine HW.region ?_
 refine HO.eff (want_none) rfl (st_makeBag (ek := kI) (E := 3) (kk := 1) (enc := encI) hS) ?_
 rintro _ h_2 ⟨r_3, rfl, hS, hk⟩
 replace hK := hK.trans hk
 replace hL_t_Links := hL_t_Links.kp hk
 refine oA (.map (some r_3)) rfl rfl ?_
 refine HO.nil (thenQ_normal (?_))
 refine HW.seq ?_
 refine HW.seq ?_
 refine HW.region ?_
 refine oV (.pointer (some ⟨b_1, 1, none⟩)) (q_fieldAddr fa_46_1 rfl rfl) rfl ?_
 refine oV (vt_Links) (q_load to_44 rfl (Blk.cell (hS.box 1 rfl) rfl)) rfl ?_
 refine oV (.int .i64 (t_Links.length : Int)) (q_len ts_44 (shp hL_t_Links.is) rfl rfl) rfl ?_
 refine oM (.int .i64 0) rfl rfl ?_
 refine HO.nil (thenQ_normal (?_))
 refine HW.block ?_
 obtain ⟨I_1, m_1, hI_1, hR_1⟩ := hM
 replace hS : St F (Ow.bag r_3 kI 3 1 encI ([] : List (Int × Value × List Int)) none :: fr) h_2 := hS.perm2 [0] 2 rfl rfl
 refine HW.loop (S := (List (Int × Value × List Int)) × Int) (fun s f h => match s with | (out_1, n_1) => ∃ (F' : Fz), f 2 = .map none ∧ f 3 = .map (some r_3) ∧ f 8 = vt_Links ∧ f 9 = .int .i64 (t_Links.length : Int) ∧ f 10 = .int .i64 n_1 ∧ Kp F h0 F' h ∧ St F' (Ow.bag r_3 kI 3 1 encI out_1 none :: fr) h ∧ (SliceF F' h 2 e_api_Branch vt_Links t_Links) ∧ I_1 (out_1, n_1)) m_1 ([], 0) ⟨F, rfl, rfl, rfl, rfl, rfl, hK, hS, hL_t_Links, hI_1⟩ ?_
 rintro ⟨out_1, n_1⟩ f_1 h_3 ⟨F_1, e2, e3, e8, e9, e10, hK, hS, hL_t_Links, hI0⟩
 obtain ⟨K_1, hKe_1⟩ : ∃ K : (List (Int × Value × List Int)) → Int → Prop, K = fun out_1' n_1' => I_1 (out_1', n_1') ∧ m_1 (out_1', n_1') < m_1 (out_1, n_1) := ⟨_, rfl⟩
 have hM : tree_nexts_l1 t_Links Q K_1 out_1 n_1 := by rw [hKe_1]; exact hR_1 (out_1, n_1) hI0
 unfold tree_nexts_l1 at hM
 refine HW.fr [(2, .map none), (3, .map (some r_3)), (8, vt_Links), (9, .int .i64 (t_Links.length : Int)), (10, .int .i64 n_1)] ⟨e2, e3, e8, e9, e10, trivial⟩ ?_
 refine HW.seq ?_
 refine HW.region ?_
 refine oV (.bool (decide (n_1 < (t_Links.length : Int)))) (q_lss rfl rfl) rfl ?_
 refine HO.nil (thenQ_normal (?_))
 refine HW.seq ?_
 refine HW.cond (decide (n_1 < (t_Links.length : Int))) rfl (fun c_1 => ?_) (fun c_1 => ?_)
 ·
  replace hM := hM.1 (of_decide_eq_true c_1)
  refine HW.skip (thenQ_normal (?_))
  refine HW.seq ?_
  refine HW.block ?_
  refine HW.seq ?_
  refine HW.region ?_
  obtain ⟨ho_1, hM⟩ := hM
  refine oV (elemPtr 2 vt_Links (n_1).toNat) (q_idx ts_44 hL_t_Links.is rfl rfl ho_1) rfl ?_
  refine oV (.agg #[.int .i64 ((gi t_Links n_1).1), .int .i64 ((gi t_Links n_1).2)]) (q_ldElemAgg (cs := [.int .i64 ((gi t_Links n_1).1), .int .i64 ((gi t_Links n_1).2)]) ta_67 hL_t_Links.is rfl ho_1 rfl) rfl ?_
  refine HO.eff (want_none) rfl (st_alloc (c := #[.int .i64 0, .int .i64 0]) hS tz_67 rfl) ?_
  rintro _ h_4 ⟨b_2, rfl, hS, hk⟩
  replace hK := hK.trans hk
  replace hL_t_Links := hL_t_Links.kp hk
  refine HO.sto (want_none) rfl (st_storeAgg (c' := #[.int .i64 ((gi t_Links n_1).1), .int .i64 ((gi t_Links n_1).2)]) hS (i := 0) rfl ta_67 rfl rfl rfl (by simp [Value.oneCell']) (Nat.le_of_ble_eq_true rfl) rfl) ?_
  rintro h_5 ⟨hS, hk⟩
  replace hS : St F_1 (Ow.box b_2 67 #[.int .i64 ((gi t_Links n_1).1), .int .i64 ((gi t_Links n_1).2)] :: Ow.bag r_3 kI 3 1 encI out_1 none :: fr) h_5 := hS
  replace hK := hK.trans hk
  replace hL_t_Links := hL_t_Links.kp hk
  refine HO.nil (thenQ_normal (?_))
  refine HW.regionA 12 mixed (fun h => (Blk h b_2 (.cells #[.int .i64 ((gi t_Links n_1).1), .int .i64 ((gi t_Links n_1).2)] 67 (0, 0)))) [(10, fun h => (BagIs h r_3 kI 3 1 encI out_1 none))] (by kernel_rfl) ?_
  refine HA.val (k := 0) (v := .map (some r_3)) rfl rfl (by kernel_rfl) (by kernel_rfl) (want_none) rfl (fun _ c355 => q_move rfl) ?_
  refine HA.val (k := 1) (v := .pointer (some ⟨b_2, 0, none⟩)) rfl rfl (by kernel_rfl) (by kernel_rfl) (want_none) rfl (fun _ c355 => q_fieldAddr fa_67_0 rfl rfl) ?_
  refine HA.val (k := 2) (v := .int .i64 ((gi t_Links n_1).1)) rfl rfl (by kernel_rfl) (by kernel_rfl) (want_none) rfl (fun _ c355 => q_load to_3 rfl (Blk.cell c355 rfl)) ?_
  refine HA.val (k := 3) (v := .map (some r_3)) rfl rfl (by kernel_rfl) (by kernel_rfl) (want_none) rfl (fun _ c355 => q_move rfl) ?_
  refine HA.val (k := 4) (v := .pointer (some ⟨b_2, 0, none⟩)) rfl rfl (by kernel_rfl) (by kernel_rfl) (want_none) rfl (fun _ c355 => q_fieldAddr fa_67_0 rfl rfl) ?_
  refine HA.val (k := 5) (v := .int .i64 ((gi t_Links n_1).1)) rfl rfl (by kernel_rfl) (by kernel_rfl) (want_none) rfl (fun _ c355 => q_load to_3 rfl (Blk.cell c355 rfl)) ?_
  refine Go.Wk.HA.valN (k := 6) (v := (bagAt out_1 ((gi t_Links n_1).1)).1) 0 10 (fun h => (BagIs h r_3 kI 3 1 encI out_1 none)) rfl rfl (by kernel_rfl) (by kernel_rfl) (want_none) rfl rfl (by kernel_rfl) (fun _ c355 c354 => (q_lookup (k := (gi t_Links n_1).1) ka_3 tmk_90 c354.map rfl rfl).of_eq (bagAt_v _ _)) ?_
  refine HA.val (k := 7) (v := .pointer (some ⟨b_2, 1, none⟩)) rfl rfl (by kernel_rfl) (by kernel_rfl) (want_none) rfl (fun _ c355 => q_fieldAddr fa_67_1 rfl rfl) ?_
  refine HA.val (k := 8) (v := .int .i64 ((gi t_Links n_1).2)) rfl rfl (by kernel_rfl) (by kernel_rfl) (want_none) rfl (fun _ c355 => q_load to_3 rfl (Blk.cell c355 rfl)) ?_
  refine HA.one (k := 9) ⟨(hS.box 0 rfl), (at_now (hS.bg 1 rfl) (Go.Wk.at_nil _ _))⟩ (by kernel_rfl) ?_
  refine HS.eff rfl (want_none) rfl (st_lit (enc := encI) (cells := #[.int .i64 ((gi t_Links n_1).2)]) #[.int .i64 0] ([(gi t_Links n_1).2] : List Int) hS tl_31 (by decide) (by decide) (by kernel_rfl) (by kernel_rfl) rfl (by intro x hx; rfl) rfl) ?_
  rintro _ h_6 ⟨b_3, rfl, hS, hk⟩
  replace hK := hK.trans hk
  replace hL_t_Links := hL_t_Links.kp hk
  refine HA.one (k := 10) ⟨(hS.box 1 rfl), (at_now (hS.bg 2 rfl) (Go.Wk.at_nil _ _))⟩ (by kernel_rfl) ?_
  replace hS := hS.bagTake 2 rfl ((gi t_Links n_1).1)
  replace hS : St F_1 (Ow.own 3 1 encI ((bagAt out_1 ((gi t_Links n_1).1)).1) ((bagAt out_1 ((gi t_Links n_1).1)).2) :: Ow.own 3 1 encI (.slice (some ⟨b_3, 0, none⟩) 1 1) ([(gi t_Links n_1).2] : List Int) :: Ow.box b_2 67 #[.int .i64 ((gi t_Links n_1).1), .int .i64 ((gi t_Links n_1).2)] :: Ow.bag r_3 kI 3 1 encI out_1 (some ((gi t_Links n_1).1)) :: fr) h_6 := hS
  obtain ⟨ho_2, hM⟩ := hM
  refine HS.eff rfl (want_none) rfl (st_append te_31 hS (i := 0) rfl (hS.own 1 rfl).slice rfl rfl rfl (by intro a _ u hu; simp [encI, encI, encN, encB, encT] at hu; subst hu; rfl) ho_2 (by omega)) ?_
  rintro v_1 h_7 ⟨hS, hk⟩
  replace hS : St F_1 (Ow.own 3 1 encI v_1 (((bagAt out_1 ((gi t_Links n_1).1)).2) ++ ([(gi t_Links n_1).2] : List Int)) :: Ow.own 3 1 encI (.slice (some ⟨b_3, 0, none⟩) 1 1) ([(gi t_Links n_1).2] : List Int) :: Ow.box b_2 67 #[.int .i64 ((gi t_Links n_1).1), .int .i64 ((gi t_Links n_1).2)] :: Ow.bag r_3 kI 3 1 encI out_1 (some ((gi t_Links n_1).1)) :: fr) h_7 := hS
  replace hK := hK.trans hk
  replace hL_t_Links := hL_t_Links.kp hk
  refine HA.one (k := 11) ⟨(hS.box 2 rfl), (at_done (by kernel_rfl) (Go.Wk.at_nil _ _))⟩ (by kernel_rfl) ?_
  refine HS.sto rfl (want_none) rfl (st_bagPut (k := (gi t_Links n_1).1) (i := 2) ka_3 tmk_90 hS rfl rfl rfl rfl) ?_
  rintro h_8 ⟨hS, hk⟩
  replace hM := hM v_1
  replace hS : St F_1 (Ow.own 3 1 encI (.slice (some ⟨b_3, 0, none⟩) 1 1) ([(gi t_Links n_1).2] : List Int) :: Ow.box b_2 67 #[.int .i64 ((gi t_Links n_1).1), .int .i64 ((gi t_Links n_1).2)] :: Ow.bag r_3 kI 3 1 encI (mset out_1 ((gi t_Links n_1).1) (v_1, ((bagAt out_1 ((gi t_Links n_1).1)).2) ++ ([(gi t_Links n_1).2] : List Int))) none :: fr) h_8 := hS
  replace hK := hK.trans hk
  replace hL_t_Links := hL_t_Links.kp hk
  refine HA.nil ⟨(hS.box 1 rfl), (at_done (by kernel_rfl) (Go.Wk.at_nil _ _))⟩ (by kernel_rfl) (blockQ_normal (thenQ_normal (?_)))
  refine HW.region ?_
  obtain ⟨ho_3, hM⟩ := hM
  refine oV (.int .i64 (n_1 + 1)) (q_addN _ rfl rfl rfl ho_3.1 ho_3.2) rfl ?_
  refine oM (.int .i64 (n_1 + 1)) rfl rfl ?_
  refine HO.nil (thenQ_normal (?_))
  replace hS : St F_1 (Ow.bag r_3 kI 3 1 encI (mset out_1 ((gi t_Links n_1).1) (v_1, ((bagAt out_1 ((gi t_Links n_1).1)).2) ++ ([(gi t_Links n_1).2] : List Int))) none :: fr) h_8 := hS.perm2 [2] 3 rfl rfl
  rw [hKe_1] at hM
  exact ⟨(mset out_1 ((gi t_Links n_1).1) (v_1, ((bagAt out_1 ((gi t_Links n_1).1)).2) ++ ([(gi t_Links n_1).2] : List Int)), n_1 + 1), ⟨F_1, rfl, rfl, rfl, rfl, rfl, hK, hS, hL_t_Links, hM.1⟩, hM.2⟩
 ·
  replace hM := hM.2 (of_decide_eq_false c_1)
  refine HW.exit (thenQ_exit (thenQ_exit (blockQ_exit (thenQ_normal (?_)))))
  refine HW.seq ?_
  refine HW.region ?_
  refine oM (.map (some r_3)) rfl rfl ?_
  refine oA (.map (some r_3)) rfl rfl ?_
  refine HO.nil (thenQ_normal (?_))
  refine HW.ret (?_)
  refine ⟨.inr rfl, .map (some r_3), res1 rfl (rt rfl), ?_⟩
  exact ⟨F_1, out_1, r_3, rfl, hK, hS, hL_t_Links, hM⟩

def tree_walk_l2 (r_2 : List (Int × Value × List Int)) (out_1 : List Int) (i_1 : Int) (K_1 : (List (Int × Int)) → (List Int) → Int → Prop) (K_2 : (List (Int × Int)) → (List Int) → Int → Prop) (seen_2 : List (Int × Int)) (out_2 : List Int) (n_1 : Int) : Prop :=
 (n_1 < (((bagAt r_2 (gi out_1 i_1)).2).length : Int) → ((0 : Int) ≤ n_1 ∧ n_1 < (((bagAt r_2 (gi out_1 i_1)).2).length : Int)) ∧ (((mget0 seen_2 (gi ((bagAt r_2 (gi out_1 i_1)).2) n_1)) = 0 → ((out_2.length + ([(gi ((bagAt r_2 (gi out_1 i_1)).2) n_1)] : List Int).length) * 8 ≤ 140737488355328) ∧ ((I64 (n_1 + 1)) ∧ (K_2 (mset seen_2 (gi ((bagAt r_2 (gi out_1 i_1)).2) n_1) 1) (out_2 ++ ([(gi ((bagAt r_2 (gi out_1 i_1)).2) n_1)] : List Int)) (n_1 + 1)))) ∧ (¬ ((mget0 seen_2 (gi ((bagAt r_2 (gi out_1 i_1)).2) n_1)) = 0) → (I64 (n_1 + 1)) ∧ (K_2 seen_2 out_2 (n_1 + 1))))) ∧ (¬ (n_1 < (((bagAt r_2 (gi out_1 i_1)).2).length : Int)) → (I64 (i_1 + 1)) ∧ (K_1 seen_2 out_2 (i_1 + 1)))
def tree_walk_l1 (Q : (List Int) → Prop) (r_2 : List (Int × Value × List Int)) (K_1 : (List (Int × Int)) → (List Int) → Int → Prop) (seen_1 : List (Int × Int)) (out_1 : List Int) (i_1 : Int) : Prop :=
 (i_1 < (out_1.length : Int) → ((0 : Int) ≤ i_1 ∧ i_1 < (out_1.length : Int)) ∧ (loopW (fun (K_2 : ((List (Int × Int)) × List Int × Int) → Prop) (s : (List (Int × Int)) × List Int × Int) => tree_walk_l2 r_2 out_1 i_1 K_1 (fun seen_2 out_2 n_1 => K_2 (seen_2, out_2, n_1)) s.1 s.2.1 s.2.2) (seen_1, out_1, 0))) ∧ (¬ (i_1 < (out_1.length : Int)) → Q out_1)
def tree_walk_W (t_Root : Int) (t_Links : List T_api_Branch) (from1 : Int) (Q : (List Int) → Prop) : Prop :=
 tree_nexts_W t_Root t_Links (fun r_2 => loopW (fun (K_1 : ((List (Int × Int)) × List Int × Int) → Prop) (s : (List (Int × Int)) × List Int × Int) => tree_walk_l1 Q r_2 (fun seen_1 out_1 i_1 => K_1 (seen_1, out_1, i_1)) s.1 s.2.1 s.2.2) (mset ([] : List (Int × Int)) from1 1, ([from1] : List Int), 0))
set_option maxHeartbeats 40000000 in
set_option maxRecDepth 100000 in
theorem tree_walk_walk {F : Fz} {fr : List Ow} {h0 : Heap} (t_Root : Int) (t_Links : List T_api_Branch) (from1 : Int) (vt_Links : Value) (hS : St F (fr) h0) (hL_t_Links : SliceF F h0 2 e_api_Branch vt_Links t_Links) {Q : (List Int) → Prop} (hM : tree_walk_W t_Root t_Links from1 Q) :
  HC Try.prog 72 #[.agg #[.int .i64 t_Root, vt_Links], .int .i64 from1] h0 fun u h' => ∃ (F' : Fz) (r_1 : List Int) (vr_1 : Value), u = vr_1 ∧ Kp F h0 F' h' ∧ St F' (Ow.own 3 1 encI vr_1 r_1 :: fr) h' ∧ (SliceF F' h' 2 e_api_Branch vt_Links t_Links) ∧ Q r_1 := by
 unfold tree_walk_W at hM
 have hK := Kp.refl F h0
 refine HC.of_HW (n := 47) Try.func72 rfl rfl (Nat.le_of_ble_eq_true rfl) ?_
 refine HW.seq ?_
 refine HW.region ?_
 refine HO.eff (want_none) rfl (st_box (c := #[.int .i64 t_Root, vt_Links]) (k' := 2) hS rfl rfl) ?_
 rintro _ h_1 ⟨b_1, rfl, hS, hk⟩
 replace hK := hK.trans hk
 replace hL_t_Links := hL_t_Links.kp hk
 refine oA (.slice none 0 0) rfl rfl ?_
 refine HO.nil (thenQ_normal (?_))
 refine HW.seq ?_
 refine HW.region ?_
 refine oV (.agg #[.int .i64 t_Root, vt_Links]) (q_loadAgg (cs := [.int .i64 t_Root, vt_Links]) ta_46 rfl rfl (Blk.cells (k := 2) (hS.box 0 rfl) rfl)) rfl ?_
 refine HO.call (want_none) rfl (ec en_69 rfl rfl) (tree_nexts_walk (fr := (Ow.box b_1 46 #[.int .i64 t_Root, vt_Links] :: fr)) t_Root t_Links vt_Links hS hL_t_Links hM) ?_
 rintro _ h_2 ⟨F_1, r_2, r_3, rfl, hk, hS, _, hM⟩
 replace hK := hK.trans hk
 replace hL_t_Links := hL_t_Links.kp hk
 obtain ⟨F_2, hS, hk, hN_1⟩ := hS.bagOpen
 replace hK := hK.trans hk
 replace hL_t_Links := hL_t_Links.kp hk
 refine oA (.map (some r_3)) rfl rfl ?_
 refine HO.nil (thenQ_normal (?_))
 refine HW.seq ?_
 refine HW.region ?_
 refine HO.eff (want_none) rfl (st_makeMap (κ := Int) (ν := Int) kI kI hS) ?_
 rintro _ h_3 ⟨r_4, rfl, hS, hk⟩
 replace hK := hK.trans hk
 replace hL_t_Links := hL_t_Links.kp hk
 replace hN_1 := hN_1.kp hk
 refine oM (.int .i64 from1) rfl rfl ?_
 refine HO.sto (want_none) rfl (es_insert <| st_mapUpdateK (k := from1) (v := 1) hS (i := 0) rfl ka_3 tmk_110 rfl rfl rfl) ?_
 rintro h_4 ⟨hS, hk⟩
 replace hS : St F_2 (Ow.map r_4 kI kI (mset ([] : List (Int × Int)) from1 1) :: Ow.map r_3 kI bagV r_2 :: Ow.box b_1 46 #[.int .i64 t_Root, vt_Links] :: fr) h_4 := hS
 replace hK := hK.trans hk
 replace hL_t_Links := hL_t_Links.kp hk
 replace hN_1 := hN_1.kp hk
 refine oM (.map (some r_4)) rfl rfl ?_
 refine oA (.map (some r_4)) rfl rfl ?_
 refine HO.nil (thenQ_normal (?_))
 refine HW.seq ?_
 refine HW.region ?_
 refine oM (.int .i64 from1) rfl rfl ?_
 refine HO.eff (want_none) rfl (st_lit (enc := encI) (cells := #[.int .i64 from1]) #[.int .i64 0] ([from1] : List Int) hS tl_31 (by decide) (by decide) (by kernel_rfl) (by kernel_rfl) rfl (by intro x hx; rfl) rfl) ?_
 rintro _ h_5 ⟨b_2, rfl, hS, hk⟩
 replace hK := hK.trans hk
 replace hL_t_Links := hL_t_Links.kp hk
 replace hN_1 := hN_1.kp hk
 refine oA (.slice (some ⟨b_2, 0, none⟩) 1 1) rfl rfl ?_
 refine HO.nil (thenQ_normal (?_))
 refine HW.seq ?_
 refine HW.seq ?_
 refine HW.region ?_
 refine oA (.int .i64 0) rfl rfl ?_
 refine HO.nil (thenQ_normal (?_))
 refine HW.block ?_
 obtain ⟨I_1, m_1, hI_1, hR_1⟩ := hM
 replace hS : St F_2 (Ow.map r_3 kI bagV r_2 :: Ow.map r_4 kI kI (mset ([] : List (Int × Int)) from1 1) :: Ow.own 3 1 encI (.slice (some ⟨b_2, 0, none⟩) 1 1) ([from1] : List Int) :: fr) h_5 := hS.perm2 [2, 1, 0] 4 rfl rfl
 refine HW.loop (S := (List (Int × Int)) × List Int × Int) (fun s f h => match s with | (seen_1, out_1, i_1) => ∃ (F' : Fz) (vout_1 : Value), f 4 = .slice none 0 0 ∧ f 5 = .map (some r_3) ∧ f 6 = .map (some r_4) ∧ f 7 = vout_1 ∧ f 8 = .int .i64 i_1 ∧ Kp F h0 F' h ∧ St F' (Ow.map r_3 kI bagV r_2 :: Ow.map r_4 kI kI seen_1 :: Ow.own 3 1 encI vout_1 out_1 :: fr) h ∧ (SliceF F' h 2 e_api_Branch vt_Links t_Links) ∧ (NfB 1 encI F' h r_2) ∧ I_1 (seen_1, out_1, i_1)) m_1 (mset ([] : List (Int × Int)) from1 1, ([from1] : List Int), 0) ⟨F_2, .slice (some ⟨b_2, 0, none⟩) 1 1, rfl, rfl, rfl, rfl, rfl, hK, hS, hL_t_Links, hN_1, hI_1⟩ ?_
 rintro ⟨seen_1, out_1, i_1⟩ f_1 h_6 ⟨F_3, vout_1, e4, e5, e6, e7, e8, hK, hS, hL_t_Links, hN_1, hI0⟩
 obtain ⟨K_1, hKe_1⟩ : ∃ K : (List (Int × Int)) → (List Int) → Int → Prop, K = fun seen_1' out_1' i_1' => I_1 (seen_1', out_1', i_1') ∧ m_1 (seen_1', out_1', i_1') < m_1 (seen_1, out_1, i_1) := ⟨_, rfl⟩
 have hM : tree_walk_l1 Q r_2 K_1 seen_1 out_1 i_1 := by rw [hKe_1]; exact hR_1 (seen_1, out_1, i_1) hI0
 unfold tree_walk_l1 at hM
 refine HW.fr [(4, .slice none 0 0), (5, .map (some r_3)), (6, .map (some r_4)), (7, vout_1), (8, .int .i64 i_1)] ⟨e4, e5, e6, e7, e8, trivial⟩ ?_
 refine HW.seq ?_
 refine HW.seq ?_
 refine HW.region ?_
 refine oM (.int .i64 i_1) rfl rfl ?_
 refine oM (vout_1) rfl rfl ?_
 refine oV (.int .i64 (out_1.length : Int)) (q_len ts_31 (shp (hS.own 2 rfl).slice) rfl rfl) rfl ?_
 refine oV (.bool (decide (i_1 < (out_1.length : Int)))) (q_lss rfl rfl) rfl ?_
 refine HO.nil (thenQ_normal (?_))
 refine HW.cond (decide (i_1 < (out_1.length : Int))) rfl (fun c_1 => ?_) (fun c_1 => ?_)
 ·
  replace hM := hM.1 (of_decide_eq_true c_1)
  refine HW.skip (thenQ_normal (?_))
  refine HW.seq ?_
  refine HW.block ?_
  refine HW.seq ?_
  refine HW.region ?_
  refine oM (.map (some r_3)) rfl rfl ?_
  refine oM (vout_1) rfl rfl ?_
  refine oM (.int .i64 i_1) rfl rfl ?_
  obtain ⟨ho_1, hM⟩ := hM
  refine oV (elemPtr 1 vout_1 (i_1).toNat) (q_idx ts_31 (hS.own 2 rfl).slice rfl rfl ho_1) rfl ?_
  refine oV (.int .i64 (gi out_1 i_1)) (q_ldElem to_3 (hS.own 2 rfl).slice rfl ho_1 rfl) rfl ?_
  have hL_1 : SliceF F_3 h_6 1 encI ((bagAt r_2 (gi out_1 i_1)).1) ((bagAt r_2 (gi out_1 i_1)).2) := hN_1.at_ (gi out_1 i_1)
  refine oV ((bagAt r_2 (gi out_1 i_1)).1) ((q_lookup (k := (gi out_1 i_1)) ka_3 tmk_90 (hS.mp 0 rfl) rfl rfl).of_eq (bagAt_v _ _)) rfl ?_
  refine oV (.int .i64 (((bagAt r_2 (gi out_1 i_1)).2).length : Int)) (q_len ts_31 (shp hL_1.is) rfl rfl) rfl ?_
  refine oM (.int .i64 0) rfl rfl ?_
  refine HO.nil (thenQ_normal (?_))
  refine HW.block ?_
  obtain ⟨I_2, m_2, hI_2, hR_2⟩ := hM
  refine HW.loop (S := (List (Int × Int)) × List Int × Int) (fun s f h => match s with | (seen_2, out_2, n_1) => ∃ (F' : Fz) (vout_2 : Value), f 4 = .slice none 0 0 ∧ f 5 = .map (some r_3) ∧ f 6 = .map (some r_4) ∧ f 7 = vout_2 ∧ f 8 = .int .i64 i_1 ∧ f 29 = (bagAt r_2 (gi out_1 i_1)).1 ∧ f 30 = .int .i64 (((bagAt r_2 (gi out_1 i_1)).2).length : Int) ∧ f 31 = .int .i64 n_1 ∧ Kp F h0 F' h ∧ St F' (Ow.map r_3 kI bagV r_2 :: Ow.map r_4 kI kI seen_2 :: Ow.own 3 1 encI vout_2 out_2 :: fr) h ∧ (SliceF F' h 2 e_api_Branch vt_Links t_Links) ∧ (NfB 1 encI F' h r_2) ∧ (SliceF F' h 1 encI ((bagAt r_2 (gi out_1 i_1)).1) ((bagAt r_2 (gi out_1 i_1)).2)) ∧ I_2 (seen_2, out_2, n_1)) m_2 (seen_1, out_1, 0) ⟨F_3, vout_1, rfl, rfl, rfl, rfl, rfl, rfl, rfl, rfl, hK, hS, hL_t_Links, hN_1, hL_1, hI_2⟩ ?_
  rintro ⟨seen_2, out_2, n_1⟩ f_2 h_7 ⟨F_4, vout_2, e4, e5, e6, e7, e8, e29, e30, e31, hK, hS, hL_t_Links, hN_1, hL_1, hI0⟩
  obtain ⟨K_2, hKe_2⟩ : ∃ K : (List (Int × Int)) → (List Int) → Int → Prop, K = fun seen_2' out_2' n_1' => I_2 (seen_2', out_2', n_1') ∧ m_2 (seen_2', out_2', n_1') < m_2 (seen_2, out_2, n_1) := ⟨_, rfl⟩
  have hM : tree_walk_l2 r_2 out_1 i_1 K_1 K_2 seen_2 out_2 n_1 := by rw [hKe_2]; exact hR_2 (seen_2, out_2, n_1) hI0
  unfold tree_walk_l2 at hM
  refine HW.fr [(4, .slice none 0 0), (5, .map (some r_3)), (6, .map (some r_4)), (7, vout_2), (8, .int .i64 i_1), (29, (bagAt r_2 (gi out_1 i_1)).1), (30, .int .i64 (((bagAt r_2 (gi out_1 i_1)).2).length : Int)), (31, .int .i64 n_1)] ⟨e4, e5, e6, e7, e8, e29, e30, e31, trivial⟩ ?_
  refine HW.seq ?_
  refine HW.region ?_
  refine oV (.bool (decide (n_1 < (((bagAt r_2 (gi out_1 i_1)).2).length : Int)))) (q_lss rfl rfl) rfl ?_
  refine HO.nil (thenQ_normal (?_))
  refine HW.seq ?_
  refine HW.cond (decide (n_1 < (((bagAt r_2 (gi out_1 i_1)).2).length : Int))) rfl (fun c_2 => ?_) (fun c_2 => ?_)
  ·
   replace hM := hM.1 (of_decide_eq_true c_2)
   refine HW.skip (thenQ_normal (?_))
   refine HW.seq ?_
   refine HW.block ?_
   refine HW.seq ?_
   refine HW.region ?_
   obtain ⟨ho_2, hM⟩ := hM
   refine oV (elemPtr 1 ((bagAt r_2 (gi out_1 i_1)).1) (n_1).toNat) (q_idx ts_31 hL_1.is rfl rfl ho_2) rfl ?_
   refine oV (.int .i64 (gi ((bagAt r_2 (gi out_1 i_1)).2) n_1)) (q_ldElem to_3 hL_1.is rfl ho_2 rfl) rfl ?_
   refine oA (.int .i64 (gi ((bagAt r_2 (gi out_1 i_1)).2) n_1)) rfl rfl ?_
   refine HO.nil (thenQ_normal (?_))
   refine HW.seq ?_
   refine HW.region ?_
   refine oM (.map (some r_4)) rfl rfl ?_
   refine oM (.int .i64 (gi ((bagAt r_2 (gi out_1 i_1)).2) n_1)) rfl rfl ?_
   refine oV (.int .i64 (mget0 seen_2 (gi ((bagAt r_2 (gi out_1 i_1)).2) n_1))) ((q_lookup (k := (gi ((bagAt r_2 (gi out_1 i_1)).2) n_1)) ka_3 tmk_110 (hS.mp 1 rfl) rfl rfl).of_eq (mval0 (z := .int .i64 0) rfl)) rfl ?_
   refine oV (.bool (decide ((mget0 seen_2 (gi ((bagAt r_2 (gi out_1 i_1)).2) n_1)) = 0))) (q_eql rfl rfl) rfl ?_
   refine HO.nil (thenQ_normal (?_))
   refine HW.cond (decide ((mget0 seen_2 (gi ((bagAt r_2 (gi out_1 i_1)).2) n_1)) = 0)) rfl (fun c_3 => ?_) (fun c_3 => ?_)
   ·
    replace hM := hM.1 (of_decide_eq_true c_3)
    refine HW.region ?_
    refine oM (.map (some r_4)) rfl rfl ?_
    refine oM (.int .i64 (gi ((bagAt r_2 (gi out_1 i_1)).2) n_1)) rfl rfl ?_
    refine oM (vout_2) rfl rfl ?_
    refine oM (.int .i64 (gi ((bagAt r_2 (gi out_1 i_1)).2) n_1)) rfl rfl ?_
    refine HO.eff (want_none) rfl (st_lit (enc := encI) (cells := #[.int .i64 (gi ((bagAt r_2 (gi out_1 i_1)).2) n_1)]) #[.int .i64 0] ([(gi ((bagAt r_2 (gi out_1 i_1)).2) n_1)] : List Int) hS tl_31 (by decide) (by decide) (by kernel_rfl) (by kernel_rfl) rfl (by intro x hx; rfl) rfl) ?_
    rintro _ h_8 ⟨b_3, rfl, hS, hk⟩
    replace hK := hK.trans hk
    replace hL_t_Links := hL_t_Links.kp hk
    replace hN_1 := hN_1.kp hk
    replace hL_1 := hL_1.kp hk
    obtain ⟨ho_3, hM⟩ := hM
    refine HO.eff (want_none) rfl (st_append te_31 hS (i := 3) rfl (hS.own 0 rfl).slice rfl rfl rfl (by intro a _ u hu; simp [encI, encI, encN, encB, encT] at hu; subst hu; rfl) ho_3 (by omega)) ?_
    rintro v_1 h_9 ⟨hS, hk⟩
    replace hS : St F_4 (Ow.own 3 1 encI (.slice (some ⟨b_3, 0, none⟩) 1 1) ([(gi ((bagAt r_2 (gi out_1 i_1)).2) n_1)] : List Int) :: Ow.map r_3 kI bagV r_2 :: Ow.map r_4 kI kI seen_2 :: Ow.own 3 1 encI v_1 (out_2 ++ ([(gi ((bagAt r_2 (gi out_1 i_1)).2) n_1)] : List Int)) :: fr) h_9 := hS
    replace hK := hK.trans hk
    replace hL_t_Links := hL_t_Links.kp hk
    replace hN_1 := hN_1.kp hk
    replace hL_1 := hL_1.kp hk
    refine HO.sto (want_none) rfl (st_mapUpdateK (k := (gi ((bagAt r_2 (gi out_1 i_1)).2) n_1)) (v := 1) hS (i := 2) rfl ka_3 tmk_110 rfl rfl rfl) ?_
    rintro h_10 ⟨hS, hk⟩
    replace hS : St F_4 (Ow.own 3 1 encI (.slice (some ⟨b_3, 0, none⟩) 1 1) ([(gi ((bagAt r_2 (gi out_1 i_1)).2) n_1)] : List Int) :: Ow.map r_3 kI bagV r_2 :: Ow.map r_4 kI kI (mset seen_2 (gi ((bagAt r_2 (gi out_1 i_1)).2) n_1) 1) :: Ow.own 3 1 encI v_1 (out_2 ++ ([(gi ((bagAt r_2 (gi out_1 i_1)).2) n_1)] : List Int)) :: fr) h_10 := hS
    replace hK := hK.trans hk
    replace hL_t_Links := hL_t_Links.kp hk
    replace hN_1 := hN_1.kp hk
    replace hL_1 := hL_1.kp hk
    refine oA (v_1) rfl rfl ?_
    refine HO.nil (blockQ_normal (thenQ_normal (?_)))
    refine HW.region ?_
    obtain ⟨ho_4, hM⟩ := hM
    refine oV (.int .i64 (n_1 + 1)) (q_addN _ rfl rfl rfl ho_4.1 ho_4.2) rfl ?_
    refine oM (.int .i64 (n_1 + 1)) rfl rfl ?_
    refine HO.nil (thenQ_normal (?_))
    replace hS : St F_4 (Ow.map r_3 kI bagV r_2 :: Ow.map r_4 kI kI (mset seen_2 (gi ((bagAt r_2 (gi out_1 i_1)).2) n_1) 1) :: Ow.own 3 1 encI v_1 (out_2 ++ ([(gi ((bagAt r_2 (gi out_1 i_1)).2) n_1)] : List Int)) :: fr) h_10 := hS.perm2 [1, 2, 3] 4 rfl rfl
    rw [hKe_2] at hM
    exact ⟨(mset seen_2 (gi ((bagAt r_2 (gi out_1 i_1)).2) n_1) 1, out_2 ++ ([(gi ((bagAt r_2 (gi out_1 i_1)).2) n_1)] : List Int), n_1 + 1), ⟨F_4, v_1, rfl, rfl, rfl, rfl, rfl, rfl, rfl, rfl, hK, hS, hL_t_Links, hN_1, hL_1, hM.1⟩, hM.2⟩
   ·
    replace hM := hM.2 (of_decide_eq_false c_3)
    refine HW.skip (blockQ_normal (thenQ_normal (?_)))
    refine HW.region ?_
    obtain ⟨ho_5, hM⟩ := hM
    refine oV (.int .i64 (n_1 + 1)) (q_addN _ rfl rfl rfl ho_5.1 ho_5.2) rfl ?_
    refine oM (.int .i64 (n_1 + 1)) rfl rfl ?_
    refine HO.nil (thenQ_normal (?_))
    rw [hKe_2] at hM
    exact ⟨(seen_2, out_2, n_1 + 1), ⟨F_4, vout_2, rfl, rfl, rfl, rfl, rfl, rfl, rfl, rfl, hK, hS, hL_t_Links, hN_1, hL_1, hM.1⟩, hM.2⟩
  ·
   replace hM := hM.2 (of_decide_eq_false c_2)
   refine HW.exit (thenQ_exit (thenQ_exit (blockQ_exit (blockQ_normal (thenQ_normal (?_))))))
   refine HW.region ?_
   refine oM (.int .i64 i_1) rfl rfl ?_
   obtain ⟨ho_6, hM⟩ := hM
   refine oV (.int .i64 (i_1 + 1)) (q_addN _ rfl rfl rfl ho_6.1 ho_6.2) rfl ?_
   refine oA (.int .i64 (i_1 + 1)) rfl rfl ?_
   refine HO.nil (thenQ_normal (?_))
   rw [hKe_1] at hM
   exact ⟨(seen_2, out_2, i_1 + 1), ⟨F_4, vout_2, rfl, rfl, rfl, rfl, rfl, hK, hS, hL_t_Links, hN_1, hM.1⟩, hM.2⟩
 ·
  replace hM := hM.2 (of_decide_eq_false c_1)
  refine HW.exit (thenQ_exit (thenQ_exit (blockQ_exit (thenQ_normal (?_)))))
  refine HW.seq ?_
  refine HW.region ?_
  refine oM (vout_1) rfl rfl ?_
  refine oA (vout_1) rfl rfl ?_
  refine HO.nil (thenQ_normal (?_))
  refine HW.ret (?_)
  refine ⟨.inr rfl, vout_1, res1 rfl (rt rfl), ?_⟩
  replace hS : St F_3 (Ow.own 3 1 encI vout_1 out_1 :: fr) h_6 := hS.perm2 [2] 3 rfl rfl
  exact ⟨F_3, out_1, vout_1, rfl, hK, hS, hL_t_Links, hM⟩

def tree_good_j1 (t_Links : List T_api_Branch) (Q : Bool → Prop) (into_1 : List (Int × Int)) (n_1 : Int) (K_1 : (List (Int × Int)) → Int → Prop) (b_3 : Bool) : Prop :=
 (b_3 = true → Q false) ∧ (b_3 = false → (I64 ((mget0 into_1 ((gi t_Links n_1).2)) + 1)) ∧ ((I64 (n_1 + 1)) ∧ (K_1 (mset into_1 ((gi t_Links n_1).2) ((mget0 into_1 ((gi t_Links n_1).2)) + 1)) (n_1 + 1))))
def tree_good_l1 (t_Root : Int) (t_Links : List T_api_Branch) (Q : Bool → Prop) (K_1 : (List (Int × Int)) → Int → Prop) (into_1 : List (Int × Int)) (n_1 : Int) : Prop :=
 (n_1 < (t_Links.length : Int) → ((0 : Int) ≤ n_1 ∧ n_1 < (t_Links.length : Int)) ∧ ((((gi t_Links n_1).2) = t_Root → tree_good_j1 t_Links Q into_1 n_1 K_1 true) ∧ (¬ (((gi t_Links n_1).2) = t_Root) → (0 < n_1 → (I64 (n_1 - 1)) ∧ (((0 : Int) ≤ n_1 - 1 ∧ n_1 - 1 < (t_Links.length : Int)) ∧ (tree_order_W (gi t_Links (n_1 - 1)) (gi t_Links n_1) (fun r_3 => tree_good_j1 t_Links Q into_1 n_1 K_1 (decide (0 ≤ r_3)))))) ∧ (¬ (0 < n_1) → tree_good_j1 t_Links Q into_1 n_1 K_1 false)))) ∧ (¬ (n_1 < (t_Links.length : Int)) → ((t_Links.length : Int) < 256 → ((into_1.length : Int) = (t_Links.length : Int) → (I64 ((t_Links.length : Int) + 1)) ∧ (tree_walk_W t_Root t_Links t_Root (fun r_4 => Q (decide ((r_4.length : Int) = ((t_Links.length : Int) + 1)))))) ∧ (¬ ((into_1.length : Int) = (t_Links.length : Int)) → Q false)) ∧ (¬ ((t_Links.length : Int) < 256) → Q false))
def tree_good_W (t_Root : Int) (t_Links : List T_api_Branch) (Q : Bool → Prop) : Prop :=
 loopW (fun (K_1 : ((List (Int × Int)) × Int) → Prop) (s : (List (Int × Int)) × Int) => tree_good_l1 t_Root t_Links Q (fun into_1 n_1 => K_1 (into_1, n_1)) s.1 s.2) ([], 0)
set_option maxHeartbeats 40000000 in
set_option maxRecDepth 100000 in
theorem tree_good_walk {F : Fz} {fr : List Ow} {h0 : Heap} (t_Root : Int) (t_Links : List T_api_Branch) (vt_Links : Value) (hS : St F (fr) h0) (hL_t_Links : SliceF F h0 2 e_api_Branch vt_Links t_Links) {Q : Bool → Prop} (hM : tree_good_W t_Root t_Links Q) :
  HC Try.prog 67 #[.agg #[.int .i64 t_Root, vt_Links]] h0 fun u h' => ∃ (F' : Fz) (r_1 : Bool), u = .bool r_1 ∧ Kp F h0 F' h' ∧ St F' (fr) h' ∧ (SliceF F' h' 2 e_api_Branch vt_Links t_Links) ∧ Q r_1 := by
 unfold tree_good_W at hM
 have hK := Kp.refl F h0
 refine HC.of_HW (n := 65) Try.func67 rfl rfl (Nat.le_of_ble_eq_true rfl) ?_
 refine HW.seq ?_
 refine HW.region ?_
 refine HO.eff (want_none) rfl (st_box (c := #[.int .i64 t_Root, vt_Links]) (k' := 2) hS rfl rfl) ?_
 rintro _ h_1 ⟨b_1, rfl, hS, hk⟩
 replace hK := hK.trans hk
 replace hL_t_Links := hL_t_Links.kp hk
 refine oA (.bool false) rfl rfl ?_
 refine HO.nil (thenQ_normal (?_))
 refine HW.seq ?_
 refine HW.region ?_
 refine HO.eff (want_none) rfl (st_makeMap (κ := Int) (ν := Int) kI kI hS) ?_
 rintro _ h_2 ⟨r_2, rfl, hS, hk⟩
 replace hK := hK.trans hk
 replace hL_t_Links := hL_t_Links.kp hk
 refine oA (.map (some r_2)) rfl rfl ?_
 refine HO.nil (thenQ_normal (?_))
 refine HW.seq ?_
 refine HW.seq ?_
 refine HW.region ?_
 refine oV (.pointer (some ⟨b_1, 1, none⟩)) (q_fieldAddr fa_46_1 rfl rfl) rfl ?_
 refine oV (vt_Links) (q_load to_44 rfl (Blk.cell (hS.box 1 rfl) rfl)) rfl ?_
 refine oV (.int .i64 (t_Links.length : Int)) (q_len ts_44 (shp hL_t_Links.is) rfl rfl) rfl ?_
 refine oM (.int .i64 0) rfl rfl ?_
 refine HO.nil (thenQ_normal (?_))
 refine HW.block ?_
 obtain ⟨I_1, m_1, hI_1, hR_1⟩ := hM
 replace hS : St F (Ow.box b_1 46 #[.int .i64 t_Root, vt_Links] :: Ow.map r_2 kI kI ([] : List (Int × Int)) :: fr) h_2 := hS.perm2 [1, 0] 2 rfl rfl
 refine HW.loop (S := (List (Int × Int)) × Int) (fun s f h => match s with | (into_1, n_1) => ∃ (F' : Fz), f 1 = .pointer (some ⟨b_1, 0, none⟩) ∧ f 2 = .bool false ∧ f 3 = .map (some r_2) ∧ f 8 = vt_Links ∧ f 9 = .int .i64 (t_Links.length : Int) ∧ f 10 = .int .i64 n_1 ∧ Kp F h0 F' h ∧ St F' (Ow.box b_1 46 #[.int .i64 t_Root, vt_Links] :: Ow.map r_2 kI kI into_1 :: fr) h ∧ (SliceF F' h 2 e_api_Branch vt_Links t_Links) ∧ I_1 (into_1, n_1)) m_1 ([], 0) ⟨F, rfl, rfl, rfl, rfl, rfl, rfl, hK, hS, hL_t_Links, hI_1⟩ ?_
 rintro ⟨into_1, n_1⟩ f_1 h_3 ⟨F_1, e1, e2, e3, e8, e9, e10, hK, hS, hL_t_Links, hI0⟩
 obtain ⟨K_1, hKe_1⟩ : ∃ K : (List (Int × Int)) → Int → Prop, K = fun into_1' n_1' => I_1 (into_1', n_1') ∧ m_1 (into_1', n_1') < m_1 (into_1, n_1) := ⟨_, rfl⟩
 have hM : tree_good_l1 t_Root t_Links Q K_1 into_1 n_1 := by rw [hKe_1]; exact hR_1 (into_1, n_1) hI0
 unfold tree_good_l1 at hM
 refine HW.fr [(1, .pointer (some ⟨b_1, 0, none⟩)), (2, .bool false), (3, .map (some r_2)), (8, vt_Links), (9, .int .i64 (t_Links.length : Int)), (10, .int .i64 n_1)] ⟨e1, e2, e3, e8, e9, e10, trivial⟩ ?_
 refine HW.seq ?_
 refine HW.region ?_
 refine oV (.bool (decide (n_1 < (t_Links.length : Int)))) (q_lss rfl rfl) rfl ?_
 refine HO.nil (thenQ_normal (?_))
 refine HW.seq ?_
 refine HW.cond (decide (n_1 < (t_Links.length : Int))) rfl (fun c_1 => ?_) (fun c_1 => ?_)
 ·
  replace hM := hM.1 (of_decide_eq_true c_1)
  refine HW.skip (thenQ_normal (?_))
  refine HW.seq ?_
  refine HW.block ?_
  refine HW.seq ?_
  refine HW.region ?_
  refine oM (.int .i64 n_1) rfl rfl ?_
  obtain ⟨ho_1, hM⟩ := hM
  refine oV (elemPtr 2 vt_Links (n_1).toNat) (q_idx ts_44 hL_t_Links.is rfl rfl ho_1) rfl ?_
  refine oV (.agg #[.int .i64 ((gi t_Links n_1).1), .int .i64 ((gi t_Links n_1).2)]) (q_ldElemAgg (cs := [.int .i64 ((gi t_Links n_1).1), .int .i64 ((gi t_Links n_1).2)]) ta_67 hL_t_Links.is rfl ho_1 rfl) rfl ?_
  refine HO.eff (want_none) rfl (st_alloc (c := #[.int .i64 0, .int .i64 0]) hS tz_67 rfl) ?_
  rintro _ h_4 ⟨b_2, rfl, hS, hk⟩
  replace hK := hK.trans hk
  replace hL_t_Links := hL_t_Links.kp hk
  refine oA (.int .i64 n_1) rfl rfl ?_
  refine HO.sto (want_none) rfl (st_storeAgg (c' := #[.int .i64 ((gi t_Links n_1).1), .int .i64 ((gi t_Links n_1).2)]) hS (i := 0) rfl ta_67 rfl rfl rfl (by simp [Value.oneCell']) (Nat.le_of_ble_eq_true rfl) rfl) ?_
  rintro h_5 ⟨hS, hk⟩
  replace hS : St F_1 (Ow.box b_2 67 #[.int .i64 ((gi t_Links n_1).1), .int .i64 ((gi t_Links n_1).2)] :: Ow.box b_1 46 #[.int .i64 t_Root, vt_Links] :: Ow.map r_2 kI kI into_1 :: fr) h_5 := hS
  replace hK := hK.trans hk
  replace hL_t_Links := hL_t_Links.kp hk
  refine HO.nil (thenQ_normal (?_))
  refine HW.seq ?_
  refine HW.seq_mid (fun f h => ∃ (F' : Fz) (b_3 : Bool), f 1 = .pointer (some ⟨b_1, 0, none⟩) ∧ f 2 = .bool false ∧ f 3 = .map (some r_2) ∧ f 5 = .pointer (some ⟨b_2, 0, none⟩) ∧ f 8 = vt_Links ∧ f 9 = .int .i64 (t_Links.length : Int) ∧ f 10 = .int .i64 n_1 ∧ f 34 = .bool b_3 ∧ Kp F h0 F' h ∧ St F' (Ow.box b_1 46 #[.int .i64 t_Root, vt_Links] :: Ow.map r_2 kI kI into_1 :: Ow.box b_2 67 #[.int .i64 ((gi t_Links n_1).1), .int .i64 ((gi t_Links n_1).2)] :: fr) h ∧ (SliceF F' h 2 e_api_Branch vt_Links t_Links) ∧ tree_good_j1 t_Links Q into_1 n_1 K_1 b_3) ?_ ?_
  ·
   refine HW.regionA 20 mixed (fun h => (SliceIs h 2 e_api_Branch vt_Links t_Links) ∧ (Blk h b_2 (.cells #[.int .i64 ((gi t_Links n_1).1), .int .i64 ((gi t_Links n_1).2)] 67 (0, 0))) ∧ (Blk h b_1 (.cells #[.int .i64 t_Root, vt_Links] 46 (0, 0)))) [] (by kernel_rfl) ?_
   refine HA.val (k := 0) (v := .pointer (some ⟨b_2, 1, none⟩)) rfl rfl (by kernel_rfl) (by kernel_rfl) (want_none) rfl (fun _ ⟨hL_t_Links, c355, c353⟩ => q_fieldAddr fa_67_1 rfl rfl) ?_
   refine HA.val (k := 1) (v := .int .i64 ((gi t_Links n_1).2)) rfl rfl (by kernel_rfl) (by kernel_rfl) (want_none) rfl (fun _ ⟨hL_t_Links, c355, c353⟩ => q_load to_3 rfl (Blk.cell c355 rfl)) ?_
   refine HA.val (k := 2) (v := .pointer (some ⟨b_1, 0, none⟩)) rfl rfl (by kernel_rfl) (by kernel_rfl) (want_none) rfl (fun _ ⟨hL_t_Links, c355, c353⟩ => q_fieldAddr fa_46_0 rfl rfl) ?_
   refine HA.val (k := 3) (v := .int .i64 t_Root) rfl rfl (by kernel_rfl) (by kernel_rfl) (want_none) rfl (fun _ ⟨hL_t_Links, c355, c353⟩ => q_load to_3 rfl (Blk.cell c353 rfl)) ?_
   refine HA.val (k := 4) (v := .bool (decide (((gi t_Links n_1).2) = t_Root))) rfl rfl (by kernel_rfl) (by kernel_rfl) (want_none) rfl (fun _ ⟨hL_t_Links, c355, c353⟩ => q_eql rfl rfl) ?_
   refine HA.val (k := 5) (v := .bool (decide (((gi t_Links n_1).2) = t_Root))) rfl rfl (by kernel_rfl) (by kernel_rfl) (want_none) rfl (fun _ ⟨hL_t_Links, c355, c353⟩ => q_move rfl) ?_
   rcases Bool.eq_false_or_eq_true (decide (((gi t_Links n_1).2) = t_Root)) with c_2 | c_2
   ·
    replace hM := hM.1 (of_decide_eq_true c_2)
    refine HA.past (k := 6) rfl rfl (by kernel_rfl) (by kernel_rfl) (past_by rfl rfl c_2) rfl ?_
    refine HA.past (k := 7) rfl rfl (by kernel_rfl) (by kernel_rfl) (past_by rfl rfl c_2) rfl ?_
    refine HA.past (k := 8) rfl rfl (by kernel_rfl) (by kernel_rfl) (past_by rfl rfl c_2) rfl ?_
    refine HA.past (k := 9) rfl rfl (by kernel_rfl) (by kernel_rfl) (past_undef rfl rfl) rfl ?_
    refine HA.past (k := 10) rfl rfl (by kernel_rfl) (by kernel_rfl) (past_undef rfl rfl) rfl ?_
    refine HA.past (k := 11) rfl rfl (by kernel_rfl) (by kernel_rfl) (past_undef rfl rfl) rfl ?_
    refine HA.past (k := 12) rfl rfl (by kernel_rfl) (by kernel_rfl) (past_undef rfl rfl) rfl ?_
    refine HA.past (k := 13) rfl rfl (by kernel_rfl) (by kernel_rfl) (past_undef rfl rfl) rfl ?_
    refine HA.past (k := 14) rfl rfl (by kernel_rfl) (by kernel_rfl) (past_undef rfl rfl) rfl ?_
    refine HA.past (k := 15) rfl rfl (by kernel_rfl) (by kernel_rfl) (past_undef rfl rfl) rfl ?_
    refine HA.one (k := 16) ⟨⟨hL_t_Links.is, (hS.box 0 rfl), (hS.box 1 rfl)⟩, (Go.Wk.at_nil _ _)⟩ (by kernel_rfl) ?_
    refine HS.past rfl (past_undef rfl rfl) rfl ?_
    refine HA.past (k := 17) rfl rfl (by kernel_rfl) (by kernel_rfl) (past_undef rfl rfl) rfl ?_
    refine HA.past (k := 18) rfl rfl (by kernel_rfl) (by kernel_rfl) (past_by rfl rfl c_2) rfl ?_
    refine HA.val (k := 19) (v := .bool true) rfl rfl (by kernel_rfl) (by kernel_rfl) (want_none) rfl (fun _ ⟨hL_t_Links, c355, c353⟩ => q_pickK true rfl c_2 rfl) ?_
    refine HA.nil ⟨⟨hL_t_Links.is, (hS.box 0 rfl), (hS.box 1 rfl)⟩, (Go.Wk.at_nil _ _)⟩ (by kernel_rfl) (thenQ_normal (?_))
    replace hS : St F_1 (Ow.box b_1 46 #[.int .i64 t_Root, vt_Links] :: Ow.map r_2 kI kI into_1 :: Ow.box b_2 67 #[.int .i64 ((gi t_Links n_1).1), .int .i64 ((gi t_Links n_1).2)] :: fr) h_5 := hS.perm2 [1, 2, 0] 3 rfl rfl
    exact ⟨F_1, true, rfl, rfl, rfl, rfl, rfl, rfl, rfl, rfl, hK, hS, hL_t_Links, hM⟩
   ·
    replace hM := hM.2 (of_decide_eq_false c_2)
    refine HA.val (k := 6) (v := .int .i64 n_1) rfl rfl (by kernel_rfl) (by kernel_rfl) (want_by rfl rfl c_2) rfl (fun _ ⟨hL_t_Links, c355, c353⟩ => q_move rfl) ?_
    refine HA.val (k := 7) (v := .bool (decide (0 < n_1))) rfl rfl (by kernel_rfl) (by kernel_rfl) (want_by rfl rfl c_2) rfl (fun _ ⟨hL_t_Links, c355, c353⟩ => q_gtr rfl rfl) ?_
    refine HA.val (k := 8) (v := .bool (decide (0 < n_1))) rfl rfl (by kernel_rfl) (by kernel_rfl) (want_by rfl rfl c_2) rfl (fun _ ⟨hL_t_Links, c355, c353⟩ => q_move rfl) ?_
    rcases Bool.eq_false_or_eq_true (decide (0 < n_1)) with c_3 | c_3
    ·
     replace hM := hM.1 (of_decide_eq_true c_3)
     refine HA.val (k := 9) (v := .pointer (some ⟨b_1, 1, none⟩)) rfl rfl (by kernel_rfl) (by kernel_rfl) (want_by rfl rfl c_3) rfl (fun _ ⟨hL_t_Links, c355, c353⟩ => q_fieldAddr fa_46_1 rfl rfl) ?_
     refine HA.val (k := 10) (v := vt_Links) rfl rfl (by kernel_rfl) (by kernel_rfl) (want_by rfl rfl c_3) rfl (fun _ ⟨hL_t_Links, c355, c353⟩ => q_load to_44 rfl (Blk.cell c353 rfl)) ?_
     refine HA.val (k := 11) (v := .int .i64 n_1) rfl rfl (by kernel_rfl) (by kernel_rfl) (want_by rfl rfl c_3) rfl (fun _ ⟨hL_t_Links, c355, c353⟩ => q_move rfl) ?_
     obtain ⟨ho_2, hM⟩ := hM
     refine HA.val (k := 12) (v := .int .i64 (n_1 - 1)) rfl rfl (by kernel_rfl) (by kernel_rfl) (want_by rfl rfl c_3) rfl (fun _ ⟨hL_t_Links, c355, c353⟩ => q_subN _ rfl rfl rfl ho_2.1 ho_2.2) ?_
     obtain ⟨ho_3, hM⟩ := hM
     refine HA.val (k := 13) (v := elemPtr 2 vt_Links (n_1 - 1).toNat) rfl rfl (by kernel_rfl) (by kernel_rfl) (want_by rfl rfl c_3) rfl (fun _ ⟨hL_t_Links, c355, c353⟩ => q_idx ts_44 hL_t_Links rfl rfl ho_3) ?_
     refine HA.val (k := 14) (v := .agg #[.int .i64 ((gi t_Links (n_1 - 1)).1), .int .i64 ((gi t_Links (n_1 - 1)).2)]) rfl rfl (by kernel_rfl) (by kernel_rfl) (want_by rfl rfl c_3) rfl (fun _ ⟨hL_t_Links, c355, c353⟩ => q_ldElemAgg (cs := [.int .i64 ((gi t_Links (n_1 - 1)).1), .int .i64 ((gi t_Links (n_1 - 1)).2)]) ta_67 hL_t_Links rfl ho_3 rfl) ?_
     refine HA.val (k := 15) (v := .agg #[.int .i64 ((gi t_Links n_1).1), .int .i64 ((gi t_Links n_1).2)]) rfl rfl (by kernel_rfl) (by kernel_rfl) (want_by rfl rfl c_3) rfl (fun _ ⟨hL_t_Links, c355, c353⟩ => q_loadAgg (cs := [.int .i64 ((gi t_Links n_1).1), .int .i64 ((gi t_Links n_1).2)]) ta_67 rfl rfl (Blk.cells (k := 2) c355 rfl)) ?_
     refine HA.one (k := 16) ⟨⟨hL_t_Links.is, (hS.box 0 rfl), (hS.box 1 rfl)⟩, (Go.Wk.at_nil _ _)⟩ (by kernel_rfl) ?_
     refine HS.call rfl (want_by rfl rfl c_3) rfl (ec en_66 rfl rfl) (tree_order_walk (fr := (Ow.box b_2 67 #[.int .i64 ((gi t_Links n_1).1), .int .i64 ((gi t_Links n_1).2)] :: Ow.box b_1 46 #[.int .i64 t_Root, vt_Links] :: Ow.map r_2 kI kI into_1 :: fr)) (gi t_Links (n_1 - 1)) (gi t_Links n_1) hS hM) ?_
     rintro _ h_6 ⟨F_2, r_3, rfl, hk, hS, hM⟩
     replace hK := hK.trans hk
     replace hL_t_Links := hL_t_Links.kp hk
     refine HA.val (k := 17) (v := .bool (decide (0 ≤ r_3))) rfl rfl (by kernel_rfl) (by kernel_rfl) (want_by rfl rfl c_3) rfl (fun _ ⟨hL_t_Links, c355, c353⟩ => q_geq rfl rfl) ?_
     refine HA.val (k := 18) (v := .bool (decide (0 ≤ r_3))) rfl rfl (by kernel_rfl) (by kernel_rfl) (want_by rfl rfl c_2) rfl (fun _ ⟨hL_t_Links, c355, c353⟩ => q_pickK true rfl c_3 rfl) ?_
     refine HA.val (k := 19) (v := .bool (decide (0 ≤ r_3))) rfl rfl (by kernel_rfl) (by kernel_rfl) (want_none) rfl (fun _ ⟨hL_t_Links, c355, c353⟩ => q_pickK false rfl c_2 rfl) ?_
     refine HA.nil ⟨⟨hL_t_Links.is, (hS.box 0 rfl), (hS.box 1 rfl)⟩, (Go.Wk.at_nil _ _)⟩ (by kernel_rfl) (thenQ_normal (?_))
     replace hS : St F_2 (Ow.box b_1 46 #[.int .i64 t_Root, vt_Links] :: Ow.map r_2 kI kI into_1 :: Ow.box b_2 67 #[.int .i64 ((gi t_Links n_1).1), .int .i64 ((gi t_Links n_1).2)] :: fr) h_6 := hS.perm2 [1, 2, 0] 3 rfl rfl
     exact ⟨F_2, decide (0 ≤ r_3), rfl, rfl, rfl, rfl, rfl, rfl, rfl, rfl, hK, hS, hL_t_Links, hM⟩
    ·
     replace hM := hM.2 (of_decide_eq_false c_3)
     refine HA.past (k := 9) rfl rfl (by kernel_rfl) (by kernel_rfl) (past_by rfl rfl c_3) rfl ?_
     refine HA.past (k := 10) rfl rfl (by kernel_rfl) (by kernel_rfl) (past_by rfl rfl c_3) rfl ?_
     refine HA.past (k := 11) rfl rfl (by kernel_rfl) (by kernel_rfl) (past_by rfl rfl c_3) rfl ?_
     refine HA.past (k := 12) rfl rfl (by kernel_rfl) (by kernel_rfl) (past_by rfl rfl c_3) rfl ?_
     refine HA.past (k := 13) rfl rfl (by kernel_rfl) (by kernel_rfl) (past_by rfl rfl c_3) rfl ?_
     refine HA.past (k := 14) rfl rfl (by kernel_rfl) (by kernel_rfl) (past_by rfl rfl c_3) rfl ?_
     refine HA.past (k := 15) rfl rfl (by kernel_rfl) (by kernel_rfl) (past_by rfl rfl c_3) rfl ?_
     refine HA.one (k := 16) ⟨⟨hL_t_Links.is, (hS.box 0 rfl), (hS.box 1 rfl)⟩, (Go.Wk.at_nil _ _)⟩ (by kernel_rfl) ?_
     refine HS.past rfl (past_by rfl rfl c_3) rfl ?_
     refine HA.past (k := 17) rfl rfl (by kernel_rfl) (by kernel_rfl) (past_by rfl rfl c_3) rfl ?_
     refine HA.val (k := 18) (v := .bool false) rfl rfl (by kernel_rfl) (by kernel_rfl) (want_by rfl rfl c_2) rfl (fun _ ⟨hL_t_Links, c355, c353⟩ => q_pickK false rfl c_3 rfl) ?_
     refine HA.val (k := 19) (v := .bool false) rfl rfl (by kernel_rfl) (by kernel_rfl) (want_none) rfl (fun _ ⟨hL_t_Links, c355, c353⟩ => q_pickK false rfl c_2 rfl) ?_
     refine HA.nil ⟨⟨hL_t_Links.is, (hS.box 0 rfl), (hS.box 1 rfl)⟩, (Go.Wk.at_nil _ _)⟩ (by kernel_rfl) (thenQ_normal (?_))
     replace hS : St F_1 (Ow.box b_1 46 #[.int .i64 t_Root, vt_Links] :: Ow.map r_2 kI kI into_1 :: Ow.box b_2 67 #[.int .i64 ((gi t_Links n_1).1), .int .i64 ((gi t_Links n_1).2)] :: fr) h_5 := hS.perm2 [1, 2, 0] 3 rfl rfl
     exact ⟨F_1, false, rfl, rfl, rfl, rfl, rfl, rfl, rfl, rfl, hK, hS, hL_t_Links, hM⟩
  ·
   rintro f_2 h_7 ⟨F_3, b_3, e1, e2, e3, e5, e8, e9, e10, e34, hK, hS, hL_t_Links, hM⟩
   unfold tree_good_j1 at hM
   refine HW.fr [(1, .pointer (some ⟨b_1, 0, none⟩)), (2, .bool false), (3, .map (some r_2)), (5, .pointer (some ⟨b_2, 0, none⟩)), (8, vt_Links), (9, .int .i64 (t_Links.length : Int)), (10, .int .i64 n_1), (34, .bool b_3)] ⟨e1, e2, e3, e5, e8, e9, e10, e34, trivial⟩ ?_
   refine HW.cond b_3 rfl (fun c_4 => ?_) (fun c_4 => ?_)
   ·
    replace hM := hM.1 c_4
    refine HW.seq ?_
    refine HW.region ?_
    refine oA (.bool false) rfl rfl ?_
    refine HO.nil (thenQ_normal (?_))
    refine HW.ret (thenQ_ret (blockQ_ret (thenQ_ret (thenQ_ret (blockQ_ret (thenQ_ret (?_)))))))
    refine ⟨.inr rfl, .bool false, res1 rfl (rt rfl), ?_⟩
    replace hS : St F_3 (fr) h_7 := hS.perm2 [] 3 rfl rfl
    exact ⟨F_3, false, rfl, hK, hS, hL_t_Links, hM⟩
   ·
    replace hM := hM.2 c_4
    refine HW.skip (thenQ_normal (?_))
    refine HW.region ?_
    refine oM (.map (some r_2)) rfl rfl ?_
    refine oV (.pointer (some ⟨b_2, 1, none⟩)) (q_fieldAddr fa_67_1 rfl rfl) rfl ?_
    refine oV (.int .i64 ((gi t_Links n_1).2)) (q_load to_3 rfl (Blk.cell (hS.box 2 rfl) rfl)) rfl ?_
    refine oV (.int .i64 (mget0 into_1 ((gi t_Links n_1).2))) ((q_lookup (k := (gi t_Links n_1).2) ka_3 tmk_110 (hS.mp 1 rfl) rfl rfl).of_eq (mval0 (z := .int .i64 0) rfl)) rfl ?_
    obtain ⟨ho_4, hM⟩ := hM
    refine oV (.int .i64 ((mget0 into_1 ((gi t_Links n_1).2)) + 1)) (q_addN _ rfl rfl rfl ho_4.1 ho_4.2) rfl ?_
    refine HO.sto (want_none) rfl (st_mapUpdateK (k := (gi t_Links n_1).2) (v := (mget0 into_1 ((gi t_Links n_1).2)) + 1) hS (i := 1) rfl ka_3 tmk_110 rfl rfl rfl) ?_
    rintro h_8 ⟨hS, hk⟩
    replace hS : St F_3 (Ow.box b_1 46 #[.int .i64 t_Root, vt_Links] :: Ow.map r_2 kI kI (mset into_1 ((gi t_Links n_1).2) ((mget0 into_1 ((gi t_Links n_1).2)) + 1)) :: Ow.box b_2 67 #[.int .i64 ((gi t_Links n_1).1), .int .i64 ((gi t_Links n_1).2)] :: fr) h_8 := hS
    replace hK := hK.trans hk
    replace hL_t_Links := hL_t_Links.kp hk
    refine HO.nil (blockQ_normal (thenQ_normal (?_)))
    refine HW.region ?_
    obtain ⟨ho_5, hM⟩ := hM
    refine oV (.int .i64 (n_1 + 1)) (q_addN _ rfl rfl rfl ho_5.1 ho_5.2) rfl ?_
    refine oM (.int .i64 (n_1 + 1)) rfl rfl ?_
    refine HO.nil (thenQ_normal (?_))
    replace hS : St F_3 (Ow.box b_1 46 #[.int .i64 t_Root, vt_Links] :: Ow.map r_2 kI kI (mset into_1 ((gi t_Links n_1).2) ((mget0 into_1 ((gi t_Links n_1).2)) + 1)) :: fr) h_8 := hS.perm2 [0, 1] 3 rfl rfl
    rw [hKe_1] at hM
    exact ⟨(mset into_1 ((gi t_Links n_1).2) ((mget0 into_1 ((gi t_Links n_1).2)) + 1), n_1 + 1), ⟨F_3, rfl, rfl, rfl, rfl, rfl, rfl, hK, hS, hL_t_Links, hM.1⟩, hM.2⟩
 ·
  replace hM := hM.2 (of_decide_eq_false c_1)
  refine HW.exit (thenQ_exit (thenQ_exit (blockQ_exit (thenQ_normal (?_)))))
  refine HW.seq ?_
  refine HW.regionA 25 mixed (fun h => (SliceIs h 2 e_api_Branch vt_Links t_Links) ∧ (Blk h b_1 (.cells #[.int .i64 t_Root, vt_Links] 46 (0, 0))) ∧ (MapIs h r_2 kI kI into_1)) [] (by kernel_rfl) ?_
  refine HA.val (k := 0) (v := .pointer (some ⟨b_1, 1, none⟩)) rfl rfl (by kernel_rfl) (by kernel_rfl) (want_none) rfl (fun _ ⟨hL_t_Links, c353, c354⟩ => q_fieldAddr fa_46_1 rfl rfl) ?_
  refine HA.val (k := 1) (v := vt_Links) rfl rfl (by kernel_rfl) (by kernel_rfl) (want_none) rfl (fun _ ⟨hL_t_Links, c353, c354⟩ => q_load to_44 rfl (Blk.cell c353 rfl)) ?_
  refine HA.val (k := 2) (v := .int .i64 (t_Links.length : Int)) rfl rfl (by kernel_rfl) (by kernel_rfl) (want_none) rfl (fun _ ⟨hL_t_Links, c353, c354⟩ => q_len ts_44 (shp hL_t_Links) rfl rfl) ?_
  refine HA.val (k := 3) (v := .bool (decide ((t_Links.length : Int) < 256))) rfl rfl (by kernel_rfl) (by kernel_rfl) (want_none) rfl (fun _ ⟨hL_t_Links, c353, c354⟩ => q_lss rfl rfl) ?_
  refine HA.val (k := 4) (v := .bool (decide ((t_Links.length : Int) < 256))) rfl rfl (by kernel_rfl) (by kernel_rfl) (want_none) rfl (fun _ ⟨hL_t_Links, c353, c354⟩ => q_move rfl) ?_
  rcases Bool.eq_false_or_eq_true (decide ((t_Links.length : Int) < 256)) with c_5 | c_5
  ·
   replace hM := hM.1 (of_decide_eq_true c_5)
   refine HA.val (k := 5) (v := .map (some r_2)) rfl rfl (by kernel_rfl) (by kernel_rfl) (want_by rfl rfl c_5) rfl (fun _ ⟨hL_t_Links, c353, c354⟩ => q_move rfl) ?_
   refine HA.val (k := 6) (v := .int .i64 (into_1.length : Int)) rfl rfl (by kernel_rfl) (by kernel_rfl) (want_by rfl rfl c_5) rfl (fun _ ⟨hL_t_Links, c353, c354⟩ => q_lenMap Try.underlying110 c354 rfl rfl) ?_
   refine HA.val (k := 7) (v := .pointer (some ⟨b_1, 1, none⟩)) rfl rfl (by kernel_rfl) (by kernel_rfl) (want_by rfl rfl c_5) rfl (fun _ ⟨hL_t_Links, c353, c354⟩ => q_fieldAddr fa_46_1 rfl rfl) ?_
   refine HA.val (k := 8) (v := vt_Links) rfl rfl (by kernel_rfl) (by kernel_rfl) (want_by rfl rfl c_5) rfl (fun _ ⟨hL_t_Links, c353, c354⟩ => q_load to_44 rfl (Blk.cell c353 rfl)) ?_
   refine HA.val (k := 9) (v := .int .i64 (t_Links.length : Int)) rfl rfl (by kernel_rfl) (by kernel_rfl) (want_by rfl rfl c_5) rfl (fun _ ⟨hL_t_Links, c353, c354⟩ => q_len ts_44 (shp hL_t_Links) rfl rfl) ?_
   refine HA.val (k := 10) (v := .bool (decide ((into_1.length : Int) = (t_Links.length : Int)))) rfl rfl (by kernel_rfl) (by kernel_rfl) (want_by rfl rfl c_5) rfl (fun _ ⟨hL_t_Links, c353, c354⟩ => q_eql rfl rfl) ?_
   refine HA.val (k := 11) (v := .bool (decide ((into_1.length : Int) = (t_Links.length : Int)))) rfl rfl (by kernel_rfl) (by kernel_rfl) (want_none) rfl (fun _ ⟨hL_t_Links, c353, c354⟩ => q_pickK true rfl c_5 rfl) ?_
   refine HA.val (k := 12) (v := .bool (decide ((into_1.length : Int) = (t_Links.length : Int)))) rfl rfl (by kernel_rfl) (by kernel_rfl) (want_none) rfl (fun _ ⟨hL_t_Links, c353, c354⟩ => q_move rfl) ?_
   rcases Bool.eq_false_or_eq_true (decide ((into_1.length : Int) = (t_Links.length : Int))) with c_6 | c_6
   ·
    replace hM := hM.1 (of_decide_eq_true c_6)
    refine HA.val (k := 13) (v := .agg #[.int .i64 t_Root, vt_Links]) rfl rfl (by kernel_rfl) (by kernel_rfl) (want_by rfl rfl c_6) rfl (fun _ ⟨hL_t_Links, c353, c354⟩ => q_loadAgg (cs := [.int .i64 t_Root, vt_Links]) ta_46 rfl rfl (Blk.cells (k := 2) c353 rfl)) ?_
    refine HA.val (k := 14) (v := .pointer (some ⟨b_1, 0, none⟩)) rfl rfl (by kernel_rfl) (by kernel_rfl) (want_by rfl rfl c_6) rfl (fun _ ⟨hL_t_Links, c353, c354⟩ => q_fieldAddr fa_46_0 rfl rfl) ?_
    refine HA.val (k := 15) (v := .int .i64 t_Root) rfl rfl (by kernel_rfl) (by kernel_rfl) (want_by rfl rfl c_6) rfl (fun _ ⟨hL_t_Links, c353, c354⟩ => q_load to_3 rfl (Blk.cell c353 rfl)) ?_
    refine HA.val (k := 18) (v := .pointer (some ⟨b_1, 1, none⟩)) rfl rfl (by kernel_rfl) (by kernel_rfl) (want_by rfl rfl c_6) rfl (fun _ ⟨hL_t_Links, c353, c354⟩ => q_fieldAddr fa_46_1 rfl rfl) ?_
    refine HA.val (k := 19) (v := vt_Links) rfl rfl (by kernel_rfl) (by kernel_rfl) (want_by rfl rfl c_6) rfl (fun _ ⟨hL_t_Links, c353, c354⟩ => q_load to_44 rfl (Blk.cell c353 rfl)) ?_
    refine HA.val (k := 20) (v := .int .i64 (t_Links.length : Int)) rfl rfl (by kernel_rfl) (by kernel_rfl) (want_by rfl rfl c_6) rfl (fun _ ⟨hL_t_Links, c353, c354⟩ => q_len ts_44 (shp hL_t_Links) rfl rfl) ?_
    obtain ⟨ho_6, hM⟩ := hM
    refine HA.val (k := 21) (v := .int .i64 ((t_Links.length : Int) + 1)) rfl rfl (by kernel_rfl) (by kernel_rfl) (want_by rfl rfl c_6) rfl (fun _ ⟨hL_t_Links, c353, c354⟩ => q_addN _ rfl rfl rfl ho_6.1 ho_6.2) ?_
    refine HA.one (k := 16) ⟨⟨hL_t_Links.is, (hS.box 0 rfl), (hS.mp 1 rfl)⟩, (Go.Wk.at_nil _ _)⟩ (by kernel_rfl) ?_
    refine HS.call rfl (want_by rfl rfl c_6) rfl (ec en_72 rfl rfl) (tree_walk_walk (fr := (Ow.box b_1 46 #[.int .i64 t_Root, vt_Links] :: Ow.map r_2 kI kI into_1 :: fr)) t_Root t_Links t_Root vt_Links hS hL_t_Links hM) ?_
    rintro vr_1 h_9 ⟨F_4, r_4, _, rfl, hk, hS, _, hM⟩
    replace hK := hK.trans hk
    replace hL_t_Links := hL_t_Links.kp hk
    refine Go.Wk.HA.re (fun h => (SliceIs h 2 e_api_Branch vt_Links t_Links) ∧ (OwnIs h 0 3 1 encI vr_1 r_4) ∧ (Blk h b_1 (.cells #[.int .i64 t_Root, vt_Links] 46 (0, 0))) ∧ (MapIs h r_2 kI kI into_1)) [] (fun L_ h_ hL_ ⟨hL_t_Links, c451, c353, c354⟩ hs_ => ⟨⟨hL_t_Links, c353, c354⟩, (Go.Wk.at_nil _ _)⟩) ?_
    refine HA.val (k := 17) (v := .int .i64 (r_4.length : Int)) rfl rfl (by kernel_rfl) (by kernel_rfl) (want_by rfl rfl c_6) rfl (fun _ ⟨hL_t_Links, c451, c353, c354⟩ => q_len ts_31 (shp c451.slice) rfl rfl) ?_
    refine HA.val (k := 22) (v := .bool (decide ((r_4.length : Int) = ((t_Links.length : Int) + 1)))) rfl rfl (by kernel_rfl) (by kernel_rfl) (want_by rfl rfl c_6) rfl (fun _ ⟨hL_t_Links, c451, c353, c354⟩ => q_eql rfl rfl) ?_
    refine HA.val (k := 23) (v := .bool (decide ((r_4.length : Int) = ((t_Links.length : Int) + 1)))) rfl rfl (by kernel_rfl) (by kernel_rfl) (want_none) rfl (fun _ ⟨hL_t_Links, c451, c353, c354⟩ => q_pickK true rfl c_6 rfl) ?_
    refine HA.val (k := 24) (v := .bool (decide ((r_4.length : Int) = ((t_Links.length : Int) + 1)))) rfl rfl (by kernel_rfl) (by kernel_rfl) (want_none) rfl (fun _ ⟨hL_t_Links, c451, c353, c354⟩ => q_assign rfl) ?_
    refine HA.nil ⟨⟨hL_t_Links.is, (hS.own 0 rfl), (hS.box 1 rfl), (hS.mp 2 rfl)⟩, (Go.Wk.at_nil _ _)⟩ (by kernel_rfl) (thenQ_normal (?_))
    refine HW.ret (?_)
    refine ⟨.inr rfl, .bool (decide ((r_4.length : Int) = ((t_Links.length : Int) + 1))), res1 rfl (rt rfl), ?_⟩
    replace hS : St F_4 (fr) h_9 := hS.perm2 [] 3 rfl rfl
    exact ⟨F_4, decide ((r_4.length : Int) = ((t_Links.length : Int) + 1)), rfl, hK, hS, hL_t_Links, hM⟩
   ·
    replace hM := hM.2 (of_decide_eq_false c_6)
    refine HA.past (k := 13) rfl rfl (by kernel_rfl) (by kernel_rfl) (past_by rfl rfl c_6) rfl ?_
    refine HA.past (k := 14) rfl rfl (by kernel_rfl) (by kernel_rfl) (past_by rfl rfl c_6) rfl ?_
    refine HA.past (k := 15) rfl rfl (by kernel_rfl) (by kernel_rfl) (past_by rfl rfl c_6) rfl ?_
    refine HA.past (k := 18) rfl rfl (by kernel_rfl) (by kernel_rfl) (past_by rfl rfl c_6) rfl ?_
    refine HA.past (k := 19) rfl rfl (by kernel_rfl) (by kernel_rfl) (past_by rfl rfl c_6) rfl ?_
    refine HA.past (k := 20) rfl rfl (by kernel_rfl) (by kernel_rfl) (past_by rfl rfl c_6) rfl ?_
    refine HA.past (k := 21) rfl rfl (by kernel_rfl) (by kernel_rfl) (past_by rfl rfl c_6) rfl ?_
    refine HA.one (k := 16) ⟨⟨hL_t_Links.is, (hS.box 0 rfl), (hS.mp 1 rfl)⟩, (Go.Wk.at_nil _ _)⟩ (by kernel_rfl) ?_
    refine HS.past rfl (past_by rfl rfl c_6) rfl ?_
    refine HA.past (k := 17) rfl rfl (by kernel_rfl) (by kernel_rfl) (past_by rfl rfl c_6) rfl ?_
    refine HA.past (k := 22) rfl rfl (by kernel_rfl) (by kernel_rfl) (past_by rfl rfl c_6) rfl ?_
    refine HA.val (k := 23) (v := .bool false) rfl rfl (by kernel_rfl) (by kernel_rfl) (want_none) rfl (fun _ ⟨hL_t_Links, c353, c354⟩ => q_pickK false rfl c_6 rfl) ?_
    refine HA.val (k := 24) (v := .bool false) rfl rfl (by kernel_rfl) (by kernel_rfl) (want_none) rfl (fun _ ⟨hL_t_Links, c353, c354⟩ => q_assign rfl) ?_
    refine HA.nil ⟨⟨hL_t_Links.is, (hS.box 0 rfl), (hS.mp 1 rfl)⟩, (Go.Wk.at_nil _ _)⟩ (by kernel_rfl) (thenQ_normal (?_))
    refine HW.ret (?_)
    refine ⟨.inr rfl, .bool false, res1 rfl (rt rfl), ?_⟩
    replace hS : St F_1 (fr) h_3 := hS.perm2 [] 2 rfl rfl
    exact ⟨F_1, false, rfl, hK, hS, hL_t_Links, hM⟩
  ·
   replace hM := hM.2 (of_decide_eq_false c_5)
   refine HA.past (k := 5) rfl rfl (by kernel_rfl) (by kernel_rfl) (past_by rfl rfl c_5) rfl ?_
   refine HA.past (k := 6) rfl rfl (by kernel_rfl) (by kernel_rfl) (past_by rfl rfl c_5) rfl ?_
   refine HA.past (k := 7) rfl rfl (by kernel_rfl) (by kernel_rfl) (past_by rfl rfl c_5) rfl ?_
   refine HA.past (k := 8) rfl rfl (by kernel_rfl) (by kernel_rfl) (past_by rfl rfl c_5) rfl ?_
   refine HA.past (k := 9) rfl rfl (by kernel_rfl) (by kernel_rfl) (past_by rfl rfl c_5) rfl ?_
   refine HA.past (k := 10) rfl rfl (by kernel_rfl) (by kernel_rfl) (past_by rfl rfl c_5) rfl ?_
   refine HA.val (k := 11) (v := .bool false) rfl rfl (by kernel_rfl) (by kernel_rfl) (want_none) rfl (fun _ ⟨hL_t_Links, c353, c354⟩ => q_pickK false rfl c_5 rfl) ?_
   refine HA.val (k := 12) (v := .bool false) rfl rfl (by kernel_rfl) (by kernel_rfl) (want_none) rfl (fun _ ⟨hL_t_Links, c353, c354⟩ => q_move rfl) ?_
   refine HA.past (k := 13) rfl rfl (by kernel_rfl) (by kernel_rfl) (past_some rfl rfl) rfl ?_
   refine HA.past (k := 14) rfl rfl (by kernel_rfl) (by kernel_rfl) (past_some rfl rfl) rfl ?_
   refine HA.past (k := 15) rfl rfl (by kernel_rfl) (by kernel_rfl) (past_some rfl rfl) rfl ?_
   refine HA.past (k := 18) rfl rfl (by kernel_rfl) (by kernel_rfl) (past_some rfl rfl) rfl ?_
   refine HA.past (k := 19) rfl rfl (by kernel_rfl) (by kernel_rfl) (past_some rfl rfl) rfl ?_
   refine HA.past (k := 20) rfl rfl (by kernel_rfl) (by kernel_rfl) (past_some rfl rfl) rfl ?_
   refine HA.past (k := 21) rfl rfl (by kernel_rfl) (by kernel_rfl) (past_some rfl rfl) rfl ?_
   refine HA.one (k := 16) ⟨⟨hL_t_Links.is, (hS.box 0 rfl), (hS.mp 1 rfl)⟩, (Go.Wk.at_nil _ _)⟩ (by kernel_rfl) ?_
   refine HS.past rfl (past_some rfl rfl) rfl ?_
   refine HA.past (k := 17) rfl rfl (by kernel_rfl) (by kernel_rfl) (past_some rfl rfl) rfl ?_
   refine HA.past (k := 22) rfl rfl (by kernel_rfl) (by kernel_rfl) (past_some rfl rfl) rfl ?_
   refine HA.val (k := 23) (v := .bool false) rfl rfl (by kernel_rfl) (by kernel_rfl) (want_none) rfl (fun _ ⟨hL_t_Links, c353, c354⟩ => q_pick rfl rfl) ?_
   refine HA.val (k := 24) (v := .bool false) rfl rfl (by kernel_rfl) (by kernel_rfl) (want_none) rfl (fun _ ⟨hL_t_Links, c353, c354⟩ => q_assign rfl) ?_
   refine HA.nil ⟨⟨hL_t_Links.is, (hS.box 0 rfl), (hS.mp 1 rfl)⟩, (Go.Wk.at_nil _ _)⟩ (by kernel_rfl) (thenQ_normal (?_))
   refine HW.ret (?_)
   refine ⟨.inr rfl, .bool false, res1 rfl (rt rfl), ?_⟩
   replace hS : St F_1 (fr) h_3 := hS.perm2 [] 2 rfl rfl
   exact ⟨F_1, false, rfl, hK, hS, hL_t_Links, hM⟩

def tree_Of_W (root : Int) (l : List T_api_Branch) (Q : Int → (List T_api_Branch) → Int → Prop) : Prop :=
 (256 ≤ (l.length : Int) → Q 0 [] 6) ∧ (¬ (256 ≤ (l.length : Int)) → ∃ cf_1 : T_api_Branch → T_api_Branch → Int, (∀ x0 x1, tree_order_W x0 x1 (fun r => r = cf_1 x0 x1)) ∧ (slices_SortedFunc_api_Branch_W l cf_1 (fun r_1 => tree_good_W root r_1 (fun r_2 => ((!r_2) = true → Q 0 [] 2) ∧ ((!r_2) = false → Q root r_1 0)))))
set_option maxHeartbeats 40000000 in
set_option maxRecDepth 100000 in
theorem tree_Of_walk {F : Fz} {fr : List Ow} {h0 : Heap} (root : Int) (l : List T_api_Branch) (vl : Value) (hS : St F (fr) h0) (hL_l : SliceF F h0 2 e_api_Branch vl l) {Q : Int → (List T_api_Branch) → Int → Prop} (hM : tree_Of_W root l Q) :
  HC Try.prog 42 #[.int .i64 root, vl] h0 fun u h' => ∃ (F' : Fz) (r0_0_1 : Int) (r0_1_1 : List T_api_Branch) (r1_1 : Int) (vr0_1_1 : Value), u = .tuple #[.agg #[.int .i64 r0_0_1, vr0_1_1], .int .i64 r1_1] ∧ Kp F h0 F' h' ∧ St F' (Ow.own 67 2 e_api_Branch vr0_1_1 r0_1_1 :: fr) h' ∧ (SliceF F' h' 2 e_api_Branch vl l) ∧ Q r0_0_1 r0_1_1 r1_1 := by
 unfold tree_Of_W at hM
 have hK := Kp.refl F h0
 refine HC.of_HW (n := 21) Try.func42 rfl rfl (Nat.le_of_ble_eq_true rfl) ?_
 refine HW.seq ?_
 refine HW.region ?_
 refine HO.eff (want_none) rfl (st_alloc (c := #[.int .i64 0, .slice none 0 0]) hS tz_46 rfl) ?_
 rintro _ h_1 ⟨b_1, rfl, hS, hk⟩
 replace hK := hK.trans hk
 replace hL_l := hL_l.kp hk
 refine oA (.int .i64 0) rfl rfl ?_
 refine HO.nil (thenQ_normal (?_))
 refine HW.seq ?_
 refine HW.seq ?_
 refine HW.region ?_
 refine oM (vl) rfl rfl ?_
 refine oV (.int .i64 (l.length : Int)) (q_len ts_44 (shp hL_l.is) rfl rfl) rfl ?_
 refine oV (.bool (decide (256 ≤ (l.length : Int)))) (q_geq rfl rfl) rfl ?_
 refine HO.nil (thenQ_normal (?_))
 refine HW.cond (decide (256 ≤ (l.length : Int))) rfl (fun c_1 => ?_) (fun c_1 => ?_)
 ·
  replace hM := hM.1 (of_decide_eq_true c_1)
  refine HW.seq ?_
  refine HW.region ?_
  refine oV (.agg #[.int .i64 0, .slice none 0 0]) (q_build tp_46 rfl) rfl ?_
  refine HO.sto (want_none) rfl (st_storeAgg (c' := #[.int .i64 0, .slice none 0 0]) hS (i := 0) rfl ta_46 rfl rfl rfl (by simp [Value.oneCell']) (Nat.le_of_ble_eq_true rfl) rfl) ?_
  rintro h_2 ⟨hS, hk⟩
  replace hS : St F (Ow.box b_1 46 #[.int .i64 0, .slice none 0 0] :: fr) h_2 := hS
  replace hK := hK.trans hk
  replace hL_l := hL_l.kp hk
  refine oA (.int .i64 6) rfl rfl ?_
  refine HO.nil (thenQ_normal (?_))
  refine HW.ret (thenQ_ret (?_))
  refine ⟨.inr rfl, .tuple #[.agg #[.int .i64 0, .slice none 0 0], .int .i64 6], res2 rfl (rca (cs := [.int .i64 0, .slice none 0 0]) ta_46 rfl rfl (Blk.cells (k := 2) (hS.box 0 rfl) rfl)) (rt rfl), ?_⟩
  replace hS := hS.nilOwn 67 2 e_api_Branch
  replace hS : St F (Ow.own 67 2 e_api_Branch (.slice none 0 0) ([] : List T_api_Branch) :: fr) h_2 := hS.perm2 [0] 2 rfl rfl
  exact ⟨F, 0, [], 6, .slice none 0 0, rfl, hK, hS, hL_l, hM⟩
 ·
  replace hM := hM.2 (of_decide_eq_false c_1)
  refine HW.skip (thenQ_normal (?_))
  refine HW.seq ?_
  refine HW.region ?_
  refine oM (.int .i64 root) rfl rfl ?_
  refine oM (vl) rfl rfl ?_
  refine HO.call (want_none) rfl (ec en_65 rfl rfl) (values_hc Try.func65 rfl rfl rfl (shp hL_l.is).cells hS) ?_
  rintro _ h_3 ⟨b_2, rfl, hS, hk⟩
  replace hS : St F (Ow.box b_2 44 #[vl] :: Ow.box b_1 46 #[.int .i64 0, .slice none 0 0] :: fr) h_3 := hS
  replace hK := hK.trans hk
  replace hL_l := hL_l.kp hk
  obtain ⟨cf_1, hc_1, hM⟩ := hM
  have hF_1 : FnP Try.prog F h_3 66 #[] #[] (fun x : T_api_Branch × T_api_Branch => [.agg #[.int .i64 x.1.1, .int .i64 x.1.2], .agg #[.int .i64 x.2.1, .int .i64 x.2.2]]) (fun x => .int .i64 (cf_1 x.1 x.2)) := FnP.of en_66 (fun x h' hk_ => @HC.mono ⟨true⟩ _ _ _ _ _ _ (@tree_order_walk ⟨true⟩ (allF h') [] h' x.1 x.2  (St.init h')  (fun r => r = cf_1 x.1 x.2) (hc_1 x.1 x.2)) (fun u h'' ⟨F', r, hu, k_, _, hr⟩ => ⟨by rw [hu, hr], F', k_⟩))
  have hZ_1 := hS
  have hkz_1 := (hS.freeze).2
  replace hS := hS.freeze.1
  have hL_1 := hZ_1.lent
  refine HO.call (want_none) rfl (ec en_64 rfl rfl) (slices_SortedFunc_api_Branch_walk (fr := (Ow.box b_1 46 #[.int .i64 0, .slice none 0 0] :: fr)) l cf_1 b_2 vl 66 (#[]) hS (hL_l.kp hkz_1) hL_1 (hF_1.kp hkz_1) hM) ?_
  rintro vr_1 h_4 ⟨F_1, r_1, _, rfl, hk, hS, _, _, _, hM⟩
  obtain ⟨hS, hk⟩ := hZ_1.back hk hS
  generalize (fun bz_ => F_1 bz_ ∧ ¬ (Ow.box b_2 44 #[vl]).foot bz_) = F_2 at hS hk
  replace hK := hK.trans hk
  replace hL_l := hL_l.kp hk
  refine oV (.agg #[.int .i64 root, vr_1]) (q_build tp_46 (fill_cons (cs' := #[.int .i64 root, .slice none 0 0]) (vc := #[.int .i64 root]) rfl rfl rfl (Nat.le_of_ble_eq_true rfl) rfl (fill_cons (cs' := #[.int .i64 root, vr_1]) (vc := #[vr_1]) rfl (shp (hS.own 1 rfl).slice).cells rfl (Nat.le_of_ble_eq_true rfl) rfl rfl))) rfl ?_
  refine HO.eff (want_none) rfl (st_alloc (c := #[.int .i64 0, .slice none 0 0]) hS tz_46 rfl) ?_
  rintro _ h_5 ⟨b_3, rfl, hS, hk⟩
  replace hK := hK.trans hk
  replace hL_l := hL_l.kp hk
  refine HO.sto (want_none) rfl (st_storeAgg (c' := #[.int .i64 root, vr_1]) hS (i := 0) rfl ta_46 rfl rfl rfl (List.forall_mem_cons.2 ⟨rfl, (List.forall_mem_cons.2 ⟨(shp (hS.own 2 rfl).slice).one, (fun _ h => by cases h)⟩)⟩) (Nat.le_of_ble_eq_true rfl) rfl) ?_
  rintro h_6 ⟨hS, hk⟩
  replace hS : St F_2 (Ow.box b_3 46 #[.int .i64 root, vr_1] :: Ow.box b_2 44 #[vl] :: Ow.own 67 2 e_api_Branch vr_1 r_1 :: Ow.box b_1 46 #[.int .i64 0, .slice none 0 0] :: fr) h_6 := hS
  replace hK := hK.trans hk
  replace hL_l := hL_l.kp hk
  refine HO.nil (thenQ_normal (?_))
  refine HW.seq ?_
  refine HW.seq ?_
  refine HW.region ?_
  refine oV (.agg #[.int .i64 root, vr_1]) (q_loadAgg (cs := [.int .i64 root, vr_1]) ta_46 rfl rfl (Blk.cells (k := 2) (hS.box 0 rfl) rfl)) rfl ?_
  replace hS : St F_2 (Ow.own 67 2 e_api_Branch vr_1 r_1 :: Ow.box b_3 46 #[.int .i64 root, vr_1] :: Ow.box b_2 44 #[vl] :: Ow.box b_1 46 #[.int .i64 0, .slice none 0 0] :: fr) h_6 := hS.perm2 [2, 0, 1, 3] 4 rfl rfl
  have hZ_2 := hS
  have hkz_2 := (hS.freeze).2
  replace hS := hS.freeze.1
  have hL_2 : SliceF (fun bz_ => F_2 bz_ ∨ (Ow.own 67 2 e_api_Branch vr_1 r_1).foot bz_) h_6 2 e_api_Branch vr_1 r_1 := ⟨(hZ_2.own 0 rfl).slice, fun _ b hb => .inr hb⟩
  refine HO.call (want_none) rfl (ec en_67 rfl rfl) (tree_good_walk (fr := (Ow.box b_3 46 #[.int .i64 root, vr_1] :: Ow.box b_2 44 #[vl] :: Ow.box b_1 46 #[.int .i64 0, .slice none 0 0] :: fr)) root r_1 vr_1 hS hL_2 hM) ?_
  rintro _ h_7 ⟨F_3, r_2, rfl, hk, hS, _, hM⟩
  obtain ⟨hS, hk⟩ := hZ_2.back hk hS
  generalize (fun bz_ => F_3 bz_ ∧ ¬ (Ow.own 67 2 e_api_Branch vr_1 r_1).foot bz_) = F_4 at hS hk
  replace hK := hK.trans hk
  replace hL_l := hL_l.kp hk
  refine oV (.bool (!r_2)) (q_not rfl) rfl ?_
  refine HO.nil (thenQ_normal (?_))
  refine HW.cond (!r_2) rfl (fun c_2 => ?_) (fun c_2 => ?_)
  ·
   replace hM := hM.1 c_2
   refine HW.seq ?_
   refine HW.region ?_
   refine oV (.agg #[.int .i64 0, .slice none 0 0]) (q_build tp_46 rfl) rfl ?_
   refine HO.sto (want_none) rfl (st_storeAgg (c' := #[.int .i64 0, .slice none 0 0]) hS (i := 3) rfl ta_46 rfl rfl rfl (by simp [Value.oneCell']) (Nat.le_of_ble_eq_true rfl) rfl) ?_
   rintro h_8 ⟨hS, hk⟩
   replace hS : St F_4 (Ow.own 67 2 e_api_Branch vr_1 r_1 :: Ow.box b_3 46 #[.int .i64 root, vr_1] :: Ow.box b_2 44 #[vl] :: Ow.box b_1 46 #[.int .i64 0, .slice none 0 0] :: fr) h_8 := hS
   replace hK := hK.trans hk
   replace hL_l := hL_l.kp hk
   refine oA (.int .i64 2) rfl rfl ?_
   refine HO.nil (thenQ_normal (?_))
   refine HW.ret (thenQ_ret (?_))
   refine ⟨.inr rfl, .tuple #[.agg #[.int .i64 0, .slice none 0 0], .int .i64 2], res2 rfl (rca (cs := [.int .i64 0, .slice none 0 0]) ta_46 rfl rfl (Blk.cells (k := 2) (hS.box 3 rfl) rfl)) (rt rfl), ?_⟩
   replace hS := hS.nilOwn 67 2 e_api_Branch
   replace hS : St F_4 (Ow.own 67 2 e_api_Branch (.slice none 0 0) ([] : List T_api_Branch) :: fr) h_8 := hS.perm2 [0] 5 rfl rfl
   exact ⟨F_4, 0, [], 2, .slice none 0 0, rfl, hK, hS, hL_l, hM⟩
  ·
   replace hM := hM.2 c_2
   refine HW.skip (thenQ_normal (?_))
   refine HW.seq ?_
   refine HW.region ?_
   refine oV (.agg #[.int .i64 root, vr_1]) (q_loadAgg (cs := [.int .i64 root, vr_1]) ta_46 rfl rfl (Blk.cells (k := 2) (hS.box 1 rfl) rfl)) rfl ?_
   refine HO.sto (want_none) rfl (st_storeAgg (c' := #[.int .i64 root, vr_1]) hS (i := 3) rfl ta_46 rfl rfl rfl (List.forall_mem_cons.2 ⟨rfl, (List.forall_mem_cons.2 ⟨(shp (hS.own 0 rfl).slice).one, (fun _ h => by cases h)⟩)⟩) (Nat.le_of_ble_eq_true rfl) rfl) ?_
   rintro h_9 ⟨hS, hk⟩
   replace hS : St F_4 (Ow.own 67 2 e_api_Branch vr_1 r_1 :: Ow.box b_3 46 #[.int .i64 root, vr_1] :: Ow.box b_2 44 #[vl] :: Ow.box b_1 46 #[.int .i64 root, vr_1] :: fr) h_9 := hS
   replace hK := hK.trans hk
   replace hL_l := hL_l.kp hk
   refine oA (.int .i64 0) rfl rfl ?_
   refine HO.nil (thenQ_normal (?_))
   refine HW.ret (?_)
   refine ⟨.inr rfl, .tuple #[.agg #[.int .i64 root, vr_1], .int .i64 0], res2 rfl (rca (cs := [.int .i64 root, vr_1]) ta_46 rfl rfl (Blk.cells (k := 2) (hS.box 3 rfl) rfl)) (rt rfl), ?_⟩
   replace hS : St F_4 (Ow.own 67 2 e_api_Branch vr_1 r_1 :: fr) h_9 := hS.perm2 [0] 4 rfl rfl
   exact ⟨F_4, root, r_1, 0, vr_1, rfl, hK, hS, hL_l, hM⟩

def plan_Make_l2 (root : Int) (services : List Int) (fan : Int) (Q : Int → (List T_api_Branch) → Prop) (r0_1 : Int) (r_2 : List Int) (K_1 : (List T_api_Branch) → Int → Prop) (l_1 : List T_api_Branch) (n_1 : Int) : Prop :=
 (n_1 < (r_2.length : Int) → ((0 : Int) ≤ n_1 ∧ n_1 < (r_2.length : Int)) ∧ ((fan ≠ 0) ∧ ((I64 (n_1.tdiv fan)) ∧ (((0 : Int) ≤ n_1.tdiv fan ∧ n_1.tdiv fan < ((([root] : List Int) ++ (cut services 0 r0_1)).length : Int)) ∧ (((l_1.length + ([((gi (([root] : List Int) ++ (cut services 0 r0_1)) (n_1.tdiv fan)), (gi r_2 n_1))] : List T_api_Branch).length) * 16 ≤ 140737488355328) ∧ ((I64 (n_1 + 1)) ∧ (K_1 (l_1 ++ ([((gi (([root] : List Int) ++ (cut services 0 r0_1)) (n_1.tdiv fan)), (gi r_2 n_1))] : List T_api_Branch)) (n_1 + 1)))))))) ∧ (¬ (n_1 < (r_2.length : Int)) → tree_Of_W root l_1 (fun r0_0_1 r0_1_1 r1_2 => Q r0_0_1 r0_1_1))
def plan_Make_W (root : Int) (members : List Int) (services : List Int) (fan : Int) (Q : Int → (List T_api_Branch) → Prop) : Prop :=
 plan_fits_W (members.length : Int) (services.length : Int) fan (fun r_1 => ((!r_1) = true → plan_star_W root members (fun r_0_2 r_1_2 => Q r_0_2 r_1_2)) ∧ ((!r_1) = false → plan_need_W (members.length : Int) fan (fun r0_1 r1_1 => ((0 : Int) ≤ r0_1 ∧ r0_1 ≤ (services.length : Int)) ∧ (((([root] : List Int).length + (cut services 0 r0_1).length) * 8 ≤ 140737488355328) ∧ (∀ vservices : Value, (∀ vmembers : Value, (slices_Concat_s_int_int_W ([(cutV 1 vservices (0 : Int).toNat (r0_1).toNat, cut services 0 r0_1), (vmembers, members)] : List T_s_int) (fun r_2 => loopW (fun (K_1 : (List T_api_Branch × Int) → Prop) (s : List T_api_Branch × Int) => plan_Make_l2 root services fan Q r0_1 r_2 (fun l_1 n_1 => K_1 (l_1, n_1)) s.1 s.2) ([], 0)))))))))
set_option maxHeartbeats 40000000 in
set_option maxRecDepth 100000 in
theorem plan_Make_walk {F : Fz} {fr : List Ow} {h0 : Heap} (root : Int) (members : List Int) (services : List Int) (fan : Int) (vmembers : Value) (vservices : Value) (hS : St F (fr) h0) (hL_members : SliceF F h0 1 encI vmembers members) (hL_services : SliceF F h0 1 encI vservices services) (hD : DM.on = false) {Q : Int → (List T_api_Branch) → Prop} (hM : plan_Make_W root members services fan Q) :
  HC Try.prog 19 #[.int .i64 root, vmembers, vservices, .int .i64 fan] h0 fun u h' => ∃ (F' : Fz) (r_0_1 : Int) (r_1_1 : List T_api_Branch) (vr_1_1 : Value), u = .agg #[.int .i64 r_0_1, vr_1_1] ∧ Kp F h0 F' h' ∧ St F' (Ow.own 67 2 e_api_Branch vr_1_1 r_1_1 :: fr) h' ∧ (SliceF F' h' 1 encI vmembers members) ∧ (SliceF F' h' 1 encI vservices services) ∧ Q r_0_1 r_1_1 := by
 unfold plan_Make_W at hM
 have hK := Kp.refl F h0
 refine HC.of_HW (n := 71) Try.func19 rfl rfl (Nat.le_of_ble_eq_true rfl) ?_
 refine HW.seq ?_
 refine HW.region ?_
 refine HO.eff (want_none) rfl (st_alloc (c := #[.int .i64 0, .slice none 0 0]) hS tz_46 rfl) ?_
 rintro _ h_1 ⟨b_1, rfl, hS, hk⟩
 replace hK := hK.trans hk
 replace hL_members := hL_members.kp hk
 replace hL_services := hL_services.kp hk
 refine HO.nil (thenQ_normal (?_))
 refine HW.seq ?_
 refine HW.seq ?_
 refine HW.region ?_
 refine oM (vmembers) rfl rfl ?_
 refine oV (.int .i64 (members.length : Int)) (q_len ts_31 (shp hL_members.is) rfl rfl) rfl ?_
 refine oM (vservices) rfl rfl ?_
 refine oV (.int .i64 (services.length : Int)) (q_len ts_31 (shp hL_services.is) rfl rfl) rfl ?_
 refine oM (.int .i64 fan) rfl rfl ?_
 refine HO.call (want_none) rfl (ec en_30 rfl rfl) (plan_fits_walk (fr := (Ow.box b_1 46 #[.int .i64 0, .slice none 0 0] :: fr)) (members.length : Int) (services.length : Int) fan hS hM) ?_
 rintro _ h_2 ⟨F_1, r_1, rfl, hk, hS, hM⟩
 replace hK := hK.trans hk
 replace hL_members := hL_members.kp hk
 replace hL_services := hL_services.kp hk
 refine oV (.bool (!r_1)) (q_not rfl) rfl ?_
 refine HO.nil (thenQ_normal (?_))
 refine HW.cond (!r_1) rfl (fun c_1 => ?_) (fun c_1 => ?_)
 ·
  replace hM := hM.1 c_1
  refine HW.seq ?_
  refine HW.region ?_
  refine oM (.int .i64 root) rfl rfl ?_
  refine oM (vmembers) rfl rfl ?_
  refine HO.call (want_none) rfl (ec en_40 rfl rfl) (plan_star_walk (fr := (Ow.box b_1 46 #[.int .i64 0, .slice none 0 0] :: fr)) root members vmembers hS hL_members hM) ?_
  rintro _ h_3 ⟨F_2, r_0_2, r_1_2, vr_1_2, rfl, hk, hS, _, hM⟩
  replace hK := hK.trans hk
  replace hL_members := hL_members.kp hk
  replace hL_services := hL_services.kp hk
  refine HO.sto (want_none) rfl (st_storeAgg (c' := #[.int .i64 r_0_2, vr_1_2]) hS (i := 1) rfl ta_46 rfl rfl rfl (List.forall_mem_cons.2 ⟨rfl, (List.forall_mem_cons.2 ⟨(shp (hS.own 0 rfl).slice).one, (fun _ h => by cases h)⟩)⟩) (Nat.le_of_ble_eq_true rfl) rfl) ?_
  rintro h_4 ⟨hS, hk⟩
  replace hS : St F_2 (Ow.own 67 2 e_api_Branch vr_1_2 r_1_2 :: Ow.box b_1 46 #[.int .i64 r_0_2, vr_1_2] :: fr) h_4 := hS
  replace hK := hK.trans hk
  replace hL_members := hL_members.kp hk
  replace hL_services := hL_services.kp hk
  refine HO.nil (thenQ_normal (?_))
  refine HW.ret (thenQ_ret (?_))
  refine ⟨.inr rfl, .agg #[.int .i64 r_0_2, vr_1_2], res1 rfl (rca (cs := [.int .i64 r_0_2, vr_1_2]) ta_46 rfl rfl (Blk.cells (k := 2) (hS.box 1 rfl) rfl)), ?_⟩
  replace hS : St F_2 (Ow.own 67 2 e_api_Branch vr_1_2 r_1_2 :: fr) h_4 := hS.perm2 [0] 2 rfl rfl
  exact ⟨F_2, r_0_2, r_1_2, vr_1_2, rfl, hK, hS, hL_members, hL_services, hM⟩
 ·
  replace hM := hM.2 c_1
  refine HW.skip (thenQ_normal (?_))
  refine HW.seq ?_
  refine HW.region ?_
  refine oM (vmembers) rfl rfl ?_
  refine oV (.int .i64 (members.length : Int)) (q_len ts_31 (shp hL_members.is) rfl rfl) rfl ?_
  refine oM (.int .i64 fan) rfl rfl ?_
  refine HO.call (want_none) rfl (ec en_29 rfl rfl) (plan_need_walk (fr := (Ow.box b_1 46 #[.int .i64 0, .slice none 0 0] :: fr)) (members.length : Int) fan hS hM) ?_
  rintro _ h_5 ⟨F_3, r0_1, r1_1, rfl, hk, hS, hM⟩
  replace hK := hK.trans hk
  replace hL_members := hL_members.kp hk
  replace hL_services := hL_services.kp hk
  refine oM (.tuple #[.int .i64 r0_1, .bool r1_1]) rfl rfl ?_
  refine oV (.int .i64 r0_1) (q_extract rfl rfl) rfl ?_
  refine oV (.bool r1_1) (q_extract rfl rfl) rfl ?_
  refine oA (.int .i64 r0_1) rfl rfl ?_
  refine oA (.bool r1_1) rfl rfl ?_
  refine HO.nil (thenQ_normal (?_))
  refine HW.seq ?_
  refine HW.region ?_
  refine oM (.int .i64 root) rfl rfl ?_
  refine HO.eff (want_none) rfl (st_lit (enc := encI) (cells := #[.int .i64 root]) #[.int .i64 0] ([root] : List Int) hS tl_31 (by decide) (by decide) (by kernel_rfl) (by kernel_rfl) rfl (by intro x hx; rfl) rfl) ?_
  rintro _ h_6 ⟨b_2, rfl, hS, hk⟩
  replace hK := hK.trans hk
  replace hL_members := hL_members.kp hk
  replace hL_services := hL_services.kp hk
  refine oM (vservices) rfl rfl ?_
  refine oM (.int .i64 r0_1) rfl rfl ?_
  obtain ⟨ho_1, hM⟩ := hM
  refine oV (cutV 1 vservices (0 : Int).toNat (r0_1).toNat) (q_slH ts_31 hL_services.is rfl rfl ho_1) rfl ?_
  obtain ⟨ho_2, hM⟩ := hM
  refine HO.eff (want_none) rfl (st_append te_31 hS (i := 0) rfl (cutIs hL_services.is 0 r0_1 (Int.le_refl _) ho_1.1 ho_1.2) rfl rfl rfl (by intro a _ u hu; simp [encI, encI, encN, encB, encT] at hu; subst hu; rfl) ho_2 (by omega)) ?_
  rintro v_1 h_7 ⟨hS, hk⟩
  replace hS : St F_3 (Ow.own 3 1 encI v_1 (([root] : List Int) ++ (cut services 0 r0_1)) :: Ow.box b_1 46 #[.int .i64 0, .slice none 0 0] :: fr) h_7 := hS
  replace hK := hK.trans hk
  replace hL_members := hL_members.kp hk
  replace hL_services := hL_services.kp hk
  refine oA (v_1) rfl rfl ?_
  refine HO.nil (thenQ_normal (?_))
  refine HW.seq ?_
  refine HW.region ?_
  refine oA (.slice none 0 0) rfl rfl ?_
  refine HO.nil (thenQ_normal (?_))
  refine HW.seq ?_
  refine HW.seq ?_
  refine HW.region ?_
  refine oM (vservices) rfl rfl ?_
  refine oM (.int .i64 r0_1) rfl rfl ?_
  refine oV (cutV 1 vservices (0 : Int).toNat (r0_1).toNat) (q_slH ts_31 hL_services.is rfl rfl ho_1) rfl ?_
  refine oM (vmembers) rfl rfl ?_
  replace hM := hM vservices
  replace hM := hM vmembers
  refine HO.eff (want_none) rfl (st_lit (enc := e_s_int) (cells := #[cutV 1 vservices (0 : Int).toNat (r0_1).toNat, vmembers]) #[.slice none 0 0, .slice none 0 0] ([(cutV 1 vservices (0 : Int).toNat (r0_1).toNat, cut services 0 r0_1), (vmembers, members)] : List T_s_int) hS tl_83 (by decide) (by decide) (by kernel_rfl) (fill_cons (cs' := #[cutV 1 vservices (0 : Int).toNat (r0_1).toNat, .slice none 0 0]) (vc := #[cutV 1 vservices (0 : Int).toNat (r0_1).toNat]) rfl (shp (cutIs hL_services.is 0 r0_1 (Int.le_refl _) ho_1.1 ho_1.2)).cells rfl (Nat.le_of_ble_eq_true rfl) rfl (fill_cons (cs' := #[cutV 1 vservices (0 : Int).toNat (r0_1).toNat, vmembers]) (vc := #[vmembers]) rfl (shp hL_members.is).cells rfl (Nat.le_of_ble_eq_true rfl) rfl rfl)) rfl (by intro x hx; rfl) rfl) ?_
  rintro _ h_8 ⟨b_3, rfl, hS, hk⟩
  replace hK := hK.trans hk
  replace hL_members := hL_members.kp hk
  replace hL_services := hL_services.kp hk
  have hN_1 : NfL nf_s_int F_3 h_8 ([(cutV 1 vservices (0 : Int).toNat (r0_1).toNat, cut services 0 r0_1), (vmembers, members)] : List T_s_int) := (NfL.cons (nfm_s_int (cutV 1 vservices (0 : Int).toNat (r0_1).toNat, cut services 0 r0_1) (cutF hL_services 0 r0_1 (Int.le_refl _) ho_1.1 ho_1.2)) (NfL.cons (nfm_s_int (vmembers, members) hL_members) (NfL.nil _ _ _)))
  have hZ_1 := hS
  have hkz_1 := (hS.freeze).2
  replace hS := hS.freeze.1
  have hL_1 : SliceF (fun bz_ => F_3 bz_ ∨ (Ow.own 31 1 e_s_int (.slice (some ⟨b_3, 0, none⟩) 2 2) ([(cutV 1 vservices (0 : Int).toNat (r0_1).toNat, cut services 0 r0_1), (vmembers, members)] : List T_s_int)).foot bz_) h_8 1 e_s_int (.slice (some ⟨b_3, 0, none⟩) 2 2) ([(cutV 1 vservices (0 : Int).toNat (r0_1).toNat, cut services 0 r0_1), (vmembers, members)] : List T_s_int) := ⟨(hZ_1.own 0 rfl).slice, fun _ b hb => .inr hb⟩
  refine HO.call (want_none) rfl (ec en_41 rfl rfl) (slices_Concat_s_int_int_walk (fr := (Ow.own 3 1 encI v_1 (([root] : List Int) ++ (cut services 0 r0_1)) :: Ow.box b_1 46 #[.int .i64 0, .slice none 0 0] :: fr)) ([(cutV 1 vservices (0 : Int).toNat (r0_1).toNat, cut services 0 r0_1), (vmembers, members)] : List T_s_int) (.slice (some ⟨b_3, 0, none⟩) 2 2) hS (NfL.kp hN_1 hkz_1) hL_1 hD hM) ?_
  rintro vr_1 h_9 ⟨F_4, r_2, _, rfl, hk, hS, _, _, hM⟩
  obtain ⟨hS, hk⟩ := hZ_1.back hk hS
  generalize (fun bz_ => F_4 bz_ ∧ ¬ (Ow.own 31 1 e_s_int (.slice (some ⟨b_3, 0, none⟩) 2 2) ([(cutV 1 vservices (0 : Int).toNat (r0_1).toNat, cut services 0 r0_1), (vmembers, members)] : List T_s_int)).foot bz_) = F_5 at hS hk
  replace hK := hK.trans hk
  replace hL_members := hL_members.kp hk
  replace hL_services := hL_services.kp hk
  replace hN_1 := hN_1.kp hk
  refine oV (.int .i64 (r_2.length : Int)) (q_len ts_31 (shp (hS.own 1 rfl).slice) rfl rfl) rfl ?_
  refine oM (.int .i64 0) rfl rfl ?_
  refine HO.nil (thenQ_normal (?_))
  refine HW.block ?_
  obtain ⟨I_1, m_1, hI_1, hR_1⟩ := hM
  replace hS := hS.nilOwn 67 2 e_api_Branch
  replace hS : St F_5 (Ow.box b_1 46 #[.int .i64 0, .slice none 0 0] :: Ow.own 3 1 encI v_1 (([root] : List Int) ++ (cut services 0 r0_1)) :: Ow.own 67 2 e_api_Branch (.slice none 0 0) ([] : List T_api_Branch) :: Ow.own 3 1 encI vr_1 r_2 :: fr) h_9 := hS.perm2 [4, 3, 0, 2] 5 rfl rfl
  refine HW.loop (S := List T_api_Branch × Int) (fun s f h => match s with | (l_1, n_1) => ∃ (F' : Fz) (vl_1 : Value), f 0 = .int .i64 root ∧ f 3 = .int .i64 fan ∧ f 8 = .pointer (some ⟨b_1, 0, none⟩) ∧ f 11 = v_1 ∧ f 12 = vl_1 ∧ f 45 = vr_1 ∧ f 46 = .int .i64 (r_2.length : Int) ∧ f 47 = .int .i64 n_1 ∧ Kp F h0 F' h ∧ St F' (Ow.box b_1 46 #[.int .i64 0, .slice none 0 0] :: Ow.own 3 1 encI v_1 (([root] : List Int) ++ (cut services 0 r0_1)) :: Ow.own 67 2 e_api_Branch vl_1 l_1 :: Ow.own 3 1 encI vr_1 r_2 :: fr) h ∧ (SliceF F' h 1 encI vmembers members) ∧ (SliceF F' h 1 encI vservices services) ∧ (NfL nf_s_int F' h ([(cutV 1 vservices (0 : Int).toNat (r0_1).toNat, cut services 0 r0_1), (vmembers, members)] : List T_s_int)) ∧ I_1 (l_1, n_1)) m_1 ([], 0) ⟨F_5, .slice none 0 0, rfl, rfl, rfl, rfl, rfl, rfl, rfl, rfl, hK, hS, hL_members, hL_services, hN_1, hI_1⟩ ?_
  rintro ⟨l_1, n_1⟩ f_1 h_10 ⟨F_6, vl_1, e0, e3, e8, e11, e12, e45, e46, e47, hK, hS, hL_members, hL_services, hN_1, hI0⟩
  obtain ⟨K_1, hKe_1⟩ : ∃ K : (List T_api_Branch) → Int → Prop, K = fun l_1' n_1' => I_1 (l_1', n_1') ∧ m_1 (l_1', n_1') < m_1 (l_1, n_1) := ⟨_, rfl⟩
  have hM : plan_Make_l2 root services fan Q r0_1 r_2 K_1 l_1 n_1 := by rw [hKe_1]; exact hR_1 (l_1, n_1) hI0
  unfold plan_Make_l2 at hM
  refine HW.fr [(0, .int .i64 root), (3, .int .i64 fan), (8, .pointer (some ⟨b_1, 0, none⟩)), (11, v_1), (12, vl_1), (45, vr_1), (46, .int .i64 (r_2.length : Int)), (47, .int .i64 n_1)] ⟨e0, e3, e8, e11, e12, e45, e46, e47, trivial⟩ ?_
  refine HW.seq ?_
  refine HW.region ?_
  refine oV (.bool (decide (n_1 < (r_2.length : Int)))) (q_lss rfl rfl) rfl ?_
  refine HO.nil (thenQ_normal (?_))
  refine HW.seq ?_
  refine HW.cond (decide (n_1 < (r_2.length : Int))) rfl (fun c_2 => ?_) (fun c_2 => ?_)
  ·
   replace hM := hM.1 (of_decide_eq_true c_2)
   refine HW.skip (thenQ_normal (?_))
   refine HW.seq ?_
   refine HW.block ?_
   refine HW.seq ?_
   refine HW.region ?_
   refine oM (.int .i64 n_1) rfl rfl ?_
   obtain ⟨ho_3, hM⟩ := hM
   refine oV (elemPtr 1 vr_1 (n_1).toNat) (q_idx ts_31 (hS.own 3 rfl).slice rfl rfl ho_3) rfl ?_
   refine oV (.int .i64 (gi r_2 n_1)) (q_ldElem to_3 (hS.own 3 rfl).slice rfl ho_3 rfl) rfl ?_
   refine oA (.int .i64 n_1) rfl rfl ?_
   refine oA (.int .i64 (gi r_2 n_1)) rfl rfl ?_
   refine HO.nil (thenQ_normal (?_))
   refine HW.region ?_
   refine oM (vl_1) rfl rfl ?_
   refine oM (v_1) rfl rfl ?_
   refine oM (.int .i64 n_1) rfl rfl ?_
   refine oM (.int .i64 fan) rfl rfl ?_
   obtain ⟨ho_4, hM⟩ := hM
   obtain ⟨ho_5, hM⟩ := hM
   refine oV (.int .i64 (n_1.tdiv fan)) (q_quoN _ rfl rfl ho_4 rfl ho_5.1 ho_5.2) rfl ?_
   obtain ⟨ho_6, hM⟩ := hM
   refine oV (elemPtr 1 v_1 (n_1.tdiv fan).toNat) (q_idx ts_31 (hS.own 1 rfl).slice rfl rfl ho_6) rfl ?_
   refine oV (.int .i64 (gi (([root] : List Int) ++ (cut services 0 r0_1)) (n_1.tdiv fan))) (q_ldElem to_3 (hS.own 1 rfl).slice rfl ho_6 rfl) rfl ?_
   refine oM (.int .i64 (gi r_2 n_1)) rfl rfl ?_
   refine oV (.agg #[.int .i64 (gi (([root] : List Int) ++ (cut services 0 r0_1)) (n_1.tdiv fan)), .int .i64 (gi r_2 n_1)]) (q_build tp_67 rfl) rfl ?_
   refine HO.eff (want_none) rfl (st_lit (enc := e_api_Branch) (cells := #[.int .i64 (gi (([root] : List Int) ++ (cut services 0 r0_1)) (n_1.tdiv fan)), .int .i64 (gi r_2 n_1)]) #[.int .i64 0, .int .i64 0] ([((gi (([root] : List Int) ++ (cut services 0 r0_1)) (n_1.tdiv fan)), (gi r_2 n_1))] : List T_api_Branch) hS tl_44 (by decide) (by decide) (by kernel_rfl) (by kernel_rfl) rfl (by intro x hx; rfl) rfl) ?_
   rintro _ h_11 ⟨b_4, rfl, hS, hk⟩
   replace hK := hK.trans hk
   replace hL_members := hL_members.kp hk
   replace hL_services := hL_services.kp hk
   replace hN_1 := hN_1.kp hk
   obtain ⟨ho_7, hM⟩ := hM
   refine HO.eff (want_none) rfl (st_append te_44 hS (i := 3) rfl (hS.own 0 rfl).slice rfl rfl rfl (by intro a _ u hu; simp [e_api_Branch, encI, encN, encB, encT] at hu; rcases hu with rfl | rfl <;> rfl) ho_7 (by omega)) ?_
   rintro v_2 h_12 ⟨hS, hk⟩
   replace hS : St F_6 (Ow.own 67 2 e_api_Branch (.slice (some ⟨b_4, 0, none⟩) 1 1) ([((gi (([root] : List Int) ++ (cut services 0 r0_1)) (n_1.tdiv fan)), (gi r_2 n_1))] : List T_api_Branch) :: Ow.box b_1 46 #[.int .i64 0, .slice none 0 0] :: Ow.own 3 1 encI v_1 (([root] : List Int) ++ (cut services 0 r0_1)) :: Ow.own 67 2 e_api_Branch v_2 (l_1 ++ ([((gi (([root] : List Int) ++ (cut services 0 r0_1)) (n_1.tdiv fan)), (gi r_2 n_1))] : List T_api_Branch)) :: Ow.own 3 1 encI vr_1 r_2 :: fr) h_12 := hS
   replace hK := hK.trans hk
   replace hL_members := hL_members.kp hk
   replace hL_services := hL_services.kp hk
   replace hN_1 := hN_1.kp hk
   refine oA (v_2) rfl rfl ?_
   refine HO.nil (blockQ_normal (thenQ_normal (?_)))
   refine HW.region ?_
   obtain ⟨ho_8, hM⟩ := hM
   refine oV (.int .i64 (n_1 + 1)) (q_addN _ rfl rfl rfl ho_8.1 ho_8.2) rfl ?_
   refine oM (.int .i64 (n_1 + 1)) rfl rfl ?_
   refine HO.nil (thenQ_normal (?_))
   replace hS : St F_6 (Ow.box b_1 46 #[.int .i64 0, .slice none 0 0] :: Ow.own 3 1 encI v_1 (([root] : List Int) ++ (cut services 0 r0_1)) :: Ow.own 67 2 e_api_Branch v_2 (l_1 ++ ([((gi (([root] : List Int) ++ (cut services 0 r0_1)) (n_1.tdiv fan)), (gi r_2 n_1))] : List T_api_Branch)) :: Ow.own 3 1 encI vr_1 r_2 :: fr) h_12 := hS.perm2 [1, 2, 3, 4] 5 rfl rfl
   rw [hKe_1] at hM
   exact ⟨(l_1 ++ ([((gi (([root] : List Int) ++ (cut services 0 r0_1)) (n_1.tdiv fan)), (gi r_2 n_1))] : List T_api_Branch), n_1 + 1), ⟨F_6, v_2, rfl, rfl, rfl, rfl, rfl, rfl, rfl, rfl, hK, hS, hL_members, hL_services, hN_1, hM.1⟩, hM.2⟩
  ·
   replace hM := hM.2 (of_decide_eq_false c_2)
   refine HW.exit (thenQ_exit (thenQ_exit (blockQ_exit (thenQ_normal (?_)))))
   refine HW.seq ?_
   refine HW.region ?_
   refine oM (.int .i64 root) rfl rfl ?_
   refine oM (vl_1) rfl rfl ?_
   replace hS : St F_6 (Ow.own 67 2 e_api_Branch vl_1 l_1 :: Ow.box b_1 46 #[.int .i64 0, .slice none 0 0] :: Ow.own 3 1 encI v_1 (([root] : List Int) ++ (cut services 0 r0_1)) :: Ow.own 3 1 encI vr_1 r_2 :: fr) h_10 := hS.perm2 [2, 0, 1, 3] 4 rfl rfl
   have hZ_2 := hS
   have hkz_2 := (hS.freeze).2
   replace hS := hS.freeze.1
   have hL_2 : SliceF (fun bz_ => F_6 bz_ ∨ (Ow.own 67 2 e_api_Branch vl_1 l_1).foot bz_) h_10 2 e_api_Branch vl_1 l_1 := ⟨(hZ_2.own 0 rfl).slice, fun _ b hb => .inr hb⟩
   refine HO.call (want_none) rfl (ec en_42 rfl rfl) (tree_Of_walk (fr := (Ow.box b_1 46 #[.int .i64 0, .slice none 0 0] :: Ow.own 3 1 encI v_1 (([root] : List Int) ++ (cut services 0 r0_1)) :: Ow.own 3 1 encI vr_1 r_2 :: fr)) root l_1 vl_1 hS hL_2 hM) ?_
   rintro _ h_13 ⟨F_7, r0_0_1, r0_1_1, r1_2, vr0_1_1, rfl, hk, hS, _, hM⟩
   obtain ⟨hS, hk⟩ := hZ_2.back hk hS
   generalize (fun bz_ => F_7 bz_ ∧ ¬ (Ow.own 67 2 e_api_Branch vl_1 l_1).foot bz_) = F_8 at hS hk
   replace hK := hK.trans hk
   replace hL_members := hL_members.kp hk
   replace hL_services := hL_services.kp hk
   refine oM (.tuple #[.agg #[.int .i64 r0_0_1, vr0_1_1], .int .i64 r1_2]) rfl rfl ?_
   refine oV (.agg #[.int .i64 r0_0_1, vr0_1_1]) (q_extract rfl rfl) rfl ?_
   refine oV (.int .i64 r1_2) (q_extract rfl rfl) rfl ?_
   refine HO.eff (want_none) rfl (st_alloc (c := #[.int .i64 0, .slice none 0 0]) hS tz_46 rfl) ?_
   rintro _ h_14 ⟨b_5, rfl, hS, hk⟩
   replace hK := hK.trans hk
   replace hL_members := hL_members.kp hk
   replace hL_services := hL_services.kp hk
   refine HO.sto (want_none) rfl (st_storeAgg (c' := #[.int .i64 r0_0_1, vr0_1_1]) hS (i := 0) rfl ta_46 rfl rfl rfl (List.forall_mem_cons.2 ⟨rfl, (List.forall_mem_cons.2 ⟨(shp (hS.own 2 rfl).slice).one, (fun _ h => by cases h)⟩)⟩) (Nat.le_of_ble_eq_true rfl) rfl) ?_
   rintro h_15 ⟨hS, hk⟩
   replace hS : St F_8 (Ow.box b_5 46 #[.int .i64 r0_0_1, vr0_1_1] :: Ow.own 67 2 e_api_Branch vl_1 l_1 :: Ow.own 67 2 e_api_Branch vr0_1_1 r0_1_1 :: Ow.box b_1 46 #[.int .i64 0, .slice none 0 0] :: Ow.own 3 1 encI v_1 (([root] : List Int) ++ (cut services 0 r0_1)) :: Ow.own 3 1 encI vr_1 r_2 :: fr) h_15 := hS
   replace hK := hK.trans hk
   replace hL_members := hL_members.kp hk
   replace hL_services := hL_services.kp hk
   refine oA (.int .i64 r1_2) rfl rfl ?_
   refine HO.nil (thenQ_normal (?_))
   refine HW.seq ?_
   refine HW.region ?_
   refine oV (.agg #[.int .i64 r0_0_1, vr0_1_1]) (q_loadAgg (cs := [.int .i64 r0_0_1, vr0_1_1]) ta_46 rfl rfl (Blk.cells (k := 2) (hS.box 0 rfl) rfl)) rfl ?_
   refine HO.sto (want_none) rfl (st_storeAgg (c' := #[.int .i64 r0_0_1, vr0_1_1]) hS (i := 3) rfl ta_46 rfl rfl rfl (List.forall_mem_cons.2 ⟨rfl, (List.forall_mem_cons.2 ⟨(shp (hS.own 2 rfl).slice).one, (fun _ h => by cases h)⟩)⟩) (Nat.le_of_ble_eq_true rfl) rfl) ?_
   rintro h_16 ⟨hS, hk⟩
   replace hS : St F_8 (Ow.box b_5 46 #[.int .i64 r0_0_1, vr0_1_1] :: Ow.own 67 2 e_api_Branch vl_1 l_1 :: Ow.own 67 2 e_api_Branch vr0_1_1 r0_1_1 :: Ow.box b_1 46 #[.int .i64 r0_0_1, vr0_1_1] :: Ow.own 3 1 encI v_1 (([root] : List Int) ++ (cut services 0 r0_1)) :: Ow.own 3 1 encI vr_1 r_2 :: fr) h_16 := hS
   replace hK := hK.trans hk
   replace hL_members := hL_members.kp hk
   replace hL_services := hL_services.kp hk
   refine HO.nil (thenQ_normal (?_))
   refine HW.ret (?_)
   refine ⟨.inr rfl, .agg #[.int .i64 r0_0_1, vr0_1_1], res1 rfl (rca (cs := [.int .i64 r0_0_1, vr0_1_1]) ta_46 rfl rfl (Blk.cells (k := 2) (hS.box 3 rfl) rfl)), ?_⟩
   replace hS : St F_8 (Ow.own 67 2 e_api_Branch vr0_1_1 r0_1_1 :: fr) h_16 := hS.perm2 [2] 6 rfl rfl
   exact ⟨F_8, r0_0_1, r0_1_1, vr0_1_1, rfl, hK, hS, hL_members, hL_services, hM⟩

def ref01_Sign_W (n : Int) (Q : Str → Prop) : Prop :=
 ((0 : Int) ≤ n ∧ n ≤ ((u8w (n + 1)).toNat : Int) ∧ ((u8w (n + 1)).toNat : Int) ≤ ((([48, 49, 50, 51, 52, 53, 54, 55, 56, 57, 97, 98, 99, 100, 101, 102] : Str)).length : Int)) ∧ (Q (cut ([48, 49, 50, 51, 52, 53, 54, 55, 56, 57, 97, 98, 99, 100, 101, 102] : Str) n ((u8w (n + 1)).toNat : Int)))
set_option maxHeartbeats 40000000 in
set_option maxRecDepth 100000 in
theorem ref01_Sign_walk {F : Fz} {fr : List Ow} {h0 : Heap} (n : Int) (hS : St F (fr) h0)  {Q : Str → Prop} (hM : ref01_Sign_W n Q) :
  HC Try.prog 94 #[.int .u8 n] h0 fun u h' => ∃ (F' : Fz) (r_1 : Str), u = .string (bs r_1) ∧ Kp F h0 F' h' ∧ St F' (fr) h' ∧ Q r_1 := by
 unfold ref01_Sign_W at hM
 have hK := Kp.refl F h0
 refine HC.of_HW (n := 7) Try.func94 rfl rfl (Nat.le_of_ble_eq_true rfl) ?_
 refine HW.seq ?_
 refine HW.region ?_
 refine oA (.string (bs [])) rfl rfl ?_
 refine HO.nil (thenQ_normal (?_))
 refine HW.seq ?_
 refine HW.region ?_
 refine oM (.int .u8 n) rfl rfl ?_
 refine oM (.int .u8 n) rfl rfl ?_
 refine oV (.int .u8 ((u8w (n + 1)).toNat : Int)) ((q_add rfl rfl).of_eq (u8w_v _)) rfl ?_
 obtain ⟨ho_1, hM⟩ := hM
 refine oV (.string (bs (cut ([48, 49, 50, 51, 52, 53, 54, 55, 56, 57, 97, 98, 99, 100, 101, 102] : Str) n ((u8w (n + 1)).toNat : Int)))) (q_strLH Try.underlying9 rfl rfl rfl ho_1) rfl ?_
 refine oA (.string (bs (cut ([48, 49, 50, 51, 52, 53, 54, 55, 56, 57, 97, 98, 99, 100, 101, 102] : Str) n ((u8w (n + 1)).toNat : Int)))) rfl rfl ?_
 refine HO.nil (thenQ_normal (?_))
 refine HW.ret (?_)
 refine ⟨.inr rfl, .string (bs (cut ([48, 49, 50, 51, 52, 53, 54, 55, 56, 57, 97, 98, 99, 100, 101, 102] : Str) n ((u8w (n + 1)).toNat : Int))), res1 rfl (rt rfl), ?_⟩
 exact ⟨F, cut ([48, 49, 50, 51, 52, 53, 54, 55, 56, 57, 97, 98, 99, 100, 101, 102] : Str) n ((u8w (n + 1)).toNat : Int), rfl, hK, hS, hM⟩

def ref03_Num_j1 (base : Int) (n_1 : Int) (s_1 : Str) (K_1 : Int → Str → Prop) : Prop :=
 (base ≠ 0) ∧ (ref01_Sign_W ((u8w (n_1.tmod base)).toNat : Int) (fun r_2 => ((r_2.length : Int) + (s_1.length : Int) ≤ 9223372036854775807) ∧ ((I64 (n_1.tdiv base)) ∧ (K_1 (n_1.tdiv base) (r_2 ++ s_1)))))
def ref03_Num_l1 (base : Int) (Q : Str → Prop) (K_1 : Int → Str → Prop) (n_1 : Int) (s_1 : Str) : Prop :=
 ((s_1 : Str) = [] → ref03_Num_j1 base n_1 s_1 K_1) ∧ (¬ ((s_1 : Str) = []) → (0 < n_1 → ref03_Num_j1 base n_1 s_1 K_1) ∧ (¬ (0 < n_1) → Q s_1))
def ref03_Num_W (n : Int) (base : Int) (Q : Str → Prop) : Prop :=
 loopW (fun (K_1 : (Int × Str) → Prop) (s : Int × Str) => ref03_Num_l1 base Q (fun n_1 s_1 => K_1 (n_1, s_1)) s.1 s.2) (n, [])
set_option maxHeartbeats 40000000 in
set_option maxRecDepth 100000 in
theorem ref03_Num_walk {F : Fz} {fr : List Ow} {h0 : Heap} (n : Int) (base : Int) (hS : St F (fr) h0)  {Q : Str → Prop} (hM : ref03_Num_W n base Q) :
  HC Try.prog 78 #[.int .i64 n, .int .i64 base] h0 fun u h' => ∃ (F' : Fz) (r_1 : Str), u = .string (bs r_1) ∧ Kp F h0 F' h' ∧ St F' (fr) h' ∧ Q r_1 := by
 unfold ref03_Num_W at hM
 have hK := Kp.refl F h0
 refine HC.of_HW (n := 23) Try.func78 rfl rfl (Nat.le_of_ble_eq_true rfl) ?_
 refine HW.seq ?_
 refine HW.region ?_
 refine oA (.string (bs [])) rfl rfl ?_
 refine HO.nil (thenQ_normal (?_))
 refine HW.seq ?_
 refine HW.region ?_
 refine oA (.string (bs [])) rfl rfl ?_
 refine HO.nil (thenQ_normal (?_))
 refine HW.seq ?_
 refine HW.block ?_
 obtain ⟨I_1, m_1, hI_1, hR_1⟩ := hM
 refine HW.loop (S := Int × Str) (fun s f h => match s with | (n_1, s_1) => ∃ (F' : Fz), f 0 = .int .i64 n_1 ∧ f 1 = .int .i64 base ∧ f 4 = .string (bs []) ∧ f 5 = .string (bs s_1) ∧ Kp F h0 F' h ∧ St F' (fr) h ∧ I_1 (n_1, s_1)) m_1 (n, []) ⟨F, rfl, rfl, rfl, rfl, hK, hS, hI_1⟩ ?_
 rintro ⟨n_1, s_1⟩ f_1 h_1 ⟨F_1, e0, e1, e4, e5, hK, hS, hI0⟩
 obtain ⟨K_1, hKe_1⟩ : ∃ K : Int → Str → Prop, K = fun n_1' s_1' => I_1 (n_1', s_1') ∧ m_1 (n_1', s_1') < m_1 (n_1, s_1) := ⟨_, rfl⟩
 have hM : ref03_Num_l1 base Q K_1 n_1 s_1 := by rw [hKe_1]; exact hR_1 (n_1, s_1) hI0
 unfold ref03_Num_l1 at hM
 refine HW.fr [(0, .int .i64 n_1), (1, .int .i64 base), (4, .string (bs [])), (5, .string (bs s_1))] ⟨e0, e1, e4, e5, trivial⟩ ?_
 refine HW.seq_mid (fun f h => ∃ (F' : Fz), f 0 = .int .i64 n_1 ∧ f 1 = .int .i64 base ∧ f 4 = .string (bs []) ∧ f 5 = .string (bs s_1) ∧ Kp F h0 F' h ∧ St F' (fr) h ∧ ref03_Num_j1 base n_1 s_1 K_1) ?_ ?_
 ·
  refine HW.seq ?_
  refine HW.region ?_
  refine oM (.string (bs s_1)) rfl rfl ?_
  refine oV (.bool (decide ((s_1 : Str) = []))) (q_eqlT rfl rfl) rfl ?_
  refine oM (.bool (decide ((s_1 : Str) = []))) rfl rfl ?_
  rcases Bool.eq_false_or_eq_true (decide ((s_1 : Str) = [])) with c_1 | c_1
  ·
   replace hM := hM.1 (of_decide_eq_true c_1)
   refine HO.past (past_by rfl rfl c_1) rfl ?_
   refine HO.past (past_by rfl rfl c_1) rfl ?_
   refine oV (.bool true) (q_pickK true rfl c_1 rfl) rfl ?_
   refine HO.nil (thenQ_normal (?_))
   refine HW.condT rfl ?_
   refine HW.skip (thenQ_normal (?_))
   exact ⟨F_1, rfl, rfl, rfl, rfl, hK, hS, hM⟩
  ·
   replace hM := hM.2 (of_decide_eq_false c_1)
   refine HO.val (v := .int .i64 n_1) (want_by rfl rfl c_1) rfl (q_move rfl) ?_
   refine HO.val (v := .bool (decide (0 < n_1))) (want_by rfl rfl c_1) rfl (q_gtr rfl rfl) ?_
   refine oV (.bool (decide (0 < n_1))) (q_pickK false rfl c_1 rfl) rfl ?_
   refine HO.nil (thenQ_normal (?_))
   refine HW.cond (decide (0 < n_1)) rfl (fun c_2 => ?_) (fun c_2 => ?_)
   ·
    replace hM := hM.1 (of_decide_eq_true c_2)
    refine HW.skip (thenQ_normal (?_))
    exact ⟨F_1, rfl, rfl, rfl, rfl, hK, hS, hM⟩
   ·
    replace hM := hM.2 (of_decide_eq_false c_2)
    refine HW.exit (thenQ_exit (thenQ_exit (blockQ_exit (thenQ_normal (?_)))))
    refine HW.seq ?_
    refine HW.region ?_
    refine oM (.string (bs s_1)) rfl rfl ?_
    refine oA (.string (bs s_1)) rfl rfl ?_
    refine HO.nil (thenQ_normal (?_))
    refine HW.ret (?_)
    refine ⟨.inr rfl, .string (bs s_1), res1 rfl (rt rfl), ?_⟩
    exact ⟨F_1, s_1, rfl, hK, hS, hM⟩
 ·
  rintro f_2 h_2 ⟨F_2, e0, e1, e4, e5, hK, hS, hM⟩
  unfold ref03_Num_j1 at hM
  refine HW.fr [(0, .int .i64 n_1), (1, .int .i64 base), (4, .string (bs [])), (5, .string (bs s_1))] ⟨e0, e1, e4, e5, trivial⟩ ?_
  refine HW.block ?_
  refine HW.seq ?_
  refine HW.region ?_
  refine oM (.int .i64 n_1) rfl rfl ?_
  refine oM (.int .i64 base) rfl rfl ?_
  obtain ⟨ho_1, hM⟩ := hM
  refine oV (.int .i64 (n_1.tmod base)) (q_rem rfl rfl ho_1) rfl ?_
  refine oV (.int .u8 ((u8w (n_1.tmod base)).toNat : Int)) ((q_convInt (n := n_1.tmod base) Try.underlying3 Try.underlying5 rfl rfl).of_eq (u8w_v _)) rfl ?_
  refine HO.call (want_none) rfl (ec en_94 rfl rfl) (ref01_Sign_walk (fr := (fr)) ((u8w (n_1.tmod base)).toNat : Int) hS hM) ?_
  rintro _ h_3 ⟨F_3, r_2, rfl, hk, hS, hM⟩
  replace hK := hK.trans hk
  refine oM (.string (bs s_1)) rfl rfl ?_
  obtain ⟨ho_2, hM⟩ := hM
  refine oV (.string (bs (r_2 ++ s_1))) (q_addT rfl rfl ho_2) rfl ?_
  refine oA (.string (bs (r_2 ++ s_1))) rfl rfl ?_
  refine HO.nil (thenQ_normal (?_))
  refine HW.region ?_
  refine oM (.int .i64 n_1) rfl rfl ?_
  refine oM (.int .i64 base) rfl rfl ?_
  obtain ⟨ho_3, hM⟩ := hM
  refine oV (.int .i64 (n_1.tdiv base)) (q_quoN _ rfl rfl ho_1 rfl ho_3.1 ho_3.2) rfl ?_
  refine oA (.int .i64 (n_1.tdiv base)) rfl rfl ?_
  refine HO.nil (blockQ_normal (thenQ_normal (?_)))
  rw [hKe_1] at hM
  exact ⟨(n_1.tdiv base, r_2 ++ s_1), ⟨F_3, rfl, rfl, rfl, rfl, hK, hS, hM.1⟩, hM.2⟩

def ref32_num_B (R : Int → (Str → Prop) → Prop) (n : Int) (Q : Str → Prop) : Prop :=
 (0 ≤ n → ref03_Num_W n 10 (fun r_2 => Q r_2)) ∧ (¬ (0 ≤ n) → ((n.tmod 10) = 0 → (I64 (n.tdiv 10)) ∧ (R (n.tdiv 10) (fun r_3 => ((r_3.length : Int) + ((([48] : Str)).length : Int) ≤ 9223372036854775807) ∧ (Q (r_3 ++ ([48] : Str)))))) ∧ (¬ ((n.tmod 10) = 0) → ((-10) < n → (I64 (0 - n)) ∧ (ref03_Num_W (0 - n) 10 (fun r_4 => (((([45] : Str)).length : Int) + (r_4.length : Int) ≤ 9223372036854775807) ∧ (Q (([45] : Str) ++ r_4))))) ∧ (¬ ((-10) < n) → (I64 (n.tdiv 10)) ∧ (R (n.tdiv 10) (fun r_5 => (I64 (0 - (n.tmod 10))) ∧ (ref03_Num_W (0 - (n.tmod 10)) 10 (fun r_6 => ((r_5.length : Int) + (r_6.length : Int) ≤ 9223372036854775807) ∧ (Q (r_5 ++ r_6)))))))))
def ref32_num_Wn : Nat → Int → (Str → Prop) → Prop
 | 0 => fun _ _ => False
 | n + 1 => ref32_num_B (ref32_num_Wn n)
def ref32_num_W (n : Int) (Q : Str → Prop) : Prop :=
 ∃ fu_ : Nat, ref32_num_Wn fu_ n Q
set_option maxHeartbeats 40000000 in
set_option maxRecDepth 100000 in
theorem ref32_num_walkn : ∀ (n_ : Nat) {F : Fz} {fr : List Ow} {h0 : Heap} (n : Int) (hS : St F (fr) h0)  {Q : Str → Prop} (hM : ref32_num_Wn n_ n Q),
  HC Try.prog 58 #[.int .i64 n] h0 fun u h' => ∃ (F' : Fz) (r_1 : Str), u = .string (bs r_1) ∧ Kp F h0 F' h' ∧ St F' (fr) h' ∧ Q r_1 := by
 intro n_
 induction n_ with
 | zero => intro F fr h0 n hS  Q hM; exact hM.elim
 | succ n_ ih => ?_
 intro F fr h0 n hS  Q hM
 replace hM : ref32_num_B (ref32_num_Wn n_) n Q := hM
 unfold ref32_num_B at hM
 generalize ref32_num_Wn n_ = R at ih hM
 have hK := Kp.refl F h0
 refine HC.of_HW (n := 28) Try.func58 rfl rfl (Nat.le_of_ble_eq_true rfl) ?_
 refine HW.seq ?_
 refine HW.region ?_
 refine oA (.string (bs [])) rfl rfl ?_
 refine HO.nil (thenQ_normal (?_))
 refine HW.seq ?_
 refine HW.seq ?_
 refine HW.region ?_
 refine oM (.int .i64 n) rfl rfl ?_
 refine oV (.bool (decide (0 ≤ n))) (q_geq rfl rfl) rfl ?_
 refine HO.nil (thenQ_normal (?_))
 refine HW.cond (decide (0 ≤ n)) rfl (fun c_1 => ?_) (fun c_1 => ?_)
 ·
  replace hM := hM.1 (of_decide_eq_true c_1)
  refine HW.seq ?_
  refine HW.region ?_
  refine oM (.int .i64 n) rfl rfl ?_
  refine HO.call (want_none) rfl (ec en_78 rfl rfl) (ref03_Num_walk (fr := (fr)) n 10 hS hM) ?_
  rintro _ h_1 ⟨F_1, r_2, rfl, hk, hS, hM⟩
  replace hK := hK.trans hk
  refine oA (.string (bs r_2)) rfl rfl ?_
  refine HO.nil (thenQ_normal (?_))
  refine HW.ret (thenQ_ret (?_))
  refine ⟨.inr rfl, .string (bs r_2), res1 rfl (rt rfl), ?_⟩
  exact ⟨F_1, r_2, rfl, hK, hS, hM⟩
 ·
  replace hM := hM.2 (of_decide_eq_false c_1)
  refine HW.skip (thenQ_normal (?_))
  refine HW.seq ?_
  refine HW.seq ?_
  refine HW.region ?_
  refine oM (.int .i64 n) rfl rfl ?_
  refine oV (.int .i64 (n.tmod 10)) (q_rem rfl rfl (by decide)) rfl ?_
  refine oV (.bool (decide ((n.tmod 10) = 0))) (q_eql rfl rfl) rfl ?_
  refine HO.nil (thenQ_normal (?_))
  refine HW.cond (decide ((n.tmod 10) = 0)) rfl (fun c_2 => ?_) (fun c_2 => ?_)
  ·
   replace hM := hM.1 (of_decide_eq_true c_2)
   refine HW.seq ?_
   refine HW.region ?_
   refine oM (.int .i64 n) rfl rfl ?_
   obtain ⟨ho_1, hM⟩ := hM
   refine oV (.int .i64 (n.tdiv 10)) (q_quoN _ rfl rfl (by decide) rfl ho_1.1 ho_1.2) rfl ?_
   refine HO.call (want_none) rfl (ec en_58 rfl rfl) (ih (fr := (fr)) (n.tdiv 10) hS hM) ?_
   rintro _ h_2 ⟨F_2, r_3, rfl, hk, hS, hM⟩
   replace hK := hK.trans hk
   obtain ⟨ho_2, hM⟩ := hM
   refine oV (.string (bs (r_3 ++ ([48] : Str)))) (q_addT rfl rfl ho_2) rfl ?_
   refine oA (.string (bs (r_3 ++ ([48] : Str)))) rfl rfl ?_
   refine HO.nil (thenQ_normal (?_))
   refine HW.ret (thenQ_ret (?_))
   refine ⟨.inr rfl, .string (bs (r_3 ++ ([48] : Str))), res1 rfl (rt rfl), ?_⟩
   exact ⟨F_2, r_3 ++ ([48] : Str), rfl, hK, hS, hM⟩
  ·
   replace hM := hM.2 (of_decide_eq_false c_2)
   refine HW.skip (thenQ_normal (?_))
   refine HW.seq ?_
   refine HW.seq ?_
   refine HW.region ?_
   refine oM (.int .i64 n) rfl rfl ?_
   refine oV (.bool (decide ((-10) < n))) (q_gtr rfl rfl) rfl ?_
   refine HO.nil (thenQ_normal (?_))
   refine HW.cond (decide ((-10) < n)) rfl (fun c_3 => ?_) (fun c_3 => ?_)
   ·
    replace hM := hM.1 (of_decide_eq_true c_3)
    refine HW.seq ?_
    refine HW.region ?_
    refine oM (.int .i64 n) rfl rfl ?_
    obtain ⟨ho_3, hM⟩ := hM
    refine oV (.int .i64 (0 - n)) ((q_neg rfl).of_eq (by rw [wrap_i64 ho_3.1 ho_3.2])) rfl ?_
    refine HO.call (want_none) rfl (ec en_78 rfl rfl) (ref03_Num_walk (fr := (fr)) (0 - n) 10 hS hM) ?_
    rintro _ h_3 ⟨F_3, r_4, rfl, hk, hS, hM⟩
    replace hK := hK.trans hk
    obtain ⟨ho_4, hM⟩ := hM
    refine oV (.string (bs (([45] : Str) ++ r_4))) (q_addT rfl rfl ho_4) rfl ?_
    refine oA (.string (bs (([45] : Str) ++ r_4))) rfl rfl ?_
    refine HO.nil (thenQ_normal (?_))
    refine HW.ret (thenQ_ret (?_))
    refine ⟨.inr rfl, .string (bs (([45] : Str) ++ r_4)), res1 rfl (rt rfl), ?_⟩
    exact ⟨F_3, ([45] : Str) ++ r_4, rfl, hK, hS, hM⟩
   ·
    replace hM := hM.2 (of_decide_eq_false c_3)
    refine HW.skip (thenQ_normal (?_))
    refine HW.seq ?_
    refine HW.region ?_
    refine oM (.int .i64 n) rfl rfl ?_
    obtain ⟨ho_5, hM⟩ := hM
    refine oV (.int .i64 (n.tdiv 10)) (q_quoN _ rfl rfl (by decide) rfl ho_5.1 ho_5.2) rfl ?_
    refine HO.call (want_none) rfl (ec en_58 rfl rfl) (ih (fr := (fr)) (n.tdiv 10) hS hM) ?_
    rintro _ h_4 ⟨F_4, r_5, rfl, hk, hS, hM⟩
    replace hK := hK.trans hk
    refine oM (.int .i64 n) rfl rfl ?_
    refine oV (.int .i64 (n.tmod 10)) (q_rem rfl rfl (by decide)) rfl ?_
    obtain ⟨ho_6, hM⟩ := hM
    refine oV (.int .i64 (0 - (n.tmod 10))) ((q_neg rfl).of_eq (by rw [wrap_i64 ho_6.1 ho_6.2])) rfl ?_
    refine HO.call (want_none) rfl (ec en_78 rfl rfl) (ref03_Num_walk (fr := (fr)) (0 - (n.tmod 10)) 10 hS hM) ?_
    rintro _ h_5 ⟨F_5, r_6, rfl, hk, hS, hM⟩
    replace hK := hK.trans hk
    obtain ⟨ho_7, hM⟩ := hM
    refine oV (.string (bs (r_5 ++ r_6))) (q_addT rfl rfl ho_7) rfl ?_
    refine oA (.string (bs (r_5 ++ r_6))) rfl rfl ?_
    refine HO.nil (thenQ_normal (?_))
    refine HW.ret (?_)
    refine ⟨.inr rfl, .string (bs (r_5 ++ r_6)), res1 rfl (rt rfl), ?_⟩
    exact ⟨F_5, r_5 ++ r_6, rfl, hK, hS, hM⟩
set_option maxHeartbeats 40000000 in
set_option maxRecDepth 100000 in
theorem ref32_num_walk {F : Fz} {fr : List Ow} {h0 : Heap} (n : Int) (hS : St F (fr) h0)  {Q : Str → Prop} (hM : ref32_num_W n Q) :
  HC Try.prog 58 #[.int .i64 n] h0 fun u h' => ∃ (F' : Fz) (r_1 : Str), u = .string (bs r_1) ∧ Kp F h0 F' h' ∧ St F' (fr) h' ∧ Q r_1 := by
 obtain ⟨n_, hM⟩ := hM
 exact ref32_num_walkn n_ n hS  hM

def ref32_Print_l1 (t_Links : List T_api_Branch) (Q : Str → Prop) (K_1 : Str → Int → Prop) (s_1 : Str) (i_1 : Int) : Prop :=
 (i_1 < (t_Links.length : Int) → ((s_1.length : Int) + ((([32] : Str)).length : Int) ≤ 9223372036854775807) ∧ (((0 : Int) ≤ i_1 ∧ i_1 < (t_Links.length : Int)) ∧ (ref32_num_W ((gi t_Links i_1).1) (fun r_3 => (((s_1 ++ ([32] : Str)).length : Int) + (r_3.length : Int) ≤ 9223372036854775807) ∧ (((((s_1 ++ ([32] : Str)) ++ r_3).length : Int) + ((([62] : Str)).length : Int) ≤ 9223372036854775807) ∧ (ref32_num_W ((gi t_Links i_1).2) (fun r_4 => (((((s_1 ++ ([32] : Str)) ++ r_3) ++ ([62] : Str)).length : Int) + (r_4.length : Int) ≤ 9223372036854775807) ∧ ((I64 (i_1 + 1)) ∧ (K_1 ((((s_1 ++ ([32] : Str)) ++ r_3) ++ ([62] : Str)) ++ r_4) (i_1 + 1)))))))))) ∧ (¬ (i_1 < (t_Links.length : Int)) → Q s_1)
def ref32_Print_W (t_Root : Int) (t_Links : List T_api_Branch) (Q : Str → Prop) : Prop :=
 ref32_num_W t_Root (fun r_2 => loopW (fun (K_1 : (Str × Int) → Prop) (s : Str × Int) => ref32_Print_l1 t_Links Q (fun s_1 i_1 => K_1 (s_1, i_1)) s.1 s.2) (r_2, 0))
set_option maxHeartbeats 40000000 in
set_option maxRecDepth 100000 in
theorem ref32_Print_walk {F : Fz} {fr : List Ow} {h0 : Heap} (t_Root : Int) (t_Links : List T_api_Branch) (vt_Links : Value) (hS : St F (fr) h0) (hL_t_Links : SliceF F h0 2 e_api_Branch vt_Links t_Links) {Q : Str → Prop} (hM : ref32_Print_W t_Root t_Links Q) :
  HC Try.prog 31 #[.agg #[.int .i64 t_Root, vt_Links]] h0 fun u h' => ∃ (F' : Fz) (r_1 : Str), u = .string (bs r_1) ∧ Kp F h0 F' h' ∧ St F' (fr) h' ∧ (SliceF F' h' 2 e_api_Branch vt_Links t_Links) ∧ Q r_1 := by
 unfold ref32_Print_W at hM
 have hK := Kp.refl F h0
 refine HC.of_HW (n := 35) Try.func31 rfl rfl (Nat.le_of_ble_eq_true rfl) ?_
 refine HW.seq ?_
 refine HW.region ?_
 refine HO.eff (want_none) rfl (st_box (c := #[.int .i64 t_Root, vt_Links]) (k' := 2) hS rfl rfl) ?_
 rintro _ h_1 ⟨b_1, rfl, hS, hk⟩
 replace hK := hK.trans hk
 replace hL_t_Links := hL_t_Links.kp hk
 refine oA (.string (bs [])) rfl rfl ?_
 refine HO.nil (thenQ_normal (?_))
 refine HW.seq ?_
 refine HW.region ?_
 refine oV (.pointer (some ⟨b_1, 0, none⟩)) (q_fieldAddr fa_46_0 rfl rfl) rfl ?_
 refine oV (.int .i64 t_Root) (q_load to_3 rfl (Blk.cell (hS.box 0 rfl) rfl)) rfl ?_
 refine HO.call (want_none) rfl (ec en_58 rfl rfl) (ref32_num_walk (fr := (Ow.box b_1 46 #[.int .i64 t_Root, vt_Links] :: fr)) t_Root hS hM) ?_
 rintro _ h_2 ⟨F_1, r_2, rfl, hk, hS, hM⟩
 replace hK := hK.trans hk
 replace hL_t_Links := hL_t_Links.kp hk
 refine oA (.string (bs r_2)) rfl rfl ?_
 refine HO.nil (thenQ_normal (?_))
 refine HW.seq ?_
 refine HW.seq ?_
 refine HW.region ?_
 refine oA (.int .i64 0) rfl rfl ?_
 refine HO.nil (thenQ_normal (?_))
 refine HW.block ?_
 obtain ⟨I_1, m_1, hI_1, hR_1⟩ := hM
 refine HW.loop (S := Str × Int) (fun s f h => match s with | (s_1, i_1) => ∃ (F' : Fz), f 1 = .pointer (some ⟨b_1, 0, none⟩) ∧ f 2 = .string (bs []) ∧ f 3 = .string (bs s_1) ∧ f 4 = .int .i64 i_1 ∧ Kp F h0 F' h ∧ St F' (Ow.box b_1 46 #[.int .i64 t_Root, vt_Links] :: fr) h ∧ (SliceF F' h 2 e_api_Branch vt_Links t_Links) ∧ I_1 (s_1, i_1)) m_1 (r_2, 0) ⟨F_1, rfl, rfl, rfl, rfl, hK, hS, hL_t_Links, hI_1⟩ ?_
 rintro ⟨s_1, i_1⟩ f_1 h_3 ⟨F_2, e1, e2, e3, e4, hK, hS, hL_t_Links, hI0⟩
 obtain ⟨K_1, hKe_1⟩ : ∃ K : Str → Int → Prop, K = fun s_1' i_1' => I_1 (s_1', i_1') ∧ m_1 (s_1', i_1') < m_1 (s_1, i_1) := ⟨_, rfl⟩
 have hM : ref32_Print_l1 t_Links Q K_1 s_1 i_1 := by rw [hKe_1]; exact hR_1 (s_1, i_1) hI0
 unfold ref32_Print_l1 at hM
 refine HW.fr [(1, .pointer (some ⟨b_1, 0, none⟩)), (2, .string (bs [])), (3, .string (bs s_1)), (4, .int .i64 i_1)] ⟨e1, e2, e3, e4, trivial⟩ ?_
 refine HW.seq ?_
 refine HW.seq ?_
 refine HW.region ?_
 refine oM (.int .i64 i_1) rfl rfl ?_
 refine oV (.pointer (some ⟨b_1, 1, none⟩)) (q_fieldAddr fa_46_1 rfl rfl) rfl ?_
 refine oV (vt_Links) (q_load to_44 rfl (Blk.cell (hS.box 0 rfl) rfl)) rfl ?_
 refine oV (.int .i64 (t_Links.length : Int)) (q_len ts_44 (shp hL_t_Links.is) rfl rfl) rfl ?_
 refine oV (.bool (decide (i_1 < (t_Links.length : Int)))) (q_lss rfl rfl) rfl ?_
 refine HO.nil (thenQ_normal (?_))
 refine HW.cond (decide (i_1 < (t_Links.length : Int))) rfl (fun c_1 => ?_) (fun c_1 => ?_)
 ·
  replace hM := hM.1 (of_decide_eq_true c_1)
  refine HW.skip (thenQ_normal (?_))
  refine HW.seq ?_
  refine HW.block ?_
  refine HW.regionA 20 mixed (fun h => (SliceIs h 2 e_api_Branch vt_Links t_Links) ∧ (Blk h b_1 (.cells #[.int .i64 t_Root, vt_Links] 46 (0, 0)))) [] (by kernel_rfl) ?_
  refine HA.val (k := 0) (v := .string (bs s_1)) rfl rfl (by kernel_rfl) (by kernel_rfl) (want_none) rfl (fun _ ⟨hL_t_Links, c302⟩ => q_move rfl) ?_
  obtain ⟨ho_1, hM⟩ := hM
  refine HA.val (k := 1) (v := .string (bs (s_1 ++ ([32] : Str)))) rfl rfl (by kernel_rfl) (by kernel_rfl) (want_none) rfl (fun _ ⟨hL_t_Links, c302⟩ => q_addT rfl rfl ho_1) ?_
  refine HA.val (k := 2) (v := .pointer (some ⟨b_1, 1, none⟩)) rfl rfl (by kernel_rfl) (by kernel_rfl) (want_none) rfl (fun _ ⟨hL_t_Links, c302⟩ => q_fieldAddr fa_46_1 rfl rfl) ?_
  refine HA.val (k := 3) (v := vt_Links) rfl rfl (by kernel_rfl) (by kernel_rfl) (want_none) rfl (fun _ ⟨hL_t_Links, c302⟩ => q_load to_44 rfl (Blk.cell c302 rfl)) ?_
  refine HA.val (k := 4) (v := .int .i64 i_1) rfl rfl (by kernel_rfl) (by kernel_rfl) (want_none) rfl (fun _ ⟨hL_t_Links, c302⟩ => q_move rfl) ?_
  obtain ⟨ho_2, hM⟩ := hM
  refine HA.val (k := 5) (v := elemPtr 2 vt_Links (i_1).toNat) rfl rfl (by kernel_rfl) (by kernel_rfl) (want_none) rfl (fun _ ⟨hL_t_Links, c302⟩ => q_idx ts_44 hL_t_Links rfl rfl ho_2) ?_
  refine HA.val (k := 6) (v := fieldPtr 2 vt_Links (i_1).toNat 0) rfl rfl (by kernel_rfl) (by kernel_rfl) (want_none) rfl (fun _ ⟨hL_t_Links, c302⟩ => q_fldElem fa_67_0 hL_t_Links rfl ho_2) ?_
  refine HA.val (k := 7) (v := .int .i64 ((gi t_Links i_1).1)) rfl rfl (by kernel_rfl) (by kernel_rfl) (want_none) rfl (fun _ ⟨hL_t_Links, c302⟩ => q_ldField to_3 hL_t_Links rfl ho_2 (by decide) rfl) ?_
  refine HA.val (k := 11) (v := .pointer (some ⟨b_1, 1, none⟩)) rfl rfl (by kernel_rfl) (by kernel_rfl) (want_none) rfl (fun _ ⟨hL_t_Links, c302⟩ => q_fieldAddr fa_46_1 rfl rfl) ?_
  refine HA.val (k := 12) (v := vt_Links) rfl rfl (by kernel_rfl) (by kernel_rfl) (want_none) rfl (fun _ ⟨hL_t_Links, c302⟩ => q_load to_44 rfl (Blk.cell c302 rfl)) ?_
  refine HA.val (k := 13) (v := .int .i64 i_1) rfl rfl (by kernel_rfl) (by kernel_rfl) (want_none) rfl (fun _ ⟨hL_t_Links, c302⟩ => q_move rfl) ?_
  refine HA.val (k := 14) (v := elemPtr 2 vt_Links (i_1).toNat) rfl rfl (by kernel_rfl) (by kernel_rfl) (want_none) rfl (fun _ ⟨hL_t_Links, c302⟩ => q_idx ts_44 hL_t_Links rfl rfl ho_2) ?_
  refine HA.val (k := 15) (v := fieldPtr 2 vt_Links (i_1).toNat 1) rfl rfl (by kernel_rfl) (by kernel_rfl) (want_none) rfl (fun _ ⟨hL_t_Links, c302⟩ => q_fldElem fa_67_1 hL_t_Links rfl ho_2) ?_
  refine HA.val (k := 16) (v := .int .i64 ((gi t_Links i_1).2)) rfl rfl (by kernel_rfl) (by kernel_rfl) (want_none) rfl (fun _ ⟨hL_t_Links, c302⟩ => q_ldField to_3 hL_t_Links rfl ho_2 (by decide) rfl) ?_
  refine HA.one (k := 8) ⟨⟨hL_t_Links.is, (hS.box 0 rfl)⟩, (Go.Wk.at_nil _ _)⟩ (by kernel_rfl) ?_
  refine HS.call rfl (want_none) rfl (ec en_58 rfl rfl) (ref32_num_walk (fr := (Ow.box b_1 46 #[.int .i64 t_Root, vt_Links] :: fr)) ((gi t_Links i_1).1) hS hM) ?_
  rintro _ h_4 ⟨F_3, r_3, rfl, hk, hS, hM⟩
  replace hK := hK.trans hk
  replace hL_t_Links := hL_t_Links.kp hk
  obtain ⟨ho_3, hM⟩ := hM
  refine HA.val (k := 9) (v := .string (bs ((s_1 ++ ([32] : Str)) ++ r_3))) rfl rfl (by kernel_rfl) (by kernel_rfl) (want_none) rfl (fun _ ⟨hL_t_Links, c302⟩ => q_addT rfl rfl ho_3) ?_
  obtain ⟨ho_4, hM⟩ := hM
  refine HA.val (k := 10) (v := .string (bs (((s_1 ++ ([32] : Str)) ++ r_3) ++ ([62] : Str)))) rfl rfl (by kernel_rfl) (by kernel_rfl) (want_none) rfl (fun _ ⟨hL_t_Links, c302⟩ => q_addT rfl rfl ho_4) ?_
  refine HA.one (k := 17) ⟨⟨hL_t_Links.is, (hS.box 0 rfl)⟩, (Go.Wk.at_nil _ _)⟩ (by kernel_rfl) ?_
  refine HS.call rfl (want_none) rfl (ec en_58 rfl rfl) (ref32_num_walk (fr := (Ow.box b_1 46 #[.int .i64 t_Root, vt_Links] :: fr)) ((gi t_Links i_1).2) hS hM) ?_
  rintro _ h_5 ⟨F_4, r_4, rfl, hk, hS, hM⟩
  replace hK := hK.trans hk
  replace hL_t_Links := hL_t_Links.kp hk
  obtain ⟨ho_5, hM⟩ := hM
  refine HA.val (k := 18) (v := .string (bs ((((s_1 ++ ([32] : Str)) ++ r_3) ++ ([62] : Str)) ++ r_4))) rfl rfl (by kernel_rfl) (by kernel_rfl) (want_none) rfl (fun _ ⟨hL_t_Links, c302⟩ => q_addT rfl rfl ho_5) ?_
  refine HA.val (k := 19) (v := .string (bs ((((s_1 ++ ([32] : Str)) ++ r_3) ++ ([62] : Str)) ++ r_4))) rfl rfl (by kernel_rfl) (by kernel_rfl) (want_none) rfl (fun _ ⟨hL_t_Links, c302⟩ => q_assign rfl) ?_
  refine HA.nil ⟨⟨hL_t_Links.is, (hS.box 0 rfl)⟩, (Go.Wk.at_nil _ _)⟩ (by kernel_rfl) (blockQ_normal (thenQ_normal (?_)))
  refine HW.region ?_
  refine oM (.int .i64 i_1) rfl rfl ?_
  obtain ⟨ho_6, hM⟩ := hM
  refine oV (.int .i64 (i_1 + 1)) (q_addN _ rfl rfl rfl ho_6.1 ho_6.2) rfl ?_
  refine oA (.int .i64 (i_1 + 1)) rfl rfl ?_
  refine HO.nil (thenQ_normal (?_))
  rw [hKe_1] at hM
  exact ⟨((((s_1 ++ ([32] : Str)) ++ r_3) ++ ([62] : Str)) ++ r_4, i_1 + 1), ⟨F_4, rfl, rfl, rfl, rfl, hK, hS, hL_t_Links, hM.1⟩, hM.2⟩
 ·
  replace hM := hM.2 (of_decide_eq_false c_1)
  refine HW.exit (thenQ_exit (thenQ_exit (blockQ_exit (thenQ_normal (?_)))))
  refine HW.seq ?_
  refine HW.region ?_
  refine oM (.string (bs s_1)) rfl rfl ?_
  refine oA (.string (bs s_1)) rfl rfl ?_
  refine HO.nil (thenQ_normal (?_))
  refine HW.ret (?_)
  refine ⟨.inr rfl, .string (bs s_1), res1 rfl (rt rfl), ?_⟩
  replace hS : St F_2 (fr) h_3 := hS.perm2 [] 1 rfl rfl
  exact ⟨F_2, s_1, rfl, hK, hS, hL_t_Links, hM⟩

def plan_Fits_W (members : Int) (services : Int) (fan : Int) (Q : Bool → Prop) : Prop :=
 plan_fits_W members services fan (fun r_2 => Q r_2)
set_option maxHeartbeats 40000000 in
set_option maxRecDepth 100000 in
theorem plan_Fits_walk {F : Fz} {fr : List Ow} {h0 : Heap} (members : Int) (services : Int) (fan : Int) (hS : St F (fr) h0)  {Q : Bool → Prop} (hM : plan_Fits_W members services fan Q) :
  HC Try.prog 10 #[.int .i64 members, .int .i64 services, .int .i64 fan] h0 fun u h' => ∃ (F' : Fz) (r_1 : Bool), u = .bool r_1 ∧ Kp F h0 F' h' ∧ St F' (fr) h' ∧ Q r_1 := by
 unfold plan_Fits_W at hM
 have hK := Kp.refl F h0
 refine HC.of_HW (n := 11) Try.func10 rfl rfl (Nat.le_of_ble_eq_true rfl) ?_
 refine HW.seq ?_
 refine HW.region ?_
 refine oA (.bool false) rfl rfl ?_
 refine HO.nil (thenQ_normal (?_))
 refine HW.seq ?_
 refine HW.region ?_
 refine oM (.int .i64 members) rfl rfl ?_
 refine oM (.int .i64 services) rfl rfl ?_
 refine oM (.int .i64 fan) rfl rfl ?_
 refine HO.call (want_none) rfl (ec en_30 rfl rfl) (plan_fits_walk (fr := (fr)) members services fan hS hM) ?_
 rintro _ h_1 ⟨F_1, r_2, rfl, hk, hS, hM⟩
 replace hK := hK.trans hk
 refine oA (.bool r_2) rfl rfl ?_
 refine HO.nil (thenQ_normal (?_))
 refine HW.ret (?_)
 refine ⟨.inr rfl, .bool r_2, res1 rfl (rt rfl), ?_⟩
 exact ⟨F_1, r_2, rfl, hK, hS, hM⟩

def law33_lives_W (Q : Bool → Prop) : Prop :=
 plan_Make_W 1 ([2, 3, 4] : List Int) ([9] : List Int) 2 (fun r_0_1 r_1_1 => ref32_Print_W r_0_1 r_1_1 (fun r_2 => ((r_2 : Str) = [49, 32, 49, 62, 50, 32, 49, 62, 57, 32, 57, 62, 51, 32, 57, 62, 52] → plan_Fits_W 3 1 2 (fun r_3 => (r_3 = true → plan_Fits_W 4 1 2 (fun r_4 => Q (!r_4))) ∧ (r_3 = false → Q false))) ∧ (¬ ((r_2 : Str) = [49, 32, 49, 62, 50, 32, 49, 62, 57, 32, 57, 62, 51, 32, 57, 62, 52]) → Q false)))
set_option maxHeartbeats 40000000 in
set_option maxRecDepth 100000 in
theorem law33_lives_walk {F : Fz} {fr : List Ow} {h0 : Heap}  (hS : St F (fr) h0)  (hD : DM.on = false) {Q : Bool → Prop} (hM : law33_lives_W Q) :
  HC Try.prog 11 #[] h0 fun u h' => ∃ (F' : Fz) (r_1 : Bool), u = .bool r_1 ∧ Kp F h0 F' h' ∧ St F' (fr) h' ∧ Q r_1 := by
 unfold law33_lives_W at hM
 have hK := Kp.refl F h0
 refine HC.of_HW (n := 15) Try.func11 rfl rfl (Nat.le_of_ble_eq_true rfl) ?_
 refine HW.seq ?_
 refine HW.region ?_
 refine oA (.bool false) rfl rfl ?_
 refine HO.nil (thenQ_normal (?_))
 refine HW.seq ?_
 refine HW.region ?_
 refine HO.eff (want_none) rfl (st_lit (enc := encI) (cells := #[.int .i64 2, .int .i64 3, .int .i64 4]) #[.int .i64 0, .int .i64 0, .int .i64 0] ([2, 3, 4] : List Int) hS tl_31 (by decide) (by decide) (by kernel_rfl) (by kernel_rfl) rfl (by intro x hx; rfl) rfl) ?_
 rintro _ h_1 ⟨b_1, rfl, hS, hk⟩
 replace hK := hK.trans hk
 refine HO.eff (want_none) rfl (st_lit (enc := encI) (cells := #[.int .i64 9]) #[.int .i64 0] ([9] : List Int) hS tl_31 (by decide) (by decide) (by kernel_rfl) (by kernel_rfl) rfl (by intro x hx; rfl) rfl) ?_
 rintro _ h_2 ⟨b_2, rfl, hS, hk⟩
 replace hK := hK.trans hk
 replace hS : St F (Ow.own 3 1 encI (.slice (some ⟨b_1, 0, none⟩) 3 3) ([2, 3, 4] : List Int) :: Ow.own 3 1 encI (.slice (some ⟨b_2, 0, none⟩) 1 1) ([9] : List Int) :: fr) h_2 := hS.perm2 [1, 0] 2 rfl rfl
 have hZ_1 := hS
 have hkz_1 := (hS.freeze).2
 replace hS := hS.freeze.1
 have hL_1 : SliceF (fun bz_ => F bz_ ∨ (Ow.own 3 1 encI (.slice (some ⟨b_1, 0, none⟩) 3 3) ([2, 3, 4] : List Int)).foot bz_) h_2 1 encI (.slice (some ⟨b_1, 0, none⟩) 3 3) ([2, 3, 4] : List Int) := ⟨(hZ_1.own 0 rfl).slice, fun _ b hb => .inr hb⟩
 have hZ_2 := hS
 have hkz_2 := (hS.freeze).2
 replace hS := hS.freeze.1
 have hL_2 : SliceF (fun bz_ => (fun bz_ => F bz_ ∨ (Ow.own 3 1 encI (.slice (some ⟨b_1, 0, none⟩) 3 3) ([2, 3, 4] : List Int)).foot bz_) bz_ ∨ (Ow.own 3 1 encI (.slice (some ⟨b_2, 0, none⟩) 1 1) ([9] : List Int)).foot bz_) h_2 1 encI (.slice (some ⟨b_2, 0, none⟩) 1 1) ([9] : List Int) := ⟨(hZ_2.own 0 rfl).slice, fun _ b hb => .inr hb⟩
 refine HO.call (want_none) rfl (ec en_19 rfl rfl) (plan_Make_walk (fr := (fr)) 1 ([2, 3, 4] : List Int) ([9] : List Int) 2 (.slice (some ⟨b_1, 0, none⟩) 3 3) (.slice (some ⟨b_2, 0, none⟩) 1 1) hS (hL_1.kp hkz_2) hL_2 hD hM) ?_
 rintro _ h_3 ⟨F_1, r_0_1, r_1_1, vr_1_1, rfl, hk, hS, _, _, hM⟩
 obtain ⟨hS, hk⟩ := hZ_2.back hk hS
 obtain ⟨hS, hk⟩ := hZ_1.back hk hS
 generalize (fun bz_ => (fun bz_ => F_1 bz_ ∧ ¬ (Ow.own 3 1 encI (.slice (some ⟨b_2, 0, none⟩) 1 1) ([9] : List Int)).foot bz_) bz_ ∧ ¬ (Ow.own 3 1 encI (.slice (some ⟨b_1, 0, none⟩) 3 3) ([2, 3, 4] : List Int)).foot bz_) = F_2 at hS hk
 replace hK := hK.trans hk
 refine HO.eff (want_none) rfl (st_alloc (c := #[.int .i64 0, .slice none 0 0]) hS tz_46 rfl) ?_
 rintro _ h_4 ⟨b_3, rfl, hS, hk⟩
 replace hK := hK.trans hk
 refine HO.sto (want_none) rfl (st_storeAgg (c' := #[.int .i64 r_0_1, vr_1_1]) hS (i := 0) rfl ta_46 rfl rfl rfl (List.forall_mem_cons.2 ⟨rfl, (List.forall_mem_cons.2 ⟨(shp (hS.own 3 rfl).slice).one, (fun _ h => by cases h)⟩)⟩) (Nat.le_of_ble_eq_true rfl) rfl) ?_
 rintro h_5 ⟨hS, hk⟩
 replace hS : St F_2 (Ow.box b_3 46 #[.int .i64 r_0_1, vr_1_1] :: Ow.own 3 1 encI (.slice (some ⟨b_1, 0, none⟩) 3 3) ([2, 3, 4] : List Int) :: Ow.own 3 1 encI (.slice (some ⟨b_2, 0, none⟩) 1 1) ([9] : List Int) :: Ow.own 67 2 e_api_Branch vr_1_1 r_1_1 :: fr) h_5 := hS
 replace hK := hK.trans hk
 refine HO.nil (thenQ_normal (?_))
 refine HW.seq ?_
 refine HW.region ?_
 refine oV (.agg #[.int .i64 r_0_1, vr_1_1]) (q_loadAgg (cs := [.int .i64 r_0_1, vr_1_1]) ta_46 rfl rfl (Blk.cells (k := 2) (hS.box 0 rfl) rfl)) rfl ?_
 replace hS : St F_2 (Ow.own 67 2 e_api_Branch vr_1_1 r_1_1 :: Ow.box b_3 46 #[.int .i64 r_0_1, vr_1_1] :: Ow.own 3 1 encI (.slice (some ⟨b_1, 0, none⟩) 3 3) ([2, 3, 4] : List Int) :: Ow.own 3 1 encI (.slice (some ⟨b_2, 0, none⟩) 1 1) ([9] : List Int) :: fr) h_5 := hS.perm2 [3, 0, 1, 2] 4 rfl rfl
 have hZ_3 := hS
 have hkz_3 := (hS.freeze).2
 replace hS := hS.freeze.1
 have hL_3 : SliceF (fun bz_ => F_2 bz_ ∨ (Ow.own 67 2 e_api_Branch vr_1_1 r_1_1).foot bz_) h_5 2 e_api_Branch vr_1_1 r_1_1 := ⟨(hZ_3.own 0 rfl).slice, fun _ b hb => .inr hb⟩
 refine HO.call (want_none) rfl (ec en_31 rfl rfl) (ref32_Print_walk (fr := (Ow.box b_3 46 #[.int .i64 r_0_1, vr_1_1] :: Ow.own 3 1 encI (.slice (some ⟨b_1, 0, none⟩) 3 3) ([2, 3, 4] : List Int) :: Ow.own 3 1 encI (.slice (some ⟨b_2, 0, none⟩) 1 1) ([9] : List Int) :: fr)) r_0_1 r_1_1 vr_1_1 hS hL_3 hM) ?_
 rintro _ h_6 ⟨F_3, r_2, rfl, hk, hS, _, hM⟩
 obtain ⟨hS, hk⟩ := hZ_3.back hk hS
 generalize (fun bz_ => F_3 bz_ ∧ ¬ (Ow.own 67 2 e_api_Branch vr_1_1 r_1_1).foot bz_) = F_4 at hS hk
 replace hK := hK.trans hk
 refine oV (.bool (decide ((r_2 : Str) = [49, 32, 49, 62, 50, 32, 49, 62, 57, 32, 57, 62, 51, 32, 57, 62, 52]))) (q_eqlT rfl rfl) rfl ?_
 refine oM (.bool (decide ((r_2 : Str) = [49, 32, 49, 62, 50, 32, 49, 62, 57, 32, 57, 62, 51, 32, 57, 62, 52]))) rfl rfl ?_
 rcases Bool.eq_false_or_eq_true (decide ((r_2 : Str) = [49, 32, 49, 62, 50, 32, 49, 62, 57, 32, 57, 62, 51, 32, 57, 62, 52])) with c_1 | c_1
 ·
  replace hM := hM.1 (of_decide_eq_true c_1)
  refine HO.call (want_by rfl rfl c_1) rfl (ec en_10 rfl rfl) (plan_Fits_walk (fr := (Ow.own 67 2 e_api_Branch vr_1_1 r_1_1 :: Ow.box b_3 46 #[.int .i64 r_0_1, vr_1_1] :: Ow.own 3 1 encI (.slice (some ⟨b_1, 0, none⟩) 3 3) ([2, 3, 4] : List Int) :: Ow.own 3 1 encI (.slice (some ⟨b_2, 0, none⟩) 1 1) ([9] : List Int) :: fr)) 3 1 2 hS hM) ?_
  rintro _ h_7 ⟨F_5, r_3, rfl, hk, hS, hM⟩
  replace hK := hK.trans hk
  refine oV (.bool r_3) (q_pickK true rfl c_1 rfl) rfl ?_
  refine oM (.bool r_3) rfl rfl ?_
  rcases Bool.eq_false_or_eq_true r_3 with c_2 | c_2
  ·
   replace hM := hM.1 c_2
   refine HO.call (want_by rfl rfl c_2) rfl (ec en_10 rfl rfl) (plan_Fits_walk (fr := (Ow.own 67 2 e_api_Branch vr_1_1 r_1_1 :: Ow.box b_3 46 #[.int .i64 r_0_1, vr_1_1] :: Ow.own 3 1 encI (.slice (some ⟨b_1, 0, none⟩) 3 3) ([2, 3, 4] : List Int) :: Ow.own 3 1 encI (.slice (some ⟨b_2, 0, none⟩) 1 1) ([9] : List Int) :: fr)) 4 1 2 hS hM) ?_
   rintro _ h_8 ⟨F_6, r_4, rfl, hk, hS, hM⟩
   replace hK := hK.trans hk
   refine HO.val (v := .bool (!r_4)) (want_by rfl rfl c_2) rfl (q_not rfl) ?_
   refine oV (.bool (!r_4)) (q_pickK true rfl c_2 rfl) rfl ?_
   refine oA (.bool (!r_4)) rfl rfl ?_
   refine HO.nil (thenQ_normal (?_))
   refine HW.ret (?_)
   refine ⟨.inr rfl, .bool (!r_4), res1 rfl (rt rfl), ?_⟩
   replace hS : St F_6 (fr) h_8 := hS.perm2 [] 4 rfl rfl
   exact ⟨F_6, !r_4, rfl, hK, hS, hM⟩
  ·
   replace hM := hM.2 c_2
   refine HO.past (past_by rfl rfl c_2) rfl ?_
   refine HO.past (past_by rfl rfl c_2) rfl ?_
   refine oV (.bool false) (q_pickK false rfl c_2 rfl) rfl ?_
   refine oA (.bool false) rfl rfl ?_
   refine HO.nil (thenQ_normal (?_))
   refine HW.ret (?_)
   refine ⟨.inr rfl, .bool false, res1 rfl (rt rfl), ?_⟩
   replace hS : St F_5 (fr) h_7 := hS.perm2 [] 4 rfl rfl
   exact ⟨F_5, false, rfl, hK, hS, hM⟩
 ·
  replace hM := hM.2 (of_decide_eq_false c_1)
  refine HO.past (past_by rfl rfl c_1) rfl ?_
  refine oV (.bool false) (q_pickK false rfl c_1 rfl) rfl ?_
  refine oM (.bool false) rfl rfl ?_
  refine HO.past (past_some rfl rfl) rfl ?_
  refine HO.past (past_some rfl rfl) rfl ?_
  refine oV (.bool false) (q_pick rfl rfl) rfl ?_
  refine oA (.bool false) rfl rfl ?_
  refine HO.nil (thenQ_normal (?_))
  refine HW.ret (?_)
  refine ⟨.inr rfl, .bool false, res1 rfl (rt rfl), ?_⟩
  replace hS : St F_4 (fr) h_6 := hS.perm2 [] 4 rfl rfl
  exact ⟨F_4, false, rfl, hK, hS, hM⟩

def ref33_Need_l1 (members : Int) (fan : Int) (Q : Int → Prop) (K_1 : Int → Prop) (k_1 : Int) : Prop :=
 (k_1 ≤ 400 → (I64 (fan - 1)) ∧ ((I64 (k_1 * (fan - 1))) ∧ ((I64 (fan + (k_1 * (fan - 1)))) ∧ ((members ≤ (fan + (k_1 * (fan - 1))) → Q k_1) ∧ (¬ (members ≤ (fan + (k_1 * (fan - 1)))) → (I64 (k_1 + 1)) ∧ (K_1 (k_1 + 1))))))) ∧ (¬ (k_1 ≤ 400) → Q (-1))
def ref33_Need_W (members : Int) (fan : Int) (Q : Int → Prop) : Prop :=
 loopW (fun (K_1 : Int → Prop) (s : Int) => ref33_Need_l1 members fan Q K_1 s) 0
set_option maxHeartbeats 40000000 in
set_option maxRecDepth 100000 in
theorem ref33_Need_walk {F : Fz} {fr : List Ow} {h0 : Heap} (members : Int) (fan : Int) (hS : St F (fr) h0)  {Q : Int → Prop} (hM : ref33_Need_W members fan Q) :
  HC Try.prog 9 #[.int .i64 members, .int .i64 fan] h0 fun u h' => ∃ (F' : Fz) (r_1 : Int), u = .int .i64 r_1 ∧ Kp F h0 F' h' ∧ St F' (fr) h' ∧ Q r_1 := by
 unfold ref33_Need_W at hM
 have hK := Kp.refl F h0
 refine HC.of_HW (n := 19) Try.func9 rfl rfl (Nat.le_of_ble_eq_true rfl) ?_
 refine HW.seq ?_
 refine HW.region ?_
 refine oA (.int .i64 0) rfl rfl ?_
 refine HO.nil (thenQ_normal (?_))
 refine HW.seq ?_
 refine HW.seq ?_
 refine HW.region ?_
 refine oA (.int .i64 0) rfl rfl ?_
 refine HO.nil (thenQ_normal (?_))
 refine HW.block ?_
 obtain ⟨I_1, m_1, hI_1, hR_1⟩ := hM
 refine HW.loop (S := Int) (fun k_1 f h => ∃ (F' : Fz), f 0 = .int .i64 members ∧ f 1 = .int .i64 fan ∧ f 4 = .int .i64 0 ∧ f 5 = .int .i64 k_1 ∧ Kp F h0 F' h ∧ St F' (fr) h ∧ I_1 k_1) m_1 0 ⟨F, rfl, rfl, rfl, rfl, hK, hS, hI_1⟩ ?_
 rintro k_1 f_1 h_1 ⟨F_1, e0, e1, e4, e5, hK, hS, hI0⟩
 obtain ⟨K_1, hKe_1⟩ : ∃ K : Int → Prop, K = fun k_1' => I_1 k_1' ∧ m_1 k_1' < m_1 k_1 := ⟨_, rfl⟩
 have hM : ref33_Need_l1 members fan Q K_1 k_1 := by rw [hKe_1]; exact hR_1 k_1 hI0
 unfold ref33_Need_l1 at hM
 refine HW.fr [(0, .int .i64 members), (1, .int .i64 fan), (4, .int .i64 0), (5, .int .i64 k_1)] ⟨e0, e1, e4, e5, trivial⟩ ?_
 refine HW.seq ?_
 refine HW.seq ?_
 refine HW.region ?_
 refine oM (.int .i64 k_1) rfl rfl ?_
 refine oV (.bool (decide (k_1 ≤ 400))) (q_leq rfl rfl) rfl ?_
 refine HO.nil (thenQ_normal (?_))
 refine HW.cond (decide (k_1 ≤ 400)) rfl (fun c_1 => ?_) (fun c_1 => ?_)
 ·
  replace hM := hM.1 (of_decide_eq_true c_1)
  refine HW.skip (thenQ_normal (?_))
  refine HW.seq ?_
  refine HW.block ?_
  refine HW.seq ?_
  refine HW.region ?_
  refine oM (.int .i64 fan) rfl rfl ?_
  refine oM (.int .i64 k_1) rfl rfl ?_
  refine oM (.int .i64 fan) rfl rfl ?_
  obtain ⟨ho_1, hM⟩ := hM
  refine oV (.int .i64 (fan - 1)) (q_subN _ rfl rfl rfl ho_1.1 ho_1.2) rfl ?_
  obtain ⟨ho_2, hM⟩ := hM
  refine oV (.int .i64 (k_1 * (fan - 1))) (q_mulN _ rfl rfl rfl ho_2.1 ho_2.2) rfl ?_
  obtain ⟨ho_3, hM⟩ := hM
  refine oV (.int .i64 (fan + (k_1 * (fan - 1)))) (q_addN _ rfl rfl rfl ho_3.1 ho_3.2) rfl ?_
  refine oM (.int .i64 members) rfl rfl ?_
  refine oV (.bool (decide (members ≤ (fan + (k_1 * (fan - 1)))))) (q_geq rfl rfl) rfl ?_
  refine HO.nil (thenQ_normal (?_))
  refine HW.cond (decide (members ≤ (fan + (k_1 * (fan - 1))))) rfl (fun c_2 => ?_) (fun c_2 => ?_)
  ·
   replace hM := hM.1 (of_decide_eq_true c_2)
   refine HW.seq ?_
   refine HW.region ?_
   refine oM (.int .i64 k_1) rfl rfl ?_
   refine oA (.int .i64 k_1) rfl rfl ?_
   refine HO.nil (thenQ_normal (?_))
   refine HW.ret (blockQ_ret (thenQ_ret (thenQ_ret (blockQ_ret (thenQ_ret (?_))))))
   refine ⟨.inr rfl, .int .i64 k_1, res1 rfl (rt rfl), ?_⟩
   exact ⟨F_1, k_1, rfl, hK, hS, hM⟩
  ·
   replace hM := hM.2 (of_decide_eq_false c_2)
   refine HW.skip (blockQ_normal (thenQ_normal (?_)))
   refine HW.region ?_
   refine oM (.int .i64 k_1) rfl rfl ?_
   obtain ⟨ho_4, hM⟩ := hM
   refine oV (.int .i64 (k_1 + 1)) (q_addN _ rfl rfl rfl ho_4.1 ho_4.2) rfl ?_
   refine oA (.int .i64 (k_1 + 1)) rfl rfl ?_
   refine HO.nil (thenQ_normal (?_))
   rw [hKe_1] at hM
   exact ⟨k_1 + 1, ⟨F_1, rfl, rfl, rfl, rfl, hK, hS, hM.1⟩, hM.2⟩
 ·
  replace hM := hM.2 (of_decide_eq_false c_1)
  refine HW.exit (thenQ_exit (thenQ_exit (blockQ_exit (thenQ_normal (?_)))))
  refine HW.seq ?_
  refine HW.region ?_
  refine oA (.int .i64 (-1)) rfl rfl ?_
  refine HO.nil (thenQ_normal (?_))
  refine HW.ret (?_)
  refine ⟨.inr rfl, .int .i64 (-1), res1 rfl (rt rfl), ?_⟩
  exact ⟨F_1, (-1), rfl, hK, hS, hM⟩

def ref32_Has_l1 (l : List Int) (n : Int) (Q : Bool → Prop) (K_1 : Int → Prop) (i_1 : Int) : Prop :=
 (i_1 < (l.length : Int) → ((0 : Int) ≤ i_1 ∧ i_1 < (l.length : Int)) ∧ (((gi l i_1) = n → Q true) ∧ (¬ ((gi l i_1) = n) → (I64 (i_1 + 1)) ∧ (K_1 (i_1 + 1))))) ∧ (¬ (i_1 < (l.length : Int)) → Q false)
def ref32_Has_W (l : List Int) (n : Int) (Q : Bool → Prop) : Prop :=
 loopW (fun (K_1 : Int → Prop) (s : Int) => ref32_Has_l1 l n Q K_1 s) 0
set_option maxHeartbeats 40000000 in
set_option maxRecDepth 100000 in
theorem ref32_Has_walk {F : Fz} {fr : List Ow} {h0 : Heap} (l : List Int) (n : Int) (vl : Value) (hS : St F (fr) h0) (hL_l : SliceF F h0 1 encI vl l) {Q : Bool → Prop} (hM : ref32_Has_W l n Q) :
  HC Try.prog 12 #[vl, .int .i64 n] h0 fun u h' => ∃ (F' : Fz) (r_1 : Bool), u = .bool r_1 ∧ Kp F h0 F' h' ∧ St F' (fr) h' ∧ (SliceF F' h' 1 encI vl l) ∧ Q r_1 := by
 unfold ref32_Has_W at hM
 have hK := Kp.refl F h0
 refine HC.of_HW (n := 18) Try.func12 rfl rfl (Nat.le_of_ble_eq_true rfl) ?_
 refine HW.seq ?_
 refine HW.region ?_
 refine oA (.bool false) rfl rfl ?_
 refine HO.nil (thenQ_normal (?_))
 refine HW.seq ?_
 refine HW.seq ?_
 refine HW.region ?_
 refine oA (.int .i64 0) rfl rfl ?_
 refine HO.nil (thenQ_normal (?_))
 refine HW.block ?_
 obtain ⟨I_1, m_1, hI_1, hR_1⟩ := hM
 refine HW.loop (S := Int) (fun i_1 f h => ∃ (F' : Fz), f 0 = vl ∧ f 1 = .int .i64 n ∧ f 4 = .bool false ∧ f 5 = .int .i64 i_1 ∧ Kp F h0 F' h ∧ St F' (fr) h ∧ (SliceF F' h 1 encI vl l) ∧ I_1 i_1) m_1 0 ⟨F, rfl, rfl, rfl, rfl, hK, hS, hL_l, hI_1⟩ ?_
 rintro i_1 f_1 h_1 ⟨F_1, e0, e1, e4, e5, hK, hS, hL_l, hI0⟩
 obtain ⟨K_1, hKe_1⟩ : ∃ K : Int → Prop, K = fun i_1' => I_1 i_1' ∧ m_1 i_1' < m_1 i_1 := ⟨_, rfl⟩
 have hM : ref32_Has_l1 l n Q K_1 i_1 := by rw [hKe_1]; exact hR_1 i_1 hI0
 unfold ref32_Has_l1 at hM
 refine HW.fr [(0, vl), (1, .int .i64 n), (4, .bool false), (5, .int .i64 i_1)] ⟨e0, e1, e4, e5, trivial⟩ ?_
 refine HW.seq ?_
 refine HW.seq ?_
 refine HW.region ?_
 refine oM (.int .i64 i_1) rfl rfl ?_
 refine oM (vl) rfl rfl ?_
 refine oV (.int .i64 (l.length : Int)) (q_len ts_31 (shp hL_l.is) rfl rfl) rfl ?_
 refine oV (.bool (decide (i_1 < (l.length : Int)))) (q_lss rfl rfl) rfl ?_
 refine HO.nil (thenQ_normal (?_))
 refine HW.cond (decide (i_1 < (l.length : Int))) rfl (fun c_1 => ?_) (fun c_1 => ?_)
 ·
  replace hM := hM.1 (of_decide_eq_true c_1)
  refine HW.skip (thenQ_normal (?_))
  refine HW.seq ?_
  refine HW.block ?_
  refine HW.seq ?_
  refine HW.region ?_
  refine oM (vl) rfl rfl ?_
  refine oM (.int .i64 i_1) rfl rfl ?_
  obtain ⟨ho_1, hM⟩ := hM
  refine oV (elemPtr 1 vl (i_1).toNat) (q_idx ts_31 hL_l.is rfl rfl ho_1) rfl ?_
  refine oV (.int .i64 (gi l i_1)) (q_ldElem to_3 hL_l.is rfl ho_1 rfl) rfl ?_
  refine oM (.int .i64 n) rfl rfl ?_
  refine oV (.bool (decide ((gi l i_1) = n))) (q_eql rfl rfl) rfl ?_
  refine HO.nil (thenQ_normal (?_))
  refine HW.cond (decide ((gi l i_1) = n)) rfl (fun c_2 => ?_) (fun c_2 => ?_)
  ·
   replace hM := hM.1 (of_decide_eq_true c_2)
   refine HW.seq ?_
   refine HW.region ?_
   refine oA (.bool true) rfl rfl ?_
   refine HO.nil (thenQ_normal (?_))
   refine HW.ret (blockQ_ret (thenQ_ret (thenQ_ret (blockQ_ret (thenQ_ret (?_))))))
   refine ⟨.inr rfl, .bool true, res1 rfl (rt rfl), ?_⟩
   exact ⟨F_1, true, rfl, hK, hS, hL_l, hM⟩
  ·
   replace hM := hM.2 (of_decide_eq_false c_2)
   refine HW.skip (blockQ_normal (thenQ_normal (?_)))
   refine HW.region ?_
   refine oM (.int .i64 i_1) rfl rfl ?_
   obtain ⟨ho_2, hM⟩ := hM
   refine oV (.int .i64 (i_1 + 1)) (q_addN _ rfl rfl rfl ho_2.1 ho_2.2) rfl ?_
   refine oA (.int .i64 (i_1 + 1)) rfl rfl ?_
   refine HO.nil (thenQ_normal (?_))
   rw [hKe_1] at hM
   exact ⟨i_1 + 1, ⟨F_1, rfl, rfl, rfl, rfl, hK, hS, hL_l, hM.1⟩, hM.2⟩
 ·
  replace hM := hM.2 (of_decide_eq_false c_1)
  refine HW.exit (thenQ_exit (thenQ_exit (blockQ_exit (thenQ_normal (?_)))))
  refine HW.seq ?_
  refine HW.region ?_
  refine oA (.bool false) rfl rfl ?_
  refine HO.nil (thenQ_normal (?_))
  refine HW.ret (?_)
  refine ⟨.inr rfl, .bool false, res1 rfl (rt rfl), ?_⟩
  exact ⟨F_1, false, rfl, hK, hS, hL_l, hM⟩

def ref32_Add_j1 (l : List Int) (n : Int) (Q : (List Int) → Prop) (n_1 : Int) : Prop :=
 ((0 : Int) ≤ n_1 ∧ n_1 ≤ (l.length : Int)) ∧ (((0 : Int) ≤ 0 ∧ 0 ≤ n_1 ∧ n_1 ≤ (l.length : Int)) ∧ (((([] : List Int).length + (cut l 0 n_1).length) * 8 ≤ 140737488355328) ∧ ((((([] : List Int) ++ (cut l 0 n_1)).length + ([n] : List Int).length) * 8 ≤ 140737488355328) ∧ (((0 : Int) ≤ n_1 ∧ n_1 ≤ (l.length : Int) ∧ (l.length : Int) ≤ (l.length : Int)) ∧ (((((([] : List Int) ++ (cut l 0 n_1)) ++ ([n] : List Int)).length + (cut l n_1 (l.length : Int)).length) * 8 ≤ 140737488355328) ∧ (Q (((([] : List Int) ++ (cut l 0 n_1)) ++ ([n] : List Int)) ++ (cut l n_1 (l.length : Int)))))))))
def ref32_Add_l1 (l : List Int) (n : Int) (Q : (List Int) → Prop) (K_1 : Int → Prop) (n_2 : Int) : Prop :=
 (n_2 < (l.length : Int) → ((0 : Int) ≤ n_2 ∧ n_2 < (l.length : Int)) ∧ (((gi l n_2) < n → (I64 (n_2 + 1)) ∧ (K_1 (n_2 + 1))) ∧ (¬ ((gi l n_2) < n) → ref32_Add_j1 l n Q n_2))) ∧ (¬ (n_2 < (l.length : Int)) → ref32_Add_j1 l n Q n_2)
def ref32_Add_W (l : List Int) (n : Int) (Q : (List Int) → Prop) : Prop :=
 ref32_Has_W l n (fun r_2 => (r_2 = true → Q l) ∧ (r_2 = false → loopW (fun (K_1 : Int → Prop) (s : Int) => ref32_Add_l1 l n Q K_1 s) 0))
set_option maxHeartbeats 40000000 in
set_option maxRecDepth 100000 in
theorem ref32_Add_walk {F : Fz} {fr : List Ow} {h0 : Heap} (l : List Int) (n : Int) (vl : Value) (hS : St F (Ow.own 3 1 encI vl l :: fr) h0)  {Q : (List Int) → Prop} (hM : ref32_Add_W l n Q) :
  HC Try.prog 13 #[vl, .int .i64 n] h0 fun u h' => ∃ (F' : Fz) (r_1 : List Int) (vr_1 : Value), u = vr_1 ∧ Kp F h0 F' h' ∧ St F' (Ow.own 3 1 encI vr_1 r_1 :: fr) h' ∧ Q r_1 := by
 unfold ref32_Add_W at hM
 have hK := Kp.refl F h0
 refine HC.of_HW (n := 36) Try.func13 rfl rfl (Nat.le_of_ble_eq_true rfl) ?_
 refine HW.seq ?_
 refine HW.region ?_
 refine oA (.slice none 0 0) rfl rfl ?_
 refine HO.nil (thenQ_normal (?_))
 refine HW.seq ?_
 refine HW.seq ?_
 refine HW.region ?_
 refine oM (vl) rfl rfl ?_
 refine oM (.int .i64 n) rfl rfl ?_
 have hZ_1 := hS
 have hkz_1 := (hS.freeze).2
 replace hS := hS.freeze.1
 have hL_1 : SliceF (fun bz_ => F bz_ ∨ (Ow.own 3 1 encI vl l).foot bz_) h0 1 encI vl l := ⟨(hZ_1.own 0 rfl).slice, fun _ b hb => .inr hb⟩
 refine HO.call (want_none) rfl (ec en_12 rfl rfl) (ref32_Has_walk (fr := (fr)) l n vl hS hL_1 hM) ?_
 rintro _ h_1 ⟨F_1, r_2, rfl, hk, hS, _, hM⟩
 obtain ⟨hS, hk⟩ := hZ_1.back hk hS
 generalize (fun bz_ => F_1 bz_ ∧ ¬ (Ow.own 3 1 encI vl l).foot bz_) = F_2 at hS hk
 replace hK := hK.trans hk
 refine HO.nil (thenQ_normal (?_))
 refine HW.cond r_2 rfl (fun c_1 => ?_) (fun c_1 => ?_)
 ·
  replace hM := hM.1 c_1
  refine HW.seq ?_
  refine HW.region ?_
  refine oM (vl) rfl rfl ?_
  refine oA (vl) rfl rfl ?_
  refine HO.nil (thenQ_normal (?_))
  refine HW.ret (thenQ_ret (?_))
  refine ⟨.inr rfl, vl, res1 rfl (rt rfl), ?_⟩
  exact ⟨F_2, l, vl, rfl, hK, hS, hM⟩
 ·
  replace hM := hM.2 c_1
  refine HW.skip (thenQ_normal (?_))
  refine HW.seq ?_
  refine HW.region ?_
  refine oA (.int .i64 0) rfl rfl ?_
  refine HO.nil (thenQ_normal (?_))
  refine HW.seq_mid (fun f h => ∃ (F' : Fz) (n_1 : Int), f 0 = vl ∧ f 1 = .int .i64 n ∧ f 4 = .slice none 0 0 ∧ f 5 = .int .i64 n_1 ∧ Kp F h0 F' h ∧ St F' (Ow.own 3 1 encI vl l :: fr) h ∧ ref32_Add_j1 l n Q n_1) ?_ ?_
  ·
   refine HW.block ?_
   obtain ⟨I_1, m_1, hI_1, hR_1⟩ := hM
   refine HW.loop (S := Int) (fun n_2 f h => ∃ (F' : Fz), f 0 = vl ∧ f 1 = .int .i64 n ∧ f 4 = .slice none 0 0 ∧ f 5 = .int .i64 n_2 ∧ Kp F h0 F' h ∧ St F' (Ow.own 3 1 encI vl l :: fr) h ∧ I_1 n_2) m_1 0 ⟨F_2, rfl, rfl, rfl, rfl, hK, hS, hI_1⟩ ?_
   rintro n_2 f_1 h_2 ⟨F_3, e0, e1, e4, e5, hK, hS, hI0⟩
   obtain ⟨K_1, hKe_1⟩ : ∃ K : Int → Prop, K = fun n_2' => I_1 n_2' ∧ m_1 n_2' < m_1 n_2 := ⟨_, rfl⟩
   have hM : ref32_Add_l1 l n Q K_1 n_2 := by rw [hKe_1]; exact hR_1 n_2 hI0
   unfold ref32_Add_l1 at hM
   refine HW.fr [(0, vl), (1, .int .i64 n), (4, .slice none 0 0), (5, .int .i64 n_2)] ⟨e0, e1, e4, e5, trivial⟩ ?_
   refine HW.seq ?_
   refine HW.seq ?_
   refine HW.region ?_
   refine oM (.int .i64 n_2) rfl rfl ?_
   refine oM (vl) rfl rfl ?_
   refine oV (.int .i64 (l.length : Int)) (q_len ts_31 (shp (hS.own 0 rfl).slice) rfl rfl) rfl ?_
   refine oV (.bool (decide (n_2 < (l.length : Int)))) (q_lss rfl rfl) rfl ?_
   refine oM (.bool (decide (n_2 < (l.length : Int)))) rfl rfl ?_
   rcases Bool.eq_false_or_eq_true (decide (n_2 < (l.length : Int))) with c_2 | c_2
   ·
    replace hM := hM.1 (of_decide_eq_true c_2)
    refine HO.val (v := vl) (want_by rfl rfl c_2) rfl (q_move rfl) ?_
    refine HO.val (v := .int .i64 n_2) (want_by rfl rfl c_2) rfl (q_move rfl) ?_
    obtain ⟨ho_1, hM⟩ := hM
    refine HO.val (v := elemPtr 1 vl (n_2).toNat) (want_by rfl rfl c_2) rfl (q_idx ts_31 (hS.own 0 rfl).slice rfl rfl ho_1) ?_
    refine HO.val (v := .int .i64 (gi l n_2)) (want_by rfl rfl c_2) rfl (q_ldElem to_3 (hS.own 0 rfl).slice rfl ho_1 rfl) ?_
    refine HO.val (v := .int .i64 n) (want_by rfl rfl c_2) rfl (q_move rfl) ?_
    refine HO.val (v := .bool (decide ((gi l n_2) < n))) (want_by rfl rfl c_2) rfl (q_lss rfl rfl) ?_
    refine oV (.bool (decide ((gi l n_2) < n))) (q_pickK true rfl c_2 rfl) rfl ?_
    refine HO.nil (thenQ_normal (?_))
    refine HW.cond (decide ((gi l n_2) < n)) rfl (fun c_3 => ?_) (fun c_3 => ?_)
    ·
     replace hM := hM.1 (of_decide_eq_true c_3)
     refine HW.skip (thenQ_normal (?_))
     refine HW.block ?_
     refine HW.region ?_
     refine oM (.int .i64 n_2) rfl rfl ?_
     obtain ⟨ho_2, hM⟩ := hM
     refine oV (.int .i64 (n_2 + 1)) (q_addN _ rfl rfl rfl ho_2.1 ho_2.2) rfl ?_
     refine oA (.int .i64 (n_2 + 1)) rfl rfl ?_
     refine HO.nil (blockQ_normal (thenQ_normal (?_)))
     rw [hKe_1] at hM
     exact ⟨n_2 + 1, ⟨F_3, rfl, rfl, rfl, rfl, hK, hS, hM.1⟩, hM.2⟩
    ·
     replace hM := hM.2 (of_decide_eq_false c_3)
     refine HW.exit (thenQ_exit (thenQ_exit (blockQ_exit (thenQ_normal (?_)))))
     exact ⟨F_3, n_2, rfl, rfl, rfl, rfl, hK, hS, hM⟩
   ·
    replace hM := hM.2 (of_decide_eq_false c_2)
    refine HO.past (past_by rfl rfl c_2) rfl ?_
    refine HO.past (past_by rfl rfl c_2) rfl ?_
    refine HO.past (past_by rfl rfl c_2) rfl ?_
    refine HO.past (past_by rfl rfl c_2) rfl ?_
    refine HO.past (past_by rfl rfl c_2) rfl ?_
    refine HO.past (past_by rfl rfl c_2) rfl ?_
    refine oV (.bool false) (q_pickK false rfl c_2 rfl) rfl ?_
    refine HO.nil (thenQ_normal (?_))
    refine HW.condF rfl ?_
    refine HW.exit (thenQ_exit (thenQ_exit (blockQ_exit (thenQ_normal (?_)))))
    exact ⟨F_3, n_2, rfl, rfl, rfl, rfl, hK, hS, hM⟩
  ·
   rintro f_2 h_3 ⟨F_4, n_1, e0, e1, e4, e5, hK, hS, hM⟩
   unfold ref32_Add_j1 at hM
   refine HW.fr [(0, vl), (1, .int .i64 n), (4, .slice none 0 0), (5, .int .i64 n_1)] ⟨e0, e1, e4, e5, trivial⟩ ?_
   refine HW.seq ?_
   obtain ⟨ho_3, hM⟩ := hM
   obtain ⟨ho_4, hM⟩ := hM
   obtain ⟨ho_5, hM⟩ := hM
   obtain ⟨ho_6, hM⟩ := hM
   obtain ⟨ho_7, hM⟩ := hM
   obtain ⟨ho_8, hM⟩ := hM
   refine HW.regionA 13 mixed (fun h => (OwnIs h 0 3 1 encI vl l)) [] (by kernel_rfl) ?_
   refine HA.val (k := 1) (v := vl) rfl rfl (by kernel_rfl) (by kernel_rfl) (want_none) rfl (fun _ c202 => q_move rfl) ?_
   refine HA.val (k := 2) (v := .int .i64 n_1) rfl rfl (by kernel_rfl) (by kernel_rfl) (want_none) rfl (fun _ c202 => q_move rfl) ?_
   refine HA.val (k := 3) (v := cutV 1 vl (0 : Int).toNat (n_1).toNat) rfl rfl (by kernel_rfl) (by kernel_rfl) (want_none) rfl (fun _ c202 => q_slH ts_31 c202.slice rfl rfl ho_3) ?_
   refine HA.val (k := 5) (v := .int .i64 n) rfl rfl (by kernel_rfl) (by kernel_rfl) (want_none) rfl (fun _ c202 => q_move rfl) ?_
   refine HA.val (k := 8) (v := vl) rfl rfl (by kernel_rfl) (by kernel_rfl) (want_none) rfl (fun _ c202 => q_move rfl) ?_
   refine HA.val (k := 9) (v := .int .i64 n_1) rfl rfl (by kernel_rfl) (by kernel_rfl) (want_none) rfl (fun _ c202 => q_move rfl) ?_
   refine HA.val (k := 10) (v := cutV 1 vl (n_1).toNat ((l.length : Int)).toNat) rfl rfl (by kernel_rfl) (by kernel_rfl) (want_none) rfl (fun _ c202 => q_slL ts_31 c202.slice rfl rfl ho_3) ?_
   refine HA.two (k := 0) (k' := 6) ⟨(hS.own 0 rfl), (Go.Wk.at_nil _ _)⟩ (by kernel_rfl) ?_ ?_
   ·
    refine HS.eff rfl (want_none) rfl (st_litEmpty (α := Int) encI hS tl_31) ?_
    rintro _ h_4 ⟨b_1, rfl, hS, hk⟩
    replace hK := hK.trans hk
    refine HA.two (k := 4) (k' := 6) ⟨(hS.own 1 rfl), (Go.Wk.at_nil _ _)⟩ (by kernel_rfl) ?_ ?_
    ·
     refine HS.eff rfl (want_none) rfl (st_append te_31 hS (i := 0) rfl (cutIs (hS.own 1 rfl).slice 0 n_1 ho_4.1 ho_4.2.1 ho_4.2.2) rfl rfl rfl (by intro a _ u hu; simp [encI, encI, encN, encB, encT] at hu; subst hu; rfl) ho_5 (by omega)) ?_
     rintro v_1 h_5 ⟨hS, hk⟩
     replace hS : St F_4 (Ow.own 3 1 encI v_1 (([] : List Int) ++ (cut l 0 n_1)) :: Ow.own 3 1 encI vl l :: fr) h_5 := hS
     replace hK := hK.trans hk
     refine HA.one (k := 6) ⟨(hS.own 1 rfl), (Go.Wk.at_nil _ _)⟩ (by kernel_rfl) ?_
     refine HS.eff rfl (want_none) rfl (st_lit (enc := encI) (cells := #[.int .i64 n]) #[.int .i64 0] ([n] : List Int) hS tl_31 (by decide) (by decide) (by kernel_rfl) (by kernel_rfl) rfl (by intro x hx; rfl) rfl) ?_
     rintro _ h_6 ⟨b_2, rfl, hS, hk⟩
     replace hK := hK.trans hk
     refine HA.one (k := 7) ⟨(hS.own 2 rfl), (Go.Wk.at_nil _ _)⟩ (by kernel_rfl) ?_
     refine HS.eff rfl (want_none) rfl (st_append te_31 hS (i := 1) rfl (hS.own 0 rfl).slice rfl rfl rfl (by intro a _ u hu; simp [encI, encI, encN, encB, encT] at hu; subst hu; rfl) ho_6 (by omega)) ?_
     rintro v_2 h_7 ⟨hS, hk⟩
     replace hS : St F_4 (Ow.own 3 1 encI (.slice (some ⟨b_2, 0, none⟩) 1 1) ([n] : List Int) :: Ow.own 3 1 encI v_2 ((([] : List Int) ++ (cut l 0 n_1)) ++ ([n] : List Int)) :: Ow.own 3 1 encI vl l :: fr) h_7 := hS
     replace hK := hK.trans hk
     refine HA.one (k := 11) ⟨(hS.own 2 rfl), (Go.Wk.at_nil _ _)⟩ (by kernel_rfl) ?_
     refine HS.eff rfl (want_none) rfl (st_append te_31 hS (i := 1) rfl (cutIs (hS.own 2 rfl).slice n_1 (l.length : Int) ho_7.1 ho_7.2.1 ho_7.2.2) rfl rfl rfl (by intro a _ u hu; simp [encI, encI, encN, encB, encT] at hu; subst hu; rfl) ho_8 (by omega)) ?_
     rintro v_3 h_8 ⟨hS, hk⟩
     replace hS : St F_4 (Ow.own 3 1 encI (.slice (some ⟨b_2, 0, none⟩) 1 1) ([n] : List Int) :: Ow.own 3 1 encI v_3 (((([] : List Int) ++ (cut l 0 n_1)) ++ ([n] : List Int)) ++ (cut l n_1 (l.length : Int))) :: Ow.own 3 1 encI vl l :: fr) h_8 := hS
     replace hK := hK.trans hk
     refine HA.val (k := 12) (v := v_3) rfl rfl (by kernel_rfl) (by kernel_rfl) (want_none) rfl (fun _ c202 => q_assign rfl) ?_
     refine HA.nil ⟨(hS.own 2 rfl), (Go.Wk.at_nil _ _)⟩ (by kernel_rfl) (thenQ_normal (?_))
     refine HW.ret (?_)
     refine ⟨.inr rfl, v_3, res1 rfl (rt rfl), ?_⟩
     replace hS : St F_4 (Ow.own 3 1 encI v_3 (((([] : List Int) ++ (cut l 0 n_1)) ++ ([n] : List Int)) ++ (cut l n_1 (l.length : Int))) :: fr) h_8 := hS.perm2 [1] 3 rfl rfl
     exact ⟨F_4, ((([] : List Int) ++ (cut l 0 n_1)) ++ ([n] : List Int)) ++ (cut l n_1 (l.length : Int)), v_3, rfl, hK, hS, hM⟩
    ·
     refine HS.eff rfl (want_none) rfl (st_lit (enc := encI) (cells := #[.int .i64 n]) #[.int .i64 0] ([n] : List Int) hS tl_31 (by decide) (by decide) (by kernel_rfl) (by kernel_rfl) rfl (by intro x hx; rfl) rfl) ?_
     rintro _ h_5 ⟨b_2, rfl, hS, hk⟩
     replace hK := hK.trans hk
     refine HA.one (k := 4) ⟨(hS.own 2 rfl), (Go.Wk.at_nil _ _)⟩ (by kernel_rfl) ?_
     refine HS.eff rfl (want_none) rfl (st_append te_31 hS (i := 1) rfl (cutIs (hS.own 2 rfl).slice 0 n_1 ho_4.1 ho_4.2.1 ho_4.2.2) rfl rfl rfl (by intro a _ u hu; simp [encI, encI, encN, encB, encT] at hu; subst hu; rfl) ho_5 (by omega)) ?_
     rintro v_1 h_6 ⟨hS, hk⟩
     replace hS : St F_4 (Ow.own 3 1 encI (.slice (some ⟨b_2, 0, none⟩) 1 1) ([n] : List Int) :: Ow.own 3 1 encI v_1 (([] : List Int) ++ (cut l 0 n_1)) :: Ow.own 3 1 encI vl l :: fr) h_6 := hS
     replace hK := hK.trans hk
     refine HA.one (k := 7) ⟨(hS.own 2 rfl), (Go.Wk.at_nil _ _)⟩ (by kernel_rfl) ?_
     refine HS.eff rfl (want_none) rfl (st_append te_31 hS (i := 1) rfl (hS.own 0 rfl).slice rfl rfl rfl (by intro a _ u hu; simp [encI, encI, encN, encB, encT] at hu; subst hu; rfl) ho_6 (by omega)) ?_
     rintro v_2 h_7 ⟨hS, hk⟩
     replace hS : St F_4 (Ow.own 3 1 encI (.slice (some ⟨b_2, 0, none⟩) 1 1) ([n] : List Int) :: Ow.own 3 1 encI v_2 ((([] : List Int) ++ (cut l 0 n_1)) ++ ([n] : List Int)) :: Ow.own 3 1 encI vl l :: fr) h_7 := hS
     replace hK := hK.trans hk
     refine HA.one (k := 11) ⟨(hS.own 2 rfl), (Go.Wk.at_nil _ _)⟩ (by kernel_rfl) ?_
     refine HS.eff rfl (want_none) rfl (st_append te_31 hS (i := 1) rfl (cutIs (hS.own 2 rfl).slice n_1 (l.length : Int) ho_7.1 ho_7.2.1 ho_7.2.2) rfl rfl rfl (by intro a _ u hu; simp [encI, encI, encN, encB, encT] at hu; subst hu; rfl) ho_8 (by omega)) ?_
     rintro v_3 h_8 ⟨hS, hk⟩
     replace hS : St F_4 (Ow.own 3 1 encI (.slice (some ⟨b_2, 0, none⟩) 1 1) ([n] : List Int) :: Ow.own 3 1 encI v_3 (((([] : List Int) ++ (cut l 0 n_1)) ++ ([n] : List Int)) ++ (cut l n_1 (l.length : Int))) :: Ow.own 3 1 encI vl l :: fr) h_8 := hS
     replace hK := hK.trans hk
     refine HA.val (k := 12) (v := v_3) rfl rfl (by kernel_rfl) (by kernel_rfl) (want_none) rfl (fun _ c202 => q_assign rfl) ?_
     refine HA.nil ⟨(hS.own 2 rfl), (Go.Wk.at_nil _ _)⟩ (by kernel_rfl) (thenQ_normal (?_))
     refine HW.ret (?_)
     refine ⟨.inr rfl, v_3, res1 rfl (rt rfl), ?_⟩
     replace hS : St F_4 (Ow.own 3 1 encI v_3 (((([] : List Int) ++ (cut l 0 n_1)) ++ ([n] : List Int)) ++ (cut l n_1 (l.length : Int))) :: fr) h_8 := hS.perm2 [1] 3 rfl rfl
     exact ⟨F_4, ((([] : List Int) ++ (cut l 0 n_1)) ++ ([n] : List Int)) ++ (cut l n_1 (l.length : Int)), v_3, rfl, hK, hS, hM⟩
   ·
    refine HS.eff rfl (want_none) rfl (st_lit (enc := encI) (cells := #[.int .i64 n]) #[.int .i64 0] ([n] : List Int) hS tl_31 (by decide) (by decide) (by kernel_rfl) (by kernel_rfl) rfl (by intro x hx; rfl) rfl) ?_
    rintro _ h_4 ⟨b_1, rfl, hS, hk⟩
    replace hK := hK.trans hk
    refine HA.one (k := 0) ⟨(hS.own 1 rfl), (Go.Wk.at_nil _ _)⟩ (by kernel_rfl) ?_
    refine HS.eff rfl (want_none) rfl (st_litEmpty (α := Int) encI hS tl_31) ?_
    rintro _ h_5 ⟨b_2, rfl, hS, hk⟩
    replace hK := hK.trans hk
    refine HA.one (k := 4) ⟨(hS.own 2 rfl), (Go.Wk.at_nil _ _)⟩ (by kernel_rfl) ?_
    refine HS.eff rfl (want_none) rfl (st_append te_31 hS (i := 0) rfl (cutIs (hS.own 2 rfl).slice 0 n_1 ho_4.1 ho_4.2.1 ho_4.2.2) rfl rfl rfl (by intro a _ u hu; simp [encI, encI, encN, encB, encT] at hu; subst hu; rfl) ho_5 (by omega)) ?_
    rintro v_1 h_6 ⟨hS, hk⟩
    replace hS : St F_4 (Ow.own 3 1 encI v_1 (([] : List Int) ++ (cut l 0 n_1)) :: Ow.own 3 1 encI (.slice (some ⟨b_1, 0, none⟩) 1 1) ([n] : List Int) :: Ow.own 3 1 encI vl l :: fr) h_6 := hS
    replace hK := hK.trans hk
    refine HA.one (k := 7) ⟨(hS.own 2 rfl), (Go.Wk.at_nil _ _)⟩ (by kernel_rfl) ?_
    refine HS.eff rfl (want_none) rfl (st_append te_31 hS (i := 0) rfl (hS.own 1 rfl).slice rfl rfl rfl (by intro a _ u hu; simp [encI, encI, encN, encB, encT] at hu; subst hu; rfl) ho_6 (by omega)) ?_
    rintro v_2 h_7 ⟨hS, hk⟩
    replace hS : St F_4 (Ow.own 3 1 encI v_2 ((([] : List Int) ++ (cut l 0 n_1)) ++ ([n] : List Int)) :: Ow.own 3 1 encI (.slice (some ⟨b_1, 0, none⟩) 1 1) ([n] : List Int) :: Ow.own 3 1 encI vl l :: fr) h_7 := hS
    replace hK := hK.trans hk
    refine HA.one (k := 11) ⟨(hS.own 2 rfl), (Go.Wk.at_nil _ _)⟩ (by kernel_rfl) ?_
    refine HS.eff rfl (want_none) rfl (st_append te_31 hS (i := 0) rfl (cutIs (hS.own 2 rfl).slice n_1 (l.length : Int) ho_7.1 ho_7.2.1 ho_7.2.2) rfl rfl rfl (by intro a _ u hu; simp [encI, encI, encN, encB, encT] at hu; subst hu; rfl) ho_8 (by omega)) ?_
    rintro v_3 h_8 ⟨hS, hk⟩
    replace hS : St F_4 (Ow.own 3 1 encI v_3 (((([] : List Int) ++ (cut l 0 n_1)) ++ ([n] : List Int)) ++ (cut l n_1 (l.length : Int))) :: Ow.own 3 1 encI (.slice (some ⟨b_1, 0, none⟩) 1 1) ([n] : List Int) :: Ow.own 3 1 encI vl l :: fr) h_8 := hS
    replace hK := hK.trans hk
    refine HA.val (k := 12) (v := v_3) rfl rfl (by kernel_rfl) (by kernel_rfl) (want_none) rfl (fun _ c202 => q_assign rfl) ?_
    refine HA.nil ⟨(hS.own 2 rfl), (Go.Wk.at_nil _ _)⟩ (by kernel_rfl) (thenQ_normal (?_))
    refine HW.ret (?_)
    refine ⟨.inr rfl, v_3, res1 rfl (rt rfl), ?_⟩
    replace hS : St F_4 (Ow.own 3 1 encI v_3 (((([] : List Int) ++ (cut l 0 n_1)) ++ ([n] : List Int)) ++ (cut l n_1 (l.length : Int))) :: fr) h_8 := hS.perm2 [0] 3 rfl rfl
    exact ⟨F_4, ((([] : List Int) ++ (cut l 0 n_1)) ++ ([n] : List Int)) ++ (cut l n_1 (l.length : Int)), v_3, rfl, hK, hS, hM⟩
end Go.Wk
