/- The walk of PlanNeeds. -/
import Derived.Test.YtjliljlmgepmpaaPlnA1
set_option linter.unusedSimpArgs false
set_option linter.unusedVariables false
set_option linter.unusedSectionVars false
namespace Go.Wk
open Go.HL
open Go.Proofs hiding encI
variable [DM]
theorem en_8 (args : Array Value) (w : World) : (callFunc 8 args).run Try.prog w = .ok (.enter 8 args) w := by kernel_rfl
theorem en_9 (args : Array Value) (w : World) : (callFunc 9 args).run Try.prog w = .ok (.enter 9 args) w := by kernel_rfl
theorem en_11 (args : Array Value) (w : World) : (callFunc 11 args).run Try.prog w = .ok (.enter 11 args) w := by kernel_rfl
def plan_Need_W (members : Int) (fan : Int) (Q : Int → Bool → Prop) : Prop :=
 plan_need_W members fan (fun r0_2 r1_2 => Q r0_2 r1_2)
set_option maxHeartbeats 40000000 in
set_option maxRecDepth 100000 in
theorem plan_Need_walk {F : Fz} {fr : List Ow} {h0 : Heap} (members : Int) (fan : Int) (hS : St F (fr) h0)  {Q : Int → Bool → Prop} (hM : plan_Need_W members fan Q) :
  HC Try.prog 8 #[.int .i64 members, .int .i64 fan] h0 fun u h' => ∃ (F' : Fz) (r0_1 : Int) (r1_1 : Bool), u = .tuple #[.int .i64 r0_1, .bool r1_1] ∧ Kp F h0 F' h' ∧ St F' (fr) h' ∧ Q r0_1 r1_1 := by
 unfold plan_Need_W at hM
 have hK := Kp.refl F h0
 refine HC.of_HW (n := 11) Try.func8 rfl rfl (Nat.le_of_ble_eq_true rfl) ?_
 refine HW.seq ?_
 refine HW.region ?_
 refine oA (.int .i64 0) rfl rfl ?_
 refine oA (.bool false) rfl rfl ?_
 refine HO.nil (thenQ_normal (?_))
 refine HW.seq ?_
 refine HW.region ?_
 refine oM (.int .i64 members) rfl rfl ?_
 refine oM (.int .i64 fan) rfl rfl ?_
 refine HO.call (want_none) rfl (ec en_29 rfl rfl) (plan_need_walk (fr := (fr)) members fan hS hM) ?_
 rintro _ h_1 ⟨F_1, r0_2, r1_2, rfl, hk, hS, hM⟩
 replace hK := hK.trans hk
 refine oV (.int .i64 r0_2) (q_extract rfl rfl) rfl ?_
 refine oV (.bool r1_2) (q_extract rfl rfl) rfl ?_
 refine oA (.int .i64 r0_2) rfl rfl ?_
 refine oA (.bool r1_2) rfl rfl ?_
 refine HO.nil (thenQ_normal (?_))
 refine HW.ret (?_)
 refine ⟨.inr rfl, .tuple #[.int .i64 r0_2, .bool r1_2], res2 rfl (rt rfl) (rt rfl), ?_⟩
 exact ⟨F_1, r0_2, r1_2, rfl, hK, hS, hM⟩

def law33_PlanNeeds_j1 (Q : Bool → Prop) (b_1 : Bool) : Prop :=
 Q b_1
def law33_PlanNeeds_W (members : Int) (services : Int) (fan : Int) (Q : Bool → Prop) : Prop :=
 ((0 : Int) ≤ (members.tmod 121) ∧ (members.tmod 121) < 256) ∧ ((I64 ((u8w (members.tmod 121)).toNat : Int)) ∧ (((0 : Int) ≤ (services.tmod 121) ∧ (services.tmod 121) < 256) ∧ ((I64 ((u8w (services.tmod 121)).toNat : Int)) ∧ (((0 : Int) ≤ (fan.tmod 64) ∧ (fan.tmod 64) < 256) ∧ ((I64 ((u8w (fan.tmod 64)).toNat : Int)) ∧ ((I64 (1 + ((u8w (fan.tmod 64)).toNat : Int))) ∧ (plan_Need_W ((u8w (members.tmod 121)).toNat : Int) (1 + ((u8w (fan.tmod 64)).toNat : Int)) (fun r0_1 r1_1 => ref33_Need_W ((u8w (members.tmod 121)).toNat : Int) (1 + ((u8w (fan.tmod 64)).toNat : Int)) (fun r_2 => (r_2 < 0 → (r0_1 = 0 → ((!r1_1) = true → plan_Fits_W ((u8w (members.tmod 121)).toNat : Int) ((u8w (services.tmod 121)).toNat : Int) (1 + ((u8w (fan.tmod 64)).toNat : Int)) (fun r_3 => ((!r_3) = true → law33_lives_W  (fun r_4 => law33_PlanNeeds_j1 Q r_4)) ∧ ((!r_3) = false → law33_PlanNeeds_j1 Q false))) ∧ ((!r1_1) = false → law33_PlanNeeds_j1 Q false)) ∧ (¬ (r0_1 = 0) → law33_PlanNeeds_j1 Q false)) ∧ (¬ (r_2 < 0) → (r0_1 = r_2 → (r1_1 = true → plan_Fits_W ((u8w (members.tmod 121)).toNat : Int) ((u8w (services.tmod 121)).toNat : Int) (1 + ((u8w (fan.tmod 64)).toNat : Int)) (fun r_5 => ((r_5 == (decide (r_2 ≤ ((u8w (services.tmod 121)).toNat : Int)))) = true → law33_lives_W  (fun r_6 => Q r_6)) ∧ ((r_5 == (decide (r_2 ≤ ((u8w (services.tmod 121)).toNat : Int)))) = false → Q false))) ∧ (r1_1 = false → Q false)) ∧ (¬ (r0_1 = r_2) → Q false)))))))))))
set_option maxHeartbeats 40000000 in
set_option maxRecDepth 100000 in
theorem law33_PlanNeeds_walk {F : Fz} {fr : List Ow} {h0 : Heap} (members : Int) (services : Int) (fan : Int) (hS : St F (fr) h0)  (hD : DM.on = false) {Q : Bool → Prop} (hM : law33_PlanNeeds_W members services fan Q) :
  HC Try.prog 3 #[.int .u8 members, .int .u8 services, .int .u8 fan] h0 fun u h' => ∃ (F' : Fz) (r_1 : Bool), u = .bool r_1 ∧ Kp F h0 F' h' ∧ St F' (fr) h' ∧ Q r_1 := by
 unfold law33_PlanNeeds_W at hM
 have hK := Kp.refl F h0
 refine HC.of_HW (n := 69) Try.func3 rfl rfl (Nat.le_of_ble_eq_true rfl) ?_
 refine HW.seq ?_
 refine HW.region ?_
 refine oA (.bool false) rfl rfl ?_
 refine HO.nil (thenQ_normal (?_))
 refine HW.seq ?_
 refine HW.region ?_
 refine oM (.int .u8 members) rfl rfl ?_
 obtain ⟨ho_1, hM⟩ := hM
 refine oV (.int .u8 ((u8w (members.tmod 121)).toNat : Int)) ((q_rem rfl rfl (by decide)).of_eq (u8r_v ho_1)) rfl ?_
 obtain ⟨ho_2, hM⟩ := hM
 refine oV (.int .i64 ((u8w (members.tmod 121)).toNat : Int)) (q_convInt Try.underlying5 Try.underlying3 rfl (wrap_i64 ho_2.1 ho_2.2)) rfl ?_
 refine oM (.int .u8 services) rfl rfl ?_
 obtain ⟨ho_3, hM⟩ := hM
 refine oV (.int .u8 ((u8w (services.tmod 121)).toNat : Int)) ((q_rem rfl rfl (by decide)).of_eq (u8r_v ho_3)) rfl ?_
 obtain ⟨ho_4, hM⟩ := hM
 refine oV (.int .i64 ((u8w (services.tmod 121)).toNat : Int)) (q_convInt Try.underlying5 Try.underlying3 rfl (wrap_i64 ho_4.1 ho_4.2)) rfl ?_
 refine oM (.int .u8 fan) rfl rfl ?_
 obtain ⟨ho_5, hM⟩ := hM
 refine oV (.int .u8 ((u8w (fan.tmod 64)).toNat : Int)) ((q_rem rfl rfl (by decide)).of_eq (u8r_v ho_5)) rfl ?_
 obtain ⟨ho_6, hM⟩ := hM
 refine oV (.int .i64 ((u8w (fan.tmod 64)).toNat : Int)) (q_convInt Try.underlying5 Try.underlying3 rfl (wrap_i64 ho_6.1 ho_6.2)) rfl ?_
 obtain ⟨ho_7, hM⟩ := hM
 refine oV (.int .i64 (1 + ((u8w (fan.tmod 64)).toNat : Int))) (q_addN _ rfl rfl rfl ho_7.1 ho_7.2) rfl ?_
 refine oA (.int .i64 ((u8w (members.tmod 121)).toNat : Int)) rfl rfl ?_
 refine oA (.int .i64 ((u8w (services.tmod 121)).toNat : Int)) rfl rfl ?_
 refine oA (.int .i64 (1 + ((u8w (fan.tmod 64)).toNat : Int))) rfl rfl ?_
 refine HO.nil (thenQ_normal (?_))
 refine HW.seq ?_
 refine HW.region ?_
 refine oM (.int .i64 ((u8w (members.tmod 121)).toNat : Int)) rfl rfl ?_
 refine oM (.int .i64 (1 + ((u8w (fan.tmod 64)).toNat : Int))) rfl rfl ?_
 refine HO.call (want_none) rfl (ec en_8 rfl rfl) (plan_Need_walk (fr := (fr)) ((u8w (members.tmod 121)).toNat : Int) (1 + ((u8w (fan.tmod 64)).toNat : Int)) hS hM) ?_
 rintro _ h_1 ⟨F_1, r0_1, r1_1, rfl, hk, hS, hM⟩
 replace hK := hK.trans hk
 refine oM (.tuple #[.int .i64 r0_1, .bool r1_1]) rfl rfl ?_
 refine oV (.int .i64 r0_1) (q_extract rfl rfl) rfl ?_
 refine oV (.bool r1_1) (q_extract rfl rfl) rfl ?_
 refine oA (.int .i64 r0_1) rfl rfl ?_
 refine oA (.bool r1_1) rfl rfl ?_
 refine HO.nil (thenQ_normal (?_))
 refine HW.seq ?_
 refine HW.region ?_
 refine oM (.int .i64 ((u8w (members.tmod 121)).toNat : Int)) rfl rfl ?_
 refine oM (.int .i64 (1 + ((u8w (fan.tmod 64)).toNat : Int))) rfl rfl ?_
 refine HO.call (want_none) rfl (ec en_9 rfl rfl) (ref33_Need_walk (fr := (fr)) ((u8w (members.tmod 121)).toNat : Int) (1 + ((u8w (fan.tmod 64)).toNat : Int)) hS hM) ?_
 rintro _ h_2 ⟨F_2, r_2, rfl, hk, hS, hM⟩
 replace hK := hK.trans hk
 refine oA (.int .i64 r_2) rfl rfl ?_
 refine HO.nil (thenQ_normal (?_))
 refine HW.seq ?_
 refine HW.seq ?_
 refine HW.region ?_
 refine oM (.int .i64 r_2) rfl rfl ?_
 refine oV (.bool (decide (r_2 < 0))) (q_lss rfl rfl) rfl ?_
 refine HO.nil (thenQ_normal (?_))
 refine HW.cond (decide (r_2 < 0)) rfl (fun c_1 => ?_) (fun c_1 => ?_)
 ·
  replace hM := hM.1 (of_decide_eq_true c_1)
  refine HW.seq_mid (fun f h => ∃ (F' : Fz) (b_1 : Bool), f 6 = .bool b_1 ∧ f 7 = .int .i64 ((u8w (members.tmod 121)).toNat : Int) ∧ f 8 = .int .i64 ((u8w (services.tmod 121)).toNat : Int) ∧ f 9 = .int .i64 (1 + ((u8w (fan.tmod 64)).toNat : Int)) ∧ f 10 = .int .i64 r0_1 ∧ f 11 = .bool r1_1 ∧ f 12 = .int .i64 r_2 ∧ Kp F h0 F' h ∧ St F' (fr) h ∧ law33_PlanNeeds_j1 Q b_1) ?_ ?_
  ·
   refine HW.region ?_
   refine oM (.int .i64 r0_1) rfl rfl ?_
   refine oV (.bool (decide (r0_1 = 0))) (q_eql rfl rfl) rfl ?_
   refine oM (.bool (decide (r0_1 = 0))) rfl rfl ?_
   rcases Bool.eq_false_or_eq_true (decide (r0_1 = 0)) with c_2 | c_2
   ·
    replace hM := hM.1 (of_decide_eq_true c_2)
    refine HO.val (v := .bool r1_1) (want_by rfl rfl c_2) rfl (q_move rfl) ?_
    refine HO.val (v := .bool (!r1_1)) (want_by rfl rfl c_2) rfl (q_not rfl) ?_
    refine oV (.bool (!r1_1)) (q_pickK true rfl c_2 rfl) rfl ?_
    refine oM (.bool (!r1_1)) rfl rfl ?_
    rcases Bool.eq_false_or_eq_true (!r1_1) with c_3 | c_3
    ·
     replace hM := hM.1 c_3
     refine HO.val (v := .int .i64 ((u8w (members.tmod 121)).toNat : Int)) (want_by rfl rfl c_3) rfl (q_move rfl) ?_
     refine HO.val (v := .int .i64 ((u8w (services.tmod 121)).toNat : Int)) (want_by rfl rfl c_3) rfl (q_move rfl) ?_
     refine HO.val (v := .int .i64 (1 + ((u8w (fan.tmod 64)).toNat : Int))) (want_by rfl rfl c_3) rfl (q_move rfl) ?_
     refine HO.call (want_by rfl rfl c_3) rfl (ec en_10 rfl rfl) (plan_Fits_walk (fr := (fr)) ((u8w (members.tmod 121)).toNat : Int) ((u8w (services.tmod 121)).toNat : Int) (1 + ((u8w (fan.tmod 64)).toNat : Int)) hS hM) ?_
     rintro _ h_3 ⟨F_3, r_3, rfl, hk, hS, hM⟩
     replace hK := hK.trans hk
     refine HO.val (v := .bool (!r_3)) (want_by rfl rfl c_3) rfl (q_not rfl) ?_
     refine oV (.bool (!r_3)) (q_pickK true rfl c_3 rfl) rfl ?_
     refine oM (.bool (!r_3)) rfl rfl ?_
     rcases Bool.eq_false_or_eq_true (!r_3) with c_4 | c_4
     ·
      replace hM := hM.1 c_4
      refine HO.call (want_by rfl rfl c_4) rfl (ec en_11 rfl rfl) (law33_lives_walk (fr := (fr))  hS hD hM) ?_
      rintro _ h_4 ⟨F_4, r_4, rfl, hk, hS, hM⟩
      replace hK := hK.trans hk
      refine oV (.bool r_4) (q_pickK true rfl c_4 rfl) rfl ?_
      refine oA (.bool r_4) rfl rfl ?_
      refine HO.nil (thenQ_normal (?_))
      exact ⟨F_4, r_4, rfl, rfl, rfl, rfl, rfl, rfl, rfl, hK, hS, hM⟩
     ·
      replace hM := hM.2 c_4
      refine HO.past (past_by rfl rfl c_4) rfl ?_
      refine oV (.bool false) (q_pickK false rfl c_4 rfl) rfl ?_
      refine oA (.bool false) rfl rfl ?_
      refine HO.nil (thenQ_normal (?_))
      exact ⟨F_3, false, rfl, rfl, rfl, rfl, rfl, rfl, rfl, hK, hS, hM⟩
    ·
     replace hM := hM.2 c_3
     refine HO.past (past_by rfl rfl c_3) rfl ?_
     refine HO.past (past_by rfl rfl c_3) rfl ?_
     refine HO.past (past_by rfl rfl c_3) rfl ?_
     refine HO.past (past_by rfl rfl c_3) rfl ?_
     refine HO.past (past_by rfl rfl c_3) rfl ?_
     refine oV (.bool false) (q_pickK false rfl c_3 rfl) rfl ?_
     refine oM (.bool false) rfl rfl ?_
     refine HO.past (past_some rfl rfl) rfl ?_
     refine oV (.bool false) (q_pick rfl rfl) rfl ?_
     refine oA (.bool false) rfl rfl ?_
     refine HO.nil (thenQ_normal (?_))
     exact ⟨F_2, false, rfl, rfl, rfl, rfl, rfl, rfl, rfl, hK, hS, hM⟩
   ·
    replace hM := hM.2 (of_decide_eq_false c_2)
    refine HO.past (past_by rfl rfl c_2) rfl ?_
    refine HO.past (past_by rfl rfl c_2) rfl ?_
    refine oV (.bool false) (q_pickK false rfl c_2 rfl) rfl ?_
    refine oM (.bool false) rfl rfl ?_
    refine HO.past (past_some rfl rfl) rfl ?_
    refine HO.past (past_some rfl rfl) rfl ?_
    refine HO.past (past_some rfl rfl) rfl ?_
    refine HO.past (past_some rfl rfl) rfl ?_
    refine HO.past (past_some rfl rfl) rfl ?_
    refine oV (.bool false) (q_pick rfl rfl) rfl ?_
    refine oM (.bool false) rfl rfl ?_
    refine HO.past (past_some rfl rfl) rfl ?_
    refine oV (.bool false) (q_pick rfl rfl) rfl ?_
    refine oA (.bool false) rfl rfl ?_
    refine HO.nil (thenQ_normal (?_))
    exact ⟨F_2, false, rfl, rfl, rfl, rfl, rfl, rfl, rfl, hK, hS, hM⟩
  ·
   rintro f_1 h_5 ⟨F_5, b_1, e6, e7, e8, e9, e10, e11, e12, hK, hS, hM⟩
   unfold law33_PlanNeeds_j1 at hM
   refine HW.fr [(6, .bool b_1), (7, .int .i64 ((u8w (members.tmod 121)).toNat : Int)), (8, .int .i64 ((u8w (services.tmod 121)).toNat : Int)), (9, .int .i64 (1 + ((u8w (fan.tmod 64)).toNat : Int))), (10, .int .i64 r0_1), (11, .bool r1_1), (12, .int .i64 r_2)] ⟨e6, e7, e8, e9, e10, e11, e12, trivial⟩ ?_
   refine HW.ret (thenQ_ret (?_))
   refine ⟨.inr rfl, .bool b_1, res1 rfl (rt rfl), ?_⟩
   exact ⟨F_5, b_1, rfl, hK, hS, hM⟩
 ·
  replace hM := hM.2 (of_decide_eq_false c_1)
  refine HW.skip (thenQ_normal (?_))
  refine HW.seq ?_
  refine HW.region ?_
  refine oM (.int .i64 r0_1) rfl rfl ?_
  refine oM (.int .i64 r_2) rfl rfl ?_
  refine oV (.bool (decide (r0_1 = r_2))) (q_eql rfl rfl) rfl ?_
  refine oM (.bool (decide (r0_1 = r_2))) rfl rfl ?_
  rcases Bool.eq_false_or_eq_true (decide (r0_1 = r_2)) with c_5 | c_5
  ·
   replace hM := hM.1 (of_decide_eq_true c_5)
   refine HO.val (v := .bool r1_1) (want_by rfl rfl c_5) rfl (q_move rfl) ?_
   refine oV (.bool r1_1) (q_pickK true rfl c_5 rfl) rfl ?_
   refine oM (.bool r1_1) rfl rfl ?_
   rcases Bool.eq_false_or_eq_true r1_1 with c_6 | c_6
   ·
    replace hM := hM.1 c_6
    refine HO.val (v := .int .i64 ((u8w (members.tmod 121)).toNat : Int)) (want_by rfl rfl c_6) rfl (q_move rfl) ?_
    refine HO.val (v := .int .i64 ((u8w (services.tmod 121)).toNat : Int)) (want_by rfl rfl c_6) rfl (q_move rfl) ?_
    refine HO.val (v := .int .i64 (1 + ((u8w (fan.tmod 64)).toNat : Int))) (want_by rfl rfl c_6) rfl (q_move rfl) ?_
    refine HO.call (want_by rfl rfl c_6) rfl (ec en_10 rfl rfl) (plan_Fits_walk (fr := (fr)) ((u8w (members.tmod 121)).toNat : Int) ((u8w (services.tmod 121)).toNat : Int) (1 + ((u8w (fan.tmod 64)).toNat : Int)) hS hM) ?_
    rintro _ h_6 ⟨F_6, r_5, rfl, hk, hS, hM⟩
    replace hK := hK.trans hk
    refine HO.val (v := .int .i64 r_2) (want_by rfl rfl c_6) rfl (q_move rfl) ?_
    refine HO.val (v := .int .i64 ((u8w (services.tmod 121)).toNat : Int)) (want_by rfl rfl c_6) rfl (q_move rfl) ?_
    refine HO.val (v := .bool (decide (r_2 ≤ ((u8w (services.tmod 121)).toNat : Int)))) (want_by rfl rfl c_6) rfl (q_leq rfl rfl) ?_
    refine HO.val (v := .bool (r_5 == (decide (r_2 ≤ ((u8w (services.tmod 121)).toNat : Int))))) (want_by rfl rfl c_6) rfl (q_eqlB Try.underlying4 rfl rfl) ?_
    refine oV (.bool (r_5 == (decide (r_2 ≤ ((u8w (services.tmod 121)).toNat : Int))))) (q_pickK true rfl c_6 rfl) rfl ?_
    refine oM (.bool (r_5 == (decide (r_2 ≤ ((u8w (services.tmod 121)).toNat : Int))))) rfl rfl ?_
    rcases Bool.eq_false_or_eq_true (r_5 == (decide (r_2 ≤ ((u8w (services.tmod 121)).toNat : Int)))) with c_7 | c_7
    ·
     replace hM := hM.1 c_7
     refine HO.call (want_by rfl rfl c_7) rfl (ec en_11 rfl rfl) (law33_lives_walk (fr := (fr))  hS hD hM) ?_
     rintro _ h_7 ⟨F_7, r_6, rfl, hk, hS, hM⟩
     replace hK := hK.trans hk
     refine oV (.bool r_6) (q_pickK true rfl c_7 rfl) rfl ?_
     refine oA (.bool r_6) rfl rfl ?_
     refine HO.nil (thenQ_normal (?_))
     refine HW.ret (?_)
     refine ⟨.inr rfl, .bool r_6, res1 rfl (rt rfl), ?_⟩
     exact ⟨F_7, r_6, rfl, hK, hS, hM⟩
    ·
     replace hM := hM.2 c_7
     refine HO.past (past_by rfl rfl c_7) rfl ?_
     refine oV (.bool false) (q_pickK false rfl c_7 rfl) rfl ?_
     refine oA (.bool false) rfl rfl ?_
     refine HO.nil (thenQ_normal (?_))
     refine HW.ret (?_)
     refine ⟨.inr rfl, .bool false, res1 rfl (rt rfl), ?_⟩
     exact ⟨F_6, false, rfl, hK, hS, hM⟩
   ·
    replace hM := hM.2 c_6
    refine HO.past (past_by rfl rfl c_6) rfl ?_
    refine HO.past (past_by rfl rfl c_6) rfl ?_
    refine HO.past (past_by rfl rfl c_6) rfl ?_
    refine HO.past (past_by rfl rfl c_6) rfl ?_
    refine HO.past (past_by rfl rfl c_6) rfl ?_
    refine HO.past (past_by rfl rfl c_6) rfl ?_
    refine HO.past (past_by rfl rfl c_6) rfl ?_
    refine HO.past (past_by rfl rfl c_6) rfl ?_
    refine oV (.bool false) (q_pickK false rfl c_6 rfl) rfl ?_
    refine oM (.bool false) rfl rfl ?_
    refine HO.past (past_some rfl rfl) rfl ?_
    refine oV (.bool false) (q_pick rfl rfl) rfl ?_
    refine oA (.bool false) rfl rfl ?_
    refine HO.nil (thenQ_normal (?_))
    refine HW.ret (?_)
    refine ⟨.inr rfl, .bool false, res1 rfl (rt rfl), ?_⟩
    exact ⟨F_2, false, rfl, hK, hS, hM⟩
  ·
   replace hM := hM.2 (of_decide_eq_false c_5)
   refine HO.past (past_by rfl rfl c_5) rfl ?_
   refine oV (.bool false) (q_pickK false rfl c_5 rfl) rfl ?_
   refine oM (.bool false) rfl rfl ?_
   refine HO.past (past_some rfl rfl) rfl ?_
   refine HO.past (past_some rfl rfl) rfl ?_
   refine HO.past (past_some rfl rfl) rfl ?_
   refine HO.past (past_some rfl rfl) rfl ?_
   refine HO.past (past_some rfl rfl) rfl ?_
   refine HO.past (past_some rfl rfl) rfl ?_
   refine HO.past (past_some rfl rfl) rfl ?_
   refine HO.past (past_some rfl rfl) rfl ?_
   refine oV (.bool false) (q_pick rfl rfl) rfl ?_
   refine oM (.bool false) rfl rfl ?_
   refine HO.past (past_some rfl rfl) rfl ?_
   refine oV (.bool false) (q_pick rfl rfl) rfl ?_
   refine oA (.bool false) rfl rfl ?_
   refine HO.nil (thenQ_normal (?_))
   refine HW.ret (?_)
   refine ⟨.inr rfl, .bool false, res1 rfl (rt rfl), ?_⟩
   exact ⟨F_2, false, rfl, hK, hS, hM⟩
end Go.Wk
