/- The walks of TreeTexts. -/
import Derived.Test.YtjliljlmgepmpaaGreatDoorTreB1
set_option linter.unusedSimpArgs false
set_option linter.unusedVariables false
set_option linter.unusedSectionVars false
namespace Go.Wk
open Go.HL
open Go.Proofs hiding encI
variable [DM]
theorem en_8 (args : Array Value) (w : World) : (callFunc 8 args).run Tryz.prog w = .ok (.enter 8 args) w := by kernel_rfl
theorem en_12 (args : Array Value) (w : World) : (callFunc 12 args).run Tryz.prog w = .ok (.enter 12 args) w := by kernel_rfl
theorem en_14 (args : Array Value) (w : World) : (callFunc 14 args).run Tryz.prog w = .ok (.enter 14 args) w := by kernel_rfl
theorem en_11 (args : Array Value) (w : World) : (callFunc 11 args).run Tryz.prog w = .ok (.enter 11 args) w := by kernel_rfl
theorem en_94 (args : Array Value) (w : World) : (callFunc 94 args).run Tryz.prog w = .ok (.enter 94 args) w := by kernel_rfl
theorem en_70 (args : Array Value) (w : World) : (callFunc 70 args).run Tryz.prog w = .ok (.enter 70 args) w := by kernel_rfl
theorem en_48 (args : Array Value) (w : World) : (callFunc 48 args).run Tryz.prog w = .ok (.enter 48 args) w := by kernel_rfl
theorem en_9 (args : Array Value) (w : World) : (callFunc 9 args).run Tryz.prog w = .ok (.enter 9 args) w := by kernel_rfl
theorem en_13 (args : Array Value) (w : World) : (callFunc 13 args).run Tryz.prog w = .ok (.enter 13 args) w := by kernel_rfl
theorem en_15 (args : Array Value) (w : World) : (callFunc 15 args).run Tryz.prog w = .ok (.enter 15 args) w := by kernel_rfl
def law01_Cut_W (s1 : Str) (most : Int) (Q : Str → Prop) : Prop :=
 (most < (s1.length : Int) → ((0 : Int) ≤ most ∧ most ≤ (s1.length : Int)) ∧ (Q (cut s1 0 most))) ∧ (¬ (most < (s1.length : Int)) → Q s1)
set_option maxHeartbeats 40000000 in
set_option maxRecDepth 100000 in
theorem law01_Cut_walk {F : Fz} {fr : List Ow} {h0 : Heap} (s1 : Str) (most : Int) (hS : St F (fr) h0)  {Q : Str → Prop} (hM : law01_Cut_W s1 most Q) :
  HC Tryz.prog 9 #[.string (bs s1), .int .i64 most] h0 fun u h' => ∃ (F' : Fz) (r_1 : Str), u = .string (bs r_1) ∧ Kp F h0 F' h' ∧ St F' (fr) h' ∧ Q r_1 := by
 unfold law01_Cut_W at hM
 have hK := Kp.refl F h0
 refine HC.of_HW (n := 13) Tryz.func9 rfl rfl (Nat.le_of_ble_eq_true rfl) ?_
 refine HW.seq ?_
 refine HW.region ?_
 refine oA (.string (bs [])) rfl rfl ?_
 refine HO.nil (thenQ_normal (?_))
 refine HW.seq ?_
 refine HW.seq ?_
 refine HW.region ?_
 refine oM (.string (bs s1)) rfl rfl ?_
 refine oV (.int .i64 (s1.length : Int)) (q_lenT Tryz.underlying9 rfl rfl) rfl ?_
 refine oM (.int .i64 most) rfl rfl ?_
 refine oV (.bool (decide (most < (s1.length : Int)))) (q_gtr rfl rfl) rfl ?_
 refine HO.nil (thenQ_normal (?_))
 refine HW.cond (decide (most < (s1.length : Int))) rfl (fun c_1 => ?_) (fun c_1 => ?_)
 ·
  replace hM := hM.1 (of_decide_eq_true c_1)
  refine HW.seq ?_
  refine HW.region ?_
  refine oM (.string (bs s1)) rfl rfl ?_
  refine oM (.int .i64 most) rfl rfl ?_
  obtain ⟨ho_1, hM⟩ := hM
  refine oV (.string (bs (cut s1 0 most))) (q_strH Tryz.underlying9 rfl rfl ho_1) rfl ?_
  refine oA (.string (bs (cut s1 0 most))) rfl rfl ?_
  refine HO.nil (thenQ_normal (?_))
  refine HW.ret (thenQ_ret (?_))
  refine ⟨.inr rfl, .string (bs (cut s1 0 most)), res1 rfl (rt rfl), ?_⟩
  exact ⟨F, cut s1 0 most, rfl, hK, hS, hM⟩
 ·
  replace hM := hM.2 (of_decide_eq_false c_1)
  refine HW.skip (thenQ_normal (?_))
  refine HW.seq ?_
  refine HW.region ?_
  refine oM (.string (bs s1)) rfl rfl ?_
  refine oA (.string (bs s1)) rfl rfl ?_
  refine HO.nil (thenQ_normal (?_))
  refine HW.ret (?_)
  refine ⟨.inr rfl, .string (bs s1), res1 rfl (rt rfl), ?_⟩
  exact ⟨F, s1, rfl, hK, hS, hM⟩

def ref01_Sign_W (n : Int) (Q : Str → Prop) : Prop :=
 ((0 : Int) ≤ n ∧ n ≤ ((u8w (n + 1)).toNat : Int) ∧ ((u8w (n + 1)).toNat : Int) ≤ ((([48, 49, 50, 51, 52, 53, 54, 55, 56, 57, 97, 98, 99, 100, 101, 102] : Str)).length : Int)) ∧ (Q (cut ([48, 49, 50, 51, 52, 53, 54, 55, 56, 57, 97, 98, 99, 100, 101, 102] : Str) n ((u8w (n + 1)).toNat : Int)))
set_option maxHeartbeats 40000000 in
set_option maxRecDepth 100000 in
theorem ref01_Sign_walk {F : Fz} {fr : List Ow} {h0 : Heap} (n : Int) (hS : St F (fr) h0)  {Q : Str → Prop} (hM : ref01_Sign_W n Q) :
  HC Tryz.prog 94 #[.int .u8 n] h0 fun u h' => ∃ (F' : Fz) (r_1 : Str), u = .string (bs r_1) ∧ Kp F h0 F' h' ∧ St F' (fr) h' ∧ Q r_1 := by
 unfold ref01_Sign_W at hM
 have hK := Kp.refl F h0
 refine HC.of_HW (n := 7) Tryz.func94 rfl rfl (Nat.le_of_ble_eq_true rfl) ?_
 refine HW.seq ?_
 refine HW.region ?_
 refine oA (.string (bs [])) rfl rfl ?_
 refine HO.nil (thenQ_normal (?_))
 refine HW.seq ?_
 refine HW.region ?_
 refine oM (.int .u8 n) rfl rfl ?_
 refine oM (.int .u8 n) rfl rfl ?_
 refine oV (.int .u8 ((u8w (n + 1)).toNat : Int)) ((q_add rfl rfl).of_eq (u8w_v _)) rfl ?_
 obtain ⟨ho_1, hM⟩ := hM
 refine oV (.string (bs (cut ([48, 49, 50, 51, 52, 53, 54, 55, 56, 57, 97, 98, 99, 100, 101, 102] : Str) n ((u8w (n + 1)).toNat : Int)))) (q_strLH Tryz.underlying9 rfl rfl rfl ho_1) rfl ?_
 refine oA (.string (bs (cut ([48, 49, 50, 51, 52, 53, 54, 55, 56, 57, 97, 98, 99, 100, 101, 102] : Str) n ((u8w (n + 1)).toNat : Int)))) rfl rfl ?_
 refine HO.nil (thenQ_normal (?_))
 refine HW.ret (?_)
 refine ⟨.inr rfl, .string (bs (cut ([48, 49, 50, 51, 52, 53, 54, 55, 56, 57, 97, 98, 99, 100, 101, 102] : Str) n ((u8w (n + 1)).toNat : Int))), res1 rfl (rt rfl), ?_⟩
 exact ⟨F, cut ([48, 49, 50, 51, 52, 53, 54, 55, 56, 57, 97, 98, 99, 100, 101, 102] : Str) n ((u8w (n + 1)).toNat : Int), rfl, hK, hS, hM⟩

def ref03_Num_j1 (base : Int) (n_1 : Int) (s_1 : Str) (K_1 : Int → Str → Prop) : Prop :=
 (base ≠ 0) ∧ (ref01_Sign_W ((u8w (n_1.tmod base)).toNat : Int) (fun r_2 => ((r_2.length : Int) + (s_1.length : Int) ≤ 9223372036854775807) ∧ ((I64 (n_1.tdiv base)) ∧ (K_1 (n_1.tdiv base) (r_2 ++ s_1)))))
def ref03_Num_l1 (base : Int) (Q : Str → Prop) (K_1 : Int → Str → Prop) (n_1 : Int) (s_1 : Str) : Prop :=
 ((s_1 : Str) = [] → ref03_Num_j1 base n_1 s_1 K_1) ∧ (¬ ((s_1 : Str) = []) → (0 < n_1 → ref03_Num_j1 base n_1 s_1 K_1) ∧ (¬ (0 < n_1) → Q s_1))
def ref03_Num_W (n : Int) (base : Int) (Q : Str → Prop) : Prop :=
 loopW (fun (K_1 : (Int × Str) → Prop) (s : Int × Str) => ref03_Num_l1 base Q (fun n_1 s_1 => K_1 (n_1, s_1)) s.1 s.2) (n, [])
set_option maxHeartbeats 40000000 in
set_option maxRecDepth 100000 in
theorem ref03_Num_walk {F : Fz} {fr : List Ow} {h0 : Heap} (n : Int) (base : Int) (hS : St F (fr) h0)  {Q : Str → Prop} (hM : ref03_Num_W n base Q) :
  HC Tryz.prog 70 #[.int .i64 n, .int .i64 base] h0 fun u h' => ∃ (F' : Fz) (r_1 : Str), u = .string (bs r_1) ∧ Kp F h0 F' h' ∧ St F' (fr) h' ∧ Q r_1 := by
 unfold ref03_Num_W at hM
 have hK := Kp.refl F h0
 refine HC.of_HW (n := 23) Tryz.func70 rfl rfl (Nat.le_of_ble_eq_true rfl) ?_
 refine HW.seq ?_
 refine HW.region ?_
 refine oA (.string (bs [])) rfl rfl ?_
 refine HO.nil (thenQ_normal (?_))
 refine HW.seq ?_
 refine HW.region ?_
 refine oA (.string (bs [])) rfl rfl ?_
 refine HO.nil (thenQ_normal (?_))
 refine HW.seq ?_
 refine HW.block ?_
 obtain ⟨I_1, m_1, hI_1, hR_1⟩ := hM
 refine HW.loop (S := Int × Str) (fun s f h => match s with | (n_1, s_1) => ∃ (F' : Fz), f 0 = .int .i64 n_1 ∧ f 1 = .int .i64 base ∧ f 4 = .string (bs []) ∧ f 5 = .string (bs s_1) ∧ Kp F h0 F' h ∧ St F' (fr) h ∧ I_1 (n_1, s_1)) m_1 (n, []) ⟨F, rfl, rfl, rfl, rfl, hK, hS, hI_1⟩ ?_
 rintro ⟨n_1, s_1⟩ f_1 h_1 ⟨F_1, e0, e1, e4, e5, hK, hS, hI0⟩
 obtain ⟨K_1, hKe_1⟩ : ∃ K : Int → Str → Prop, K = fun n_1' s_1' => I_1 (n_1', s_1') ∧ m_1 (n_1', s_1') < m_1 (n_1, s_1) := ⟨_, rfl⟩
 have hM : ref03_Num_l1 base Q K_1 n_1 s_1 := by rw [hKe_1]; exact hR_1 (n_1, s_1) hI0
 unfold ref03_Num_l1 at hM
 refine HW.fr [(0, .int .i64 n_1), (1, .int .i64 base), (4, .string (bs [])), (5, .string (bs s_1))] ⟨e0, e1, e4, e5, trivial⟩ ?_
 refine HW.seq_mid (fun f h => ∃ (F' : Fz), f 0 = .int .i64 n_1 ∧ f 1 = .int .i64 base ∧ f 4 = .string (bs []) ∧ f 5 = .string (bs s_1) ∧ Kp F h0 F' h ∧ St F' (fr) h ∧ ref03_Num_j1 base n_1 s_1 K_1) ?_ ?_
 ·
  refine HW.seq ?_
  refine HW.region ?_
  refine oM (.string (bs s_1)) rfl rfl ?_
  refine oV (.bool (decide ((s_1 : Str) = []))) (q_eqlT rfl rfl) rfl ?_
  refine oM (.bool (decide ((s_1 : Str) = []))) rfl rfl ?_
  rcases Bool.eq_false_or_eq_true (decide ((s_1 : Str) = [])) with c_1 | c_1
  ·
   replace hM := hM.1 (of_decide_eq_true c_1)
   refine HO.past (past_by rfl rfl c_1) rfl ?_
   refine HO.past (past_by rfl rfl c_1) rfl ?_
   refine oV (.bool true) (q_pickK true rfl c_1 rfl) rfl ?_
   refine HO.nil (thenQ_normal (?_))
   refine HW.condT rfl ?_
   refine HW.skip (thenQ_normal (?_))
   exact ⟨F_1, rfl, rfl, rfl, rfl, hK, hS, hM⟩
  ·
   replace hM := hM.2 (of_decide_eq_false c_1)
   refine HO.val (v := .int .i64 n_1) (want_by rfl rfl c_1) rfl (q_move rfl) ?_
   refine HO.val (v := .bool (decide (0 < n_1))) (want_by rfl rfl c_1) rfl (q_gtr rfl rfl) ?_
   refine oV (.bool (decide (0 < n_1))) (q_pickK false rfl c_1 rfl) rfl ?_
   refine HO.nil (thenQ_normal (?_))
   refine HW.cond (decide (0 < n_1)) rfl (fun c_2 => ?_) (fun c_2 => ?_)
   ·
    replace hM := hM.1 (of_decide_eq_true c_2)
    refine HW.skip (thenQ_normal (?_))
    exact ⟨F_1, rfl, rfl, rfl, rfl, hK, hS, hM⟩
   ·
    replace hM := hM.2 (of_decide_eq_false c_2)
    refine HW.exit (thenQ_exit (thenQ_exit (blockQ_exit (thenQ_normal (?_)))))
    refine HW.seq ?_
    refine HW.region ?_
    refine oM (.string (bs s_1)) rfl rfl ?_
    refine oA (.string (bs s_1)) rfl rfl ?_
    refine HO.nil (thenQ_normal (?_))
    refine HW.ret (?_)
    refine ⟨.inr rfl, .string (bs s_1), res1 rfl (rt rfl), ?_⟩
    exact ⟨F_1, s_1, rfl, hK, hS, hM⟩
 ·
  rintro f_2 h_2 ⟨F_2, e0, e1, e4, e5, hK, hS, hM⟩
  unfold ref03_Num_j1 at hM
  refine HW.fr [(0, .int .i64 n_1), (1, .int .i64 base), (4, .string (bs [])), (5, .string (bs s_1))] ⟨e0, e1, e4, e5, trivial⟩ ?_
  refine HW.block ?_
  refine HW.seq ?_
  refine HW.region ?_
  refine oM (.int .i64 n_1) rfl rfl ?_
  refine oM (.int .i64 base) rfl rfl ?_
  obtain ⟨ho_1, hM⟩ := hM
  refine oV (.int .i64 (n_1.tmod base)) (q_rem rfl rfl ho_1) rfl ?_
  refine oV (.int .u8 ((u8w (n_1.tmod base)).toNat : Int)) ((q_convInt (n := n_1.tmod base) Tryz.underlying3 Tryz.underlying5 rfl rfl).of_eq (u8w_v _)) rfl ?_
  refine HO.call (want_none) rfl (ec en_94 rfl rfl) (ref01_Sign_walk (fr := (fr)) ((u8w (n_1.tmod base)).toNat : Int) hS hM) ?_
  rintro _ h_3 ⟨F_3, r_2, rfl, hk, hS, hM⟩
  replace hK := hK.trans hk
  refine oM (.string (bs s_1)) rfl rfl ?_
  obtain ⟨ho_2, hM⟩ := hM
  refine oV (.string (bs (r_2 ++ s_1))) (q_addT rfl rfl ho_2) rfl ?_
  refine oA (.string (bs (r_2 ++ s_1))) rfl rfl ?_
  refine HO.nil (thenQ_normal (?_))
  refine HW.region ?_
  refine oM (.int .i64 n_1) rfl rfl ?_
  refine oM (.int .i64 base) rfl rfl ?_
  obtain ⟨ho_3, hM⟩ := hM
  refine oV (.int .i64 (n_1.tdiv base)) (q_quoN _ rfl rfl ho_1 rfl ho_3.1 ho_3.2) rfl ?_
  refine oA (.int .i64 (n_1.tdiv base)) rfl rfl ?_
  refine HO.nil (blockQ_normal (thenQ_normal (?_)))
  rw [hKe_1] at hM
  exact ⟨(n_1.tdiv base, r_2 ++ s_1), ⟨F_3, rfl, rfl, rfl, rfl, hK, hS, hM.1⟩, hM.2⟩

def ref32_num_B (R : Int → (Str → Prop) → Prop) (n : Int) (Q : Str → Prop) : Prop :=
 (0 ≤ n → ref03_Num_W n 10 (fun r_2 => Q r_2)) ∧ (¬ (0 ≤ n) → ((n.tmod 10) = 0 → (I64 (n.tdiv 10)) ∧ (R (n.tdiv 10) (fun r_3 => ((r_3.length : Int) + ((([48] : Str)).length : Int) ≤ 9223372036854775807) ∧ (Q (r_3 ++ ([48] : Str)))))) ∧ (¬ ((n.tmod 10) = 0) → ((-10) < n → (I64 (0 - n)) ∧ (ref03_Num_W (0 - n) 10 (fun r_4 => (((([45] : Str)).length : Int) + (r_4.length : Int) ≤ 9223372036854775807) ∧ (Q (([45] : Str) ++ r_4))))) ∧ (¬ ((-10) < n) → (I64 (n.tdiv 10)) ∧ (R (n.tdiv 10) (fun r_5 => (I64 (0 - (n.tmod 10))) ∧ (ref03_Num_W (0 - (n.tmod 10)) 10 (fun r_6 => ((r_5.length : Int) + (r_6.length : Int) ≤ 9223372036854775807) ∧ (Q (r_5 ++ r_6)))))))))
def ref32_num_Wn : Nat → Int → (Str → Prop) → Prop
 | 0 => fun _ _ => False
 | n + 1 => ref32_num_B (ref32_num_Wn n)
def ref32_num_W (n : Int) (Q : Str → Prop) : Prop :=
 ∃ fu_ : Nat, ref32_num_Wn fu_ n Q
set_option maxHeartbeats 40000000 in
set_option maxRecDepth 100000 in
theorem ref32_num_walkn : ∀ (n_ : Nat) {F : Fz} {fr : List Ow} {h0 : Heap} (n : Int) (hS : St F (fr) h0)  {Q : Str → Prop} (hM : ref32_num_Wn n_ n Q),
  HC Tryz.prog 48 #[.int .i64 n] h0 fun u h' => ∃ (F' : Fz) (r_1 : Str), u = .string (bs r_1) ∧ Kp F h0 F' h' ∧ St F' (fr) h' ∧ Q r_1 := by
 intro n_
 induction n_ with
 | zero => intro F fr h0 n hS  Q hM; exact hM.elim
 | succ n_ ih => ?_
 intro F fr h0 n hS  Q hM
 replace hM : ref32_num_B (ref32_num_Wn n_) n Q := hM
 unfold ref32_num_B at hM
 generalize ref32_num_Wn n_ = R at ih hM
 have hK := Kp.refl F h0
 refine HC.of_HW (n := 28) Tryz.func48 rfl rfl (Nat.le_of_ble_eq_true rfl) ?_
 refine HW.seq ?_
 refine HW.region ?_
 refine oA (.string (bs [])) rfl rfl ?_
 refine HO.nil (thenQ_normal (?_))
 refine HW.seq ?_
 refine HW.seq ?_
 refine HW.region ?_
 refine oM (.int .i64 n) rfl rfl ?_
 refine oV (.bool (decide (0 ≤ n))) (q_geq rfl rfl) rfl ?_
 refine HO.nil (thenQ_normal (?_))
 refine HW.cond (decide (0 ≤ n)) rfl (fun c_1 => ?_) (fun c_1 => ?_)
 ·
  replace hM := hM.1 (of_decide_eq_true c_1)
  refine HW.seq ?_
  refine HW.region ?_
  refine oM (.int .i64 n) rfl rfl ?_
  refine HO.call (want_none) rfl (ec en_70 rfl rfl) (ref03_Num_walk (fr := (fr)) n 10 hS hM) ?_
  rintro _ h_1 ⟨F_1, r_2, rfl, hk, hS, hM⟩
  replace hK := hK.trans hk
  refine oA (.string (bs r_2)) rfl rfl ?_
  refine HO.nil (thenQ_normal (?_))
  refine HW.ret (thenQ_ret (?_))
  refine ⟨.inr rfl, .string (bs r_2), res1 rfl (rt rfl), ?_⟩
  exact ⟨F_1, r_2, rfl, hK, hS, hM⟩
 ·
  replace hM := hM.2 (of_decide_eq_false c_1)
  refine HW.skip (thenQ_normal (?_))
  refine HW.seq ?_
  refine HW.seq ?_
  refine HW.region ?_
  refine oM (.int .i64 n) rfl rfl ?_
  refine oV (.int .i64 (n.tmod 10)) (q_rem rfl rfl (by decide)) rfl ?_
  refine oV (.bool (decide ((n.tmod 10) = 0))) (q_eql rfl rfl) rfl ?_
  refine HO.nil (thenQ_normal (?_))
  refine HW.cond (decide ((n.tmod 10) = 0)) rfl (fun c_2 => ?_) (fun c_2 => ?_)
  ·
   replace hM := hM.1 (of_decide_eq_true c_2)
   refine HW.seq ?_
   refine HW.region ?_
   refine oM (.int .i64 n) rfl rfl ?_
   obtain ⟨ho_1, hM⟩ := hM
   refine oV (.int .i64 (n.tdiv 10)) (q_quoN _ rfl rfl (by decide) rfl ho_1.1 ho_1.2) rfl ?_
   refine HO.call (want_none) rfl (ec en_48 rfl rfl) (ih (fr := (fr)) (n.tdiv 10) hS hM) ?_
   rintro _ h_2 ⟨F_2, r_3, rfl, hk, hS, hM⟩
   replace hK := hK.trans hk
   obtain ⟨ho_2, hM⟩ := hM
   refine oV (.string (bs (r_3 ++ ([48] : Str)))) (q_addT rfl rfl ho_2) rfl ?_
   refine oA (.string (bs (r_3 ++ ([48] : Str)))) rfl rfl ?_
   refine HO.nil (thenQ_normal (?_))
   refine HW.ret (thenQ_ret (?_))
   refine ⟨.inr rfl, .string (bs (r_3 ++ ([48] : Str))), res1 rfl (rt rfl), ?_⟩
   exact ⟨F_2, r_3 ++ ([48] : Str), rfl, hK, hS, hM⟩
  ·
   replace hM := hM.2 (of_decide_eq_false c_2)
   refine HW.skip (thenQ_normal (?_))
   refine HW.seq ?_
   refine HW.seq ?_
   refine HW.region ?_
   refine oM (.int .i64 n) rfl rfl ?_
   refine oV (.bool (decide ((-10) < n))) (q_gtr rfl rfl) rfl ?_
   refine HO.nil (thenQ_normal (?_))
   refine HW.cond (decide ((-10) < n)) rfl (fun c_3 => ?_) (fun c_3 => ?_)
   ·
    replace hM := hM.1 (of_decide_eq_true c_3)
    refine HW.seq ?_
    refine HW.region ?_
    refine oM (.int .i64 n) rfl rfl ?_
    obtain ⟨ho_3, hM⟩ := hM
    refine oV (.int .i64 (0 - n)) ((q_neg rfl).of_eq (by rw [wrap_i64 ho_3.1 ho_3.2])) rfl ?_
    refine HO.call (want_none) rfl (ec en_70 rfl rfl) (ref03_Num_walk (fr := (fr)) (0 - n) 10 hS hM) ?_
    rintro _ h_3 ⟨F_3, r_4, rfl, hk, hS, hM⟩
    replace hK := hK.trans hk
    obtain ⟨ho_4, hM⟩ := hM
    refine oV (.string (bs (([45] : Str) ++ r_4))) (q_addT rfl rfl ho_4) rfl ?_
    refine oA (.string (bs (([45] : Str) ++ r_4))) rfl rfl ?_
    refine HO.nil (thenQ_normal (?_))
    refine HW.ret (thenQ_ret (?_))
    refine ⟨.inr rfl, .string (bs (([45] : Str) ++ r_4)), res1 rfl (rt rfl), ?_⟩
    exact ⟨F_3, ([45] : Str) ++ r_4, rfl, hK, hS, hM⟩
   ·
    replace hM := hM.2 (of_decide_eq_false c_3)
    refine HW.skip (thenQ_normal (?_))
    refine HW.seq ?_
    refine HW.region ?_
    refine oM (.int .i64 n) rfl rfl ?_
    obtain ⟨ho_5, hM⟩ := hM
    refine oV (.int .i64 (n.tdiv 10)) (q_quoN _ rfl rfl (by decide) rfl ho_5.1 ho_5.2) rfl ?_
    refine HO.call (want_none) rfl (ec en_48 rfl rfl) (ih (fr := (fr)) (n.tdiv 10) hS hM) ?_
    rintro _ h_4 ⟨F_4, r_5, rfl, hk, hS, hM⟩
    replace hK := hK.trans hk
    refine oM (.int .i64 n) rfl rfl ?_
    refine oV (.int .i64 (n.tmod 10)) (q_rem rfl rfl (by decide)) rfl ?_
    obtain ⟨ho_6, hM⟩ := hM
    refine oV (.int .i64 (0 - (n.tmod 10))) ((q_neg rfl).of_eq (by rw [wrap_i64 ho_6.1 ho_6.2])) rfl ?_
    refine HO.call (want_none) rfl (ec en_70 rfl rfl) (ref03_Num_walk (fr := (fr)) (0 - (n.tmod 10)) 10 hS hM) ?_
    rintro _ h_5 ⟨F_5, r_6, rfl, hk, hS, hM⟩
    replace hK := hK.trans hk
    obtain ⟨ho_7, hM⟩ := hM
    refine oV (.string (bs (r_5 ++ r_6))) (q_addT rfl rfl ho_7) rfl ?_
    refine oA (.string (bs (r_5 ++ r_6))) rfl rfl ?_
    refine HO.nil (thenQ_normal (?_))
    refine HW.ret (?_)
    refine ⟨.inr rfl, .string (bs (r_5 ++ r_6)), res1 rfl (rt rfl), ?_⟩
    exact ⟨F_5, r_5 ++ r_6, rfl, hK, hS, hM⟩
set_option maxHeartbeats 40000000 in
set_option maxRecDepth 100000 in
theorem ref32_num_walk {F : Fz} {fr : List Ow} {h0 : Heap} (n : Int) (hS : St F (fr) h0)  {Q : Str → Prop} (hM : ref32_num_W n Q) :
  HC Tryz.prog 48 #[.int .i64 n] h0 fun u h' => ∃ (F' : Fz) (r_1 : Str), u = .string (bs r_1) ∧ Kp F h0 F' h' ∧ St F' (fr) h' ∧ Q r_1 := by
 obtain ⟨n_, hM⟩ := hM
 exact ref32_num_walkn n_ n hS  hM

def ref32_Print_l1 (t_Links : List T_api_Branch) (Q : Str → Prop) (K_1 : Str → Int → Prop) (s_1 : Str) (i_1 : Int) : Prop :=
 (i_1 < (t_Links.length : Int) → ((s_1.length : Int) + ((([32] : Str)).length : Int) ≤ 9223372036854775807) ∧ (((0 : Int) ≤ i_1 ∧ i_1 < (t_Links.length : Int)) ∧ (ref32_num_W ((gi t_Links i_1).1) (fun r_3 => (((s_1 ++ ([32] : Str)).length : Int) + (r_3.length : Int) ≤ 9223372036854775807) ∧ (((((s_1 ++ ([32] : Str)) ++ r_3).length : Int) + ((([62] : Str)).length : Int) ≤ 9223372036854775807) ∧ (ref32_num_W ((gi t_Links i_1).2) (fun r_4 => (((((s_1 ++ ([32] : Str)) ++ r_3) ++ ([62] : Str)).length : Int) + (r_4.length : Int) ≤ 9223372036854775807) ∧ ((I64 (i_1 + 1)) ∧ (K_1 ((((s_1 ++ ([32] : Str)) ++ r_3) ++ ([62] : Str)) ++ r_4) (i_1 + 1)))))))))) ∧ (¬ (i_1 < (t_Links.length : Int)) → Q s_1)
def ref32_Print_W (t_Root : Int) (t_Links : List T_api_Branch) (Q : Str → Prop) : Prop :=
 ref32_num_W t_Root (fun r_2 => loopW (fun (K_1 : (Str × Int) → Prop) (s : Str × Int) => ref32_Print_l1 t_Links Q (fun s_1 i_1 => K_1 (s_1, i_1)) s.1 s.2) (r_2, 0))
set_option maxHeartbeats 40000000 in
set_option maxRecDepth 100000 in
theorem ref32_Print_walk {F : Fz} {fr : List Ow} {h0 : Heap} (t_Root : Int) (t_Links : List T_api_Branch) (vt_Links : Value) (hS : St F (fr) h0) (hL_t_Links : SliceF F h0 2 e_api_Branch vt_Links t_Links) {Q : Str → Prop} (hM : ref32_Print_W t_Root t_Links Q) :
  HC Tryz.prog 13 #[.agg #[.int .i64 t_Root, vt_Links]] h0 fun u h' => ∃ (F' : Fz) (r_1 : Str), u = .string (bs r_1) ∧ Kp F h0 F' h' ∧ St F' (fr) h' ∧ (SliceF F' h' 2 e_api_Branch vt_Links t_Links) ∧ Q r_1 := by
 unfold ref32_Print_W at hM
 have hK := Kp.refl F h0
 refine HC.of_HW (n := 35) Tryz.func13 rfl rfl (Nat.le_of_ble_eq_true rfl) ?_
 refine HW.seq ?_
 refine HW.region ?_
 refine HO.eff (want_none) rfl (st_box (c := #[.int .i64 t_Root, vt_Links]) (k' := 2) hS rfl rfl) ?_
 rintro _ h_1 ⟨b_1, rfl, hS, hk⟩
 replace hK := hK.trans hk
 replace hL_t_Links := hL_t_Links.kp hk
 refine oA (.string (bs [])) rfl rfl ?_
 refine HO.nil (thenQ_normal (?_))
 refine HW.seq ?_
 refine HW.region ?_
 refine oV (.pointer (some ⟨b_1, 0, none⟩)) (q_fieldAddr fa_24_0 rfl rfl) rfl ?_
 refine oV (.int .i64 t_Root) (q_load to_3 rfl (Blk.cell (hS.box 0 rfl) rfl)) rfl ?_
 refine HO.call (want_none) rfl (ec en_48 rfl rfl) (ref32_num_walk (fr := (Ow.box b_1 24 #[.int .i64 t_Root, vt_Links] :: fr)) t_Root hS hM) ?_
 rintro _ h_2 ⟨F_1, r_2, rfl, hk, hS, hM⟩
 replace hK := hK.trans hk
 replace hL_t_Links := hL_t_Links.kp hk
 refine oA (.string (bs r_2)) rfl rfl ?_
 refine HO.nil (thenQ_normal (?_))
 refine HW.seq ?_
 refine HW.seq ?_
 refine HW.region ?_
 refine oA (.int .i64 0) rfl rfl ?_
 refine HO.nil (thenQ_normal (?_))
 refine HW.block ?_
 obtain ⟨I_1, m_1, hI_1, hR_1⟩ := hM
 refine HW.loop (S := Str × Int) (fun s f h => match s with | (s_1, i_1) => ∃ (F' : Fz), f 1 = .pointer (some ⟨b_1, 0, none⟩) ∧ f 2 = .string (bs []) ∧ f 3 = .string (bs s_1) ∧ f 4 = .int .i64 i_1 ∧ Kp F h0 F' h ∧ St F' (Ow.box b_1 24 #[.int .i64 t_Root, vt_Links] :: fr) h ∧ (SliceF F' h 2 e_api_Branch vt_Links t_Links) ∧ I_1 (s_1, i_1)) m_1 (r_2, 0) ⟨F_1, rfl, rfl, rfl, rfl, hK, hS, hL_t_Links, hI_1⟩ ?_
 rintro ⟨s_1, i_1⟩ f_1 h_3 ⟨F_2, e1, e2, e3, e4, hK, hS, hL_t_Links, hI0⟩
 obtain ⟨K_1, hKe_1⟩ : ∃ K : Str → Int → Prop, K = fun s_1' i_1' => I_1 (s_1', i_1') ∧ m_1 (s_1', i_1') < m_1 (s_1, i_1) := ⟨_, rfl⟩
 have hM : ref32_Print_l1 t_Links Q K_1 s_1 i_1 := by rw [hKe_1]; exact hR_1 (s_1, i_1) hI0
 unfold ref32_Print_l1 at hM
 refine HW.fr [(1, .pointer (some ⟨b_1, 0, none⟩)), (2, .string (bs [])), (3, .string (bs s_1)), (4, .int .i64 i_1)] ⟨e1, e2, e3, e4, trivial⟩ ?_
 refine HW.seq ?_
 refine HW.seq ?_
 refine HW.region ?_
 refine oM (.int .i64 i_1) rfl rfl ?_
 refine oV (.pointer (some ⟨b_1, 1, none⟩)) (q_fieldAddr fa_24_1 rfl rfl) rfl ?_
 refine oV (vt_Links) (q_load to_22 rfl (Blk.cell (hS.box 0 rfl) rfl)) rfl ?_
 refine oV (.int .i64 (t_Links.length : Int)) (q_len ts_22 (shp hL_t_Links.is) rfl rfl) rfl ?_
 refine oV (.bool (decide (i_1 < (t_Links.length : Int)))) (q_lss rfl rfl) rfl ?_
 refine HO.nil (thenQ_normal (?_))
 refine HW.cond (decide (i_1 < (t_Links.length : Int))) rfl (fun c_1 => ?_) (fun c_1 => ?_)
 ·
  replace hM := hM.1 (of_decide_eq_true c_1)
  refine HW.skip (thenQ_normal (?_))
  refine HW.seq ?_
  refine HW.block ?_
  refine HW.regionA 20 mixed (fun h => (SliceIs h 2 e_api_Branch vt_Links t_Links) ∧ (Blk h b_1 (.cells #[.int .i64 t_Root, vt_Links] 24 (0, 0)))) [] (by kernel_rfl) ?_
  refine HA.val (k := 0) (v := .string (bs s_1)) rfl rfl (by kernel_rfl) (by kernel_rfl) (want_none) rfl (fun _ ⟨hL_t_Links, c302⟩ => q_move rfl) ?_
  obtain ⟨ho_1, hM⟩ := hM
  refine HA.val (k := 1) (v := .string (bs (s_1 ++ ([32] : Str)))) rfl rfl (by kernel_rfl) (by kernel_rfl) (want_none) rfl (fun _ ⟨hL_t_Links, c302⟩ => q_addT rfl rfl ho_1) ?_
  refine HA.val (k := 2) (v := .pointer (some ⟨b_1, 1, none⟩)) rfl rfl (by kernel_rfl) (by kernel_rfl) (want_none) rfl (fun _ ⟨hL_t_Links, c302⟩ => q_fieldAddr fa_24_1 rfl rfl) ?_
  refine HA.val (k := 3) (v := vt_Links) rfl rfl (by kernel_rfl) (by kernel_rfl) (want_none) rfl (fun _ ⟨hL_t_Links, c302⟩ => q_load to_22 rfl (Blk.cell c302 rfl)) ?_
  refine HA.val (k := 4) (v := .int .i64 i_1) rfl rfl (by kernel_rfl) (by kernel_rfl) (want_none) rfl (fun _ ⟨hL_t_Links, c302⟩ => q_move rfl) ?_
  obtain ⟨ho_2, hM⟩ := hM
  refine HA.val (k := 5) (v := elemPtr 2 vt_Links (i_1).toNat) rfl rfl (by kernel_rfl) (by kernel_rfl) (want_none) rfl (fun _ ⟨hL_t_Links, c302⟩ => q_idx ts_22 hL_t_Links rfl rfl ho_2) ?_
  refine HA.val (k := 6) (v := fieldPtr 2 vt_Links (i_1).toNat 0) rfl rfl (by kernel_rfl) (by kernel_rfl) (want_none) rfl (fun _ ⟨hL_t_Links, c302⟩ => q_fldElem fa_46_0 hL_t_Links rfl ho_2) ?_
  refine HA.val (k := 7) (v := .int .i64 ((gi t_Links i_1).1)) rfl rfl (by kernel_rfl) (by kernel_rfl) (want_none) rfl (fun _ ⟨hL_t_Links, c302⟩ => q_ldField to_3 hL_t_Links rfl ho_2 (by decide) rfl) ?_
  refine HA.val (k := 11) (v := .pointer (some ⟨b_1, 1, none⟩)) rfl rfl (by kernel_rfl) (by kernel_rfl) (want_none) rfl (fun _ ⟨hL_t_Links, c302⟩ => q_fieldAddr fa_24_1 rfl rfl) ?_
  refine HA.val (k := 12) (v := vt_Links) rfl rfl (by kernel_rfl) (by kernel_rfl) (want_none) rfl (fun _ ⟨hL_t_Links, c302⟩ => q_load to_22 rfl (Blk.cell c302 rfl)) ?_
  refine HA.val (k := 13) (v := .int .i64 i_1) rfl rfl (by kernel_rfl) (by kernel_rfl) (want_none) rfl (fun _ ⟨hL_t_Links, c302⟩ => q_move rfl) ?_
  refine HA.val (k := 14) (v := elemPtr 2 vt_Links (i_1).toNat) rfl rfl (by kernel_rfl) (by kernel_rfl) (want_none) rfl (fun _ ⟨hL_t_Links, c302⟩ => q_idx ts_22 hL_t_Links rfl rfl ho_2) ?_
  refine HA.val (k := 15) (v := fieldPtr 2 vt_Links (i_1).toNat 1) rfl rfl (by kernel_rfl) (by kernel_rfl) (want_none) rfl (fun _ ⟨hL_t_Links, c302⟩ => q_fldElem fa_46_1 hL_t_Links rfl ho_2) ?_
  refine HA.val (k := 16) (v := .int .i64 ((gi t_Links i_1).2)) rfl rfl (by kernel_rfl) (by kernel_rfl) (want_none) rfl (fun _ ⟨hL_t_Links, c302⟩ => q_ldField to_3 hL_t_Links rfl ho_2 (by decide) rfl) ?_
  refine HA.one (k := 8) ⟨⟨hL_t_Links.is, (hS.box 0 rfl)⟩, (Go.Wk.at_nil _ _)⟩ (by kernel_rfl) ?_
  refine HS.call rfl (want_none) rfl (ec en_48 rfl rfl) (ref32_num_walk (fr := (Ow.box b_1 24 #[.int .i64 t_Root, vt_Links] :: fr)) ((gi t_Links i_1).1) hS hM) ?_
  rintro _ h_4 ⟨F_3, r_3, rfl, hk, hS, hM⟩
  replace hK := hK.trans hk
  replace hL_t_Links := hL_t_Links.kp hk
  obtain ⟨ho_3, hM⟩ := hM
  refine HA.val (k := 9) (v := .string (bs ((s_1 ++ ([32] : Str)) ++ r_3))) rfl rfl (by kernel_rfl) (by kernel_rfl) (want_none) rfl (fun _ ⟨hL_t_Links, c302⟩ => q_addT rfl rfl ho_3) ?_
  obtain ⟨ho_4, hM⟩ := hM
  refine HA.val (k := 10) (v := .string (bs (((s_1 ++ ([32] : Str)) ++ r_3) ++ ([62] : Str)))) rfl rfl (by kernel_rfl) (by kernel_rfl) (want_none) rfl (fun _ ⟨hL_t_Links, c302⟩ => q_addT rfl rfl ho_4) ?_
  refine HA.one (k := 17) ⟨⟨hL_t_Links.is, (hS.box 0 rfl)⟩, (Go.Wk.at_nil _ _)⟩ (by kernel_rfl) ?_
  refine HS.call rfl (want_none) rfl (ec en_48 rfl rfl) (ref32_num_walk (fr := (Ow.box b_1 24 #[.int .i64 t_Root, vt_Links] :: fr)) ((gi t_Links i_1).2) hS hM) ?_
  rintro _ h_5 ⟨F_4, r_4, rfl, hk, hS, hM⟩
  replace hK := hK.trans hk
  replace hL_t_Links := hL_t_Links.kp hk
  obtain ⟨ho_5, hM⟩ := hM
  refine HA.val (k := 18) (v := .string (bs ((((s_1 ++ ([32] : Str)) ++ r_3) ++ ([62] : Str)) ++ r_4))) rfl rfl (by kernel_rfl) (by kernel_rfl) (want_none) rfl (fun _ ⟨hL_t_Links, c302⟩ => q_addT rfl rfl ho_5) ?_
  refine HA.val (k := 19) (v := .string (bs ((((s_1 ++ ([32] : Str)) ++ r_3) ++ ([62] : Str)) ++ r_4))) rfl rfl (by kernel_rfl) (by kernel_rfl) (want_none) rfl (fun _ ⟨hL_t_Links, c302⟩ => q_assign rfl) ?_
  refine HA.nil ⟨⟨hL_t_Links.is, (hS.box 0 rfl)⟩, (Go.Wk.at_nil _ _)⟩ (by kernel_rfl) (blockQ_normal (thenQ_normal (?_)))
  refine HW.region ?_
  refine oM (.int .i64 i_1) rfl rfl ?_
  obtain ⟨ho_6, hM⟩ := hM
  refine oV (.int .i64 (i_1 + 1)) (q_addN _ rfl rfl rfl ho_6.1 ho_6.2) rfl ?_
  refine oA (.int .i64 (i_1 + 1)) rfl rfl ?_
  refine HO.nil (thenQ_normal (?_))
  rw [hKe_1] at hM
  exact ⟨((((s_1 ++ ([32] : Str)) ++ r_3) ++ ([62] : Str)) ++ r_4, i_1 + 1), ⟨F_4, rfl, rfl, rfl, rfl, hK, hS, hL_t_Links, hM.1⟩, hM.2⟩
 ·
  replace hM := hM.2 (of_decide_eq_false c_1)
  refine HW.exit (thenQ_exit (thenQ_exit (blockQ_exit (thenQ_normal (?_)))))
  refine HW.seq ?_
  refine HW.region ?_
  refine oM (.string (bs s_1)) rfl rfl ?_
  refine oA (.string (bs s_1)) rfl rfl ?_
  refine HO.nil (thenQ_normal (?_))
  refine HW.ret (?_)
  refine ⟨.inr rfl, .string (bs s_1), res1 rfl (rt rfl), ?_⟩
  replace hS : St F_2 (fr) h_3 := hS.perm2 [] 1 rfl rfl
  exact ⟨F_2, s_1, rfl, hK, hS, hL_t_Links, hM⟩

def tree_Print_W (t_Root : Int) (t_Links : List T_api_Branch) (Q : Str → Prop) : Prop :=
 tree_text_W t_Root t_Links (fun r_2 => Q r_2)
set_option maxHeartbeats 40000000 in
set_option maxRecDepth 100000 in
theorem tree_Print_walk {F : Fz} {fr : List Ow} {h0 : Heap} (t_Root : Int) (t_Links : List T_api_Branch) (vt_Links : Value) (hS : St F (fr) h0) (hL_t_Links : SliceF F h0 2 e_api_Branch vt_Links t_Links) (hG_5 : RoF (Ow.box 5 163 (tab10 ()).toArray) F h0) (hD : DM.on = false) {Q : Str → Prop} (hM : tree_Print_W t_Root t_Links Q) :
  HC Tryz.prog 15 #[.agg #[.int .i64 t_Root, vt_Links]] h0 fun u h' => ∃ (F' : Fz) (r_1 : Str), u = .string (bs r_1) ∧ Kp F h0 F' h' ∧ St F' (fr) h' ∧ (SliceF F' h' 2 e_api_Branch vt_Links t_Links) ∧ (RoF (Ow.box 5 163 (tab10 ()).toArray) F' h') ∧ Q r_1 := by
 unfold tree_Print_W at hM
 have hK := Kp.refl F h0
 refine HC.of_HW (n := 5) Tryz.func15 rfl rfl (Nat.le_of_ble_eq_true rfl) ?_
 refine HW.seq ?_
 refine HW.region ?_
 refine HO.eff (want_none) rfl (st_box (c := #[.int .i64 t_Root, vt_Links]) (k' := 2) hS rfl rfl) ?_
 rintro _ h_1 ⟨b_1, rfl, hS, hk⟩
 replace hK := hK.trans hk
 replace hL_t_Links := hL_t_Links.kp hk
 replace hG_5 := hG_5.kp hk
 refine oA (.string (bs [])) rfl rfl ?_
 refine HO.nil (thenQ_normal (?_))
 refine HW.seq ?_
 refine HW.region ?_
 refine oV (.agg #[.int .i64 t_Root, vt_Links]) (q_loadAgg (cs := [.int .i64 t_Root, vt_Links]) ta_24 rfl rfl (Blk.cells (k := 2) (hS.box 0 rfl) rfl)) rfl ?_
 refine HO.call (want_none) rfl (ec en_46 rfl rfl) (tree_text_walk (fr := (Ow.box b_1 24 #[.int .i64 t_Root, vt_Links] :: fr)) t_Root t_Links vt_Links hS hL_t_Links hG_5 hD hM) ?_
 rintro _ h_2 ⟨F_1, r_2, rfl, hk, hS, _, _, hM⟩
 replace hK := hK.trans hk
 replace hL_t_Links := hL_t_Links.kp hk
 replace hG_5 := hG_5.kp hk
 refine oA (.string (bs r_2)) rfl rfl ?_
 refine HO.nil (thenQ_normal (?_))
 refine HW.ret (?_)
 refine ⟨.inr rfl, .string (bs r_2), res1 rfl (rt rfl), ?_⟩
 replace hS : St F_1 (fr) h_2 := hS.perm2 [] 1 rfl rfl
 exact ⟨F_1, r_2, rfl, hK, hS, hL_t_Links, hG_5, hM⟩

def law32_TreeTexts_j1 (Q : Bool → Prop) (r_0_1 : Int) (r_1_1 : List T_api_Branch) : Prop :=
 ref32_Good_W r_0_1 r_1_1 (fun r_6 => ((!r_6) = true → law32_lives_W  (fun r_7 => Q r_7)) ∧ ((!r_6) = false → ref32_Print_W r_0_1 r_1_1 (fun r_8 => tree_Parse_W r_8 (fun r0_0_2 r0_1_2 r1_2 => law32_Few_W r_0_1 r_1_1 (fun r_0_2 r_1_2 => tree_Print_W r_0_2 r_1_2 (fun r_9 => ref32_Print_W r_0_1 r_1_1 (fun r_10 => ((r_9 : Str) = r_10 → ref32_Same_W r0_0_2 r0_1_2 r_0_1 r_1_1 (fun r_11 => (r_11 = true → (r1_2 = 0 → law32_lives_W  (fun r_12 => Q r_12)) ∧ (¬ (r1_2 = 0) → Q false)) ∧ (r_11 = false → Q false))) ∧ (¬ ((r_9 : Str) = r_10) → Q false))))))))
def law32_TreeTexts_W (t_Root : Int) (t_Links : List T_api_Branch) (s1 : Str) (Q : Bool → Prop) : Prop :=
 law32_Few_W t_Root t_Links (fun r_0_1 r_1_1 => law01_Cut_W s1 60 (fun r_2 => tree_Parse_W r_2 (fun r0_0_1 r0_1_1 r1_1 => (¬ (r1_1 = 0) → (¬ (r1_1 = 2) → Q false) ∧ (r1_1 = 2 → ref32_Same_W r0_0_1 r0_1_1 0 [] (fun r_3 => ((!r_3) = true → Q false) ∧ ((!r_3) = false → law32_TreeTexts_j1 Q r_0_1 r_1_1)))) ∧ (r1_1 = 0 → ref32_Good_W r0_0_1 r0_1_1 (fun r_4 => ((!r_4) = true → Q false) ∧ ((!r_4) = false → ref32_Print_W r0_0_1 r0_1_1 (fun r_5 => (¬ ((r_5 : Str) = r_2) → Q false) ∧ ((r_5 : Str) = r_2 → law32_TreeTexts_j1 Q r_0_1 r_1_1))))))))
set_option maxHeartbeats 40000000 in
set_option maxRecDepth 100000 in
theorem law32_TreeTexts_walk {F : Fz} {fr : List Ow} {h0 : Heap} (t_Root : Int) (t_Links : List T_api_Branch) (s1 : Str) (vt_Links : Value) (gvS : Value) (gbS : Bool) (gvR : Value) (gbR : Bool) (gm : Int) (hS : St F (fr) h0) (hL_t_Links : SliceF F h0 2 e_api_Branch vt_Links t_Links) (hG_0 : RoF (Ow.box 0 53 #[gvS]) F h0) (hE_gvS : ErrF gbS gvS F h0) (hG_1 : RoF (Ow.box 1 53 #[gvR]) F h0) (hE_gvR : ErrF gbR gvR F h0) (hG_2 : RoF (Ow.box 2 3 #[.int .i64 gm]) F h0) (hG_5 : RoF (Ow.box 5 163 (tab10 ()).toArray) F h0) (hD : DM.on = false) {Q : Bool → Prop} (hM : law32_TreeTexts_W t_Root t_Links s1 Q) :
  HC Tryz.prog 3 #[.agg #[.int .i64 t_Root, vt_Links], .string (bs s1)] h0 fun u h' => ∃ (F' : Fz) (r_1 : Bool), u = .bool r_1 ∧ Kp F h0 F' h' ∧ St F' (fr) h' ∧ (SliceF F' h' 2 e_api_Branch vt_Links t_Links) ∧ (RoF (Ow.box 0 53 #[gvS]) F' h') ∧ (ErrF gbS gvS F' h') ∧ (RoF (Ow.box 1 53 #[gvR]) F' h') ∧ (ErrF gbR gvR F' h') ∧ (RoF (Ow.box 2 3 #[.int .i64 gm]) F' h') ∧ (RoF (Ow.box 5 163 (tab10 ()).toArray) F' h') ∧ Q r_1 := by
 unfold law32_TreeTexts_W at hM
 have hK := Kp.refl F h0
 refine HC.of_HW (n := 73) Tryz.func3 rfl rfl (Nat.le_of_ble_eq_true rfl) ?_
 refine HW.seq ?_
 refine HW.region ?_
 refine HO.eff (want_none) rfl (st_box (c := #[.int .i64 t_Root, vt_Links]) (k' := 2) hS rfl rfl) ?_
 rintro _ h_1 ⟨b_1, rfl, hS, hk⟩
 replace hK := hK.trans hk
 replace hL_t_Links := hL_t_Links.kp hk
 replace hG_0 := hG_0.kp hk
 replace hE_gvS := hE_gvS.kp hk
 replace hG_1 := hG_1.kp hk
 replace hE_gvR := hE_gvR.kp hk
 replace hG_2 := hG_2.kp hk
 replace hG_5 := hG_5.kp hk
 refine oA (.bool false) rfl rfl ?_
 refine HO.nil (thenQ_normal (?_))
 refine HW.seq ?_
 refine HW.region ?_
 refine oV (.agg #[.int .i64 t_Root, vt_Links]) (q_loadAgg (cs := [.int .i64 t_Root, vt_Links]) ta_24 rfl rfl (Blk.cells (k := 2) (hS.box 0 rfl) rfl)) rfl ?_
 refine HO.call (want_none) rfl (ec en_8 rfl rfl) (law32_Few_walk (fr := (Ow.box b_1 24 #[.int .i64 t_Root, vt_Links] :: fr)) t_Root t_Links vt_Links hS hL_t_Links hM) ?_
 rintro _ h_2 ⟨F_1, r_0_1, r_1_1, vr_1_1, rfl, hk, hS, _, hM⟩
 replace hK := hK.trans hk
 replace hL_t_Links := hL_t_Links.kp hk
 replace hG_0 := hG_0.kp hk
 replace hE_gvS := hE_gvS.kp hk
 replace hG_1 := hG_1.kp hk
 replace hE_gvR := hE_gvR.kp hk
 replace hG_2 := hG_2.kp hk
 replace hG_5 := hG_5.kp hk
 refine oM (.string (bs s1)) rfl rfl ?_
 refine HO.call (want_none) rfl (ec en_9 rfl rfl) (law01_Cut_walk (fr := (Ow.own 46 2 e_api_Branch vr_1_1 r_1_1 :: Ow.box b_1 24 #[.int .i64 t_Root, vt_Links] :: fr)) s1 60 hS hM) ?_
 rintro _ h_3 ⟨F_2, r_2, rfl, hk, hS, hM⟩
 replace hK := hK.trans hk
 replace hL_t_Links := hL_t_Links.kp hk
 replace hG_0 := hG_0.kp hk
 replace hE_gvS := hE_gvS.kp hk
 replace hG_1 := hG_1.kp hk
 replace hE_gvR := hE_gvR.kp hk
 replace hG_2 := hG_2.kp hk
 replace hG_5 := hG_5.kp hk
 refine HO.sto (want_none) rfl (st_storeAgg (c' := #[.int .i64 r_0_1, vr_1_1]) hS (i := 1) rfl ta_24 rfl rfl rfl (List.forall_mem_cons.2 ⟨rfl, (List.forall_mem_cons.2 ⟨(shp (hS.own 0 rfl).slice).one, (fun _ h => by cases h)⟩)⟩) (Nat.le_of_ble_eq_true rfl) rfl) ?_
 rintro h_4 ⟨hS, hk⟩
 replace hS : St F_2 (Ow.own 46 2 e_api_Branch vr_1_1 r_1_1 :: Ow.box b_1 24 #[.int .i64 r_0_1, vr_1_1] :: fr) h_4 := hS
 replace hK := hK.trans hk
 replace hL_t_Links := hL_t_Links.kp hk
 replace hG_0 := hG_0.kp hk
 replace hE_gvS := hE_gvS.kp hk
 replace hG_1 := hG_1.kp hk
 replace hE_gvR := hE_gvR.kp hk
 replace hG_2 := hG_2.kp hk
 replace hG_5 := hG_5.kp hk
 refine oA (.string (bs r_2)) rfl rfl ?_
 refine HO.nil (thenQ_normal (?_))
 refine HW.seq ?_
 refine HW.region ?_
 refine oM (.string (bs r_2)) rfl rfl ?_
 refine HO.call (want_none) rfl (ec en_10 rfl rfl) (tree_Parse_walk (fr := (Ow.own 46 2 e_api_Branch vr_1_1 r_1_1 :: Ow.box b_1 24 #[.int .i64 r_0_1, vr_1_1] :: fr)) r_2 gvS gbS gvR gbR gm hS hG_0 hE_gvS hG_1 hE_gvR hG_2 hG_5 hD hM) ?_
 rintro _ h_5 ⟨F_3, r0_0_1, r0_1_1, r1_1, vr0_1_1, rfl, hk, hS, _, _, _, _, _, _, hM⟩
 replace hK := hK.trans hk
 replace hL_t_Links := hL_t_Links.kp hk
 replace hG_0 := hG_0.kp hk
 replace hE_gvS := hE_gvS.kp hk
 replace hG_1 := hG_1.kp hk
 replace hE_gvR := hE_gvR.kp hk
 replace hG_2 := hG_2.kp hk
 replace hG_5 := hG_5.kp hk
 refine oM (.tuple #[.agg #[.int .i64 r0_0_1, vr0_1_1], .int .i64 r1_1]) rfl rfl ?_
 refine oV (.agg #[.int .i64 r0_0_1, vr0_1_1]) (q_extract rfl rfl) rfl ?_
 refine oV (.int .i64 r1_1) (q_extract rfl rfl) rfl ?_
 refine HO.eff (want_none) rfl (st_alloc (c := #[.int .i64 0, .slice none 0 0]) hS tz_24 rfl) ?_
 rintro _ h_6 ⟨b_2, rfl, hS, hk⟩
 replace hK := hK.trans hk
 replace hL_t_Links := hL_t_Links.kp hk
 replace hG_0 := hG_0.kp hk
 replace hE_gvS := hE_gvS.kp hk
 replace hG_1 := hG_1.kp hk
 replace hE_gvR := hE_gvR.kp hk
 replace hG_2 := hG_2.kp hk
 replace hG_5 := hG_5.kp hk
 refine HO.sto (want_none) rfl (st_storeAgg (c' := #[.int .i64 r0_0_1, vr0_1_1]) hS (i := 0) rfl ta_24 rfl rfl rfl (List.forall_mem_cons.2 ⟨rfl, (List.forall_mem_cons.2 ⟨(shp (hS.own 1 rfl).slice).one, (fun _ h => by cases h)⟩)⟩) (Nat.le_of_ble_eq_true rfl) rfl) ?_
 rintro h_7 ⟨hS, hk⟩
 replace hS : St F_3 (Ow.box b_2 24 #[.int .i64 r0_0_1, vr0_1_1] :: Ow.own 46 2 e_api_Branch vr0_1_1 r0_1_1 :: Ow.own 46 2 e_api_Branch vr_1_1 r_1_1 :: Ow.box b_1 24 #[.int .i64 r_0_1, vr_1_1] :: fr) h_7 := hS
 replace hK := hK.trans hk
 replace hL_t_Links := hL_t_Links.kp hk
 replace hG_0 := hG_0.kp hk
 replace hE_gvS := hE_gvS.kp hk
 replace hG_1 := hG_1.kp hk
 replace hE_gvR := hE_gvR.kp hk
 replace hG_2 := hG_2.kp hk
 replace hG_5 := hG_5.kp hk
 refine oA (.int .i64 r1_1) rfl rfl ?_
 refine HO.nil (thenQ_normal (?_))
 refine HW.seq_mid (fun f h => ∃ (F' : Fz), f 2 = .pointer (some ⟨b_1, 0, none⟩) ∧ f 4 = .bool false ∧ Kp F h0 F' h ∧ St F' (Ow.box b_1 24 #[.int .i64 r_0_1, vr_1_1] :: Ow.own 46 2 e_api_Branch vr_1_1 r_1_1 :: fr) h ∧ (SliceF F' h 2 e_api_Branch vt_Links t_Links) ∧ (RoF (Ow.box 0 53 #[gvS]) F' h) ∧ (ErrF gbS gvS F' h) ∧ (RoF (Ow.box 1 53 #[gvR]) F' h) ∧ (ErrF gbR gvR F' h) ∧ (RoF (Ow.box 2 3 #[.int .i64 gm]) F' h) ∧ (RoF (Ow.box 5 163 (tab10 ()).toArray) F' h) ∧ law32_TreeTexts_j1 Q r_0_1 r_1_1) ?_ ?_
 ·
  refine HW.seq ?_
  refine HW.region ?_
  refine oM (.int .i64 r1_1) rfl rfl ?_
  refine oV (.bool (!decide (r1_1 = 0))) (q_neq rfl rfl) rfl ?_
  refine oM (.bool (!decide (r1_1 = 0))) rfl rfl ?_
  rcases Bool.eq_false_or_eq_true (!decide (r1_1 = 0)) with c_1 | c_1
  ·
   replace hM := hM.1 (nd_true c_1)
   refine HO.val (v := .int .i64 r1_1) (want_by rfl rfl c_1) rfl (q_move rfl) ?_
   refine HO.val (v := .bool (!decide (r1_1 = 2))) (want_by rfl rfl c_1) rfl (q_neq rfl rfl) ?_
   refine HO.val (v := .bool (!decide (r1_1 = 2))) (want_by rfl rfl c_1) rfl (q_move rfl) ?_
   rcases Bool.eq_false_or_eq_true (!decide (r1_1 = 2)) with c_2 | c_2
   ·
    replace hM := hM.1 (nd_true c_2)
    refine HO.past (past_by rfl rfl c_2) rfl ?_
    refine HO.past (past_by rfl rfl c_2) rfl ?_
    refine HO.past (past_by rfl rfl c_2) rfl ?_
    refine HO.past (past_by rfl rfl c_2) rfl ?_
    refine HO.val (v := .bool true) (want_by rfl rfl c_1) rfl (q_pickK true rfl c_2 rfl) ?_
    refine oV (.bool true) (q_pickK true rfl c_1 rfl) rfl ?_
    refine oM (.bool true) rfl rfl ?_
    refine HO.past (past_some rfl rfl) rfl ?_
    refine HO.past (past_some rfl rfl) rfl ?_
    refine HO.past (past_some rfl rfl) rfl ?_
    refine HO.past (past_undef rfl rfl) rfl ?_
    refine HO.past (past_undef rfl rfl) rfl ?_
    refine HO.past (past_undef rfl rfl) rfl ?_
    refine HO.past (past_undef rfl rfl) rfl ?_
    refine HO.past (past_undef rfl rfl) rfl ?_
    refine HO.past (past_undef rfl rfl) rfl ?_
    refine HO.past (past_undef rfl rfl) rfl ?_
    refine HO.past (past_undef rfl rfl) rfl ?_
    refine HO.past (past_undef rfl rfl) rfl ?_
    refine HO.past (past_some rfl rfl) rfl ?_
    refine oV (.bool true) (q_pick rfl rfl) rfl ?_
    refine HO.nil (thenQ_normal (?_))
    refine HW.condT rfl ?_
    refine HW.seq ?_
    refine HW.region ?_
    refine oA (.bool false) rfl rfl ?_
    refine HO.nil (thenQ_normal (?_))
    refine HW.ret (thenQ_ret (?_))
    refine ⟨.inr rfl, .bool false, res1 rfl (rt rfl), ?_⟩
    replace hS : St F_3 (fr) h_7 := hS.perm2 [] 4 rfl rfl
    exact ⟨F_3, false, rfl, hK, hS, hL_t_Links, hG_0, hE_gvS, hG_1, hE_gvR, hG_2, hG_5, hM⟩
   ·
    replace hM := hM.2 (nd_false c_2)
    refine HO.val (v := .agg #[.int .i64 r0_0_1, vr0_1_1]) (want_by rfl rfl c_2) rfl (q_loadAgg (cs := [.int .i64 r0_0_1, vr0_1_1]) ta_24 rfl rfl (Blk.cells (k := 2) (hS.box 0 rfl) rfl)) ?_
    refine HO.val (v := .agg #[.int .i64 0, .slice none 0 0]) (want_by rfl rfl c_2) rfl (q_build tp_24 rfl) ?_
    replace hS : St F_3 (Ow.own 46 2 e_api_Branch vr0_1_1 r0_1_1 :: Ow.box b_2 24 #[.int .i64 r0_0_1, vr0_1_1] :: Ow.own 46 2 e_api_Branch vr_1_1 r_1_1 :: Ow.box b_1 24 #[.int .i64 r_0_1, vr_1_1] :: fr) h_7 := hS.perm2 [1, 0, 2, 3] 4 rfl rfl
    have hZ_1 := hS
    have hkz_1 := (hS.freeze).2
    replace hS := hS.freeze.1
    have hL_1 : SliceF (fun bz_ => F_3 bz_ ∨ (Ow.own 46 2 e_api_Branch vr0_1_1 r0_1_1).foot bz_) h_7 2 e_api_Branch vr0_1_1 r0_1_1 := ⟨(hZ_1.own 0 rfl).slice, fun _ b hb => .inr hb⟩
    refine HO.call (want_by rfl rfl c_2) rfl (ec en_11 rfl rfl) (ref32_Same_walk (fr := (Ow.box b_2 24 #[.int .i64 r0_0_1, vr0_1_1] :: Ow.own 46 2 e_api_Branch vr_1_1 r_1_1 :: Ow.box b_1 24 #[.int .i64 r_0_1, vr_1_1] :: fr)) r0_0_1 r0_1_1 0 [] vr0_1_1 (.slice none 0 0) hS hL_1 (SliceF.nil _ _ _ _) hM) ?_
    rintro _ h_8 ⟨F_4, r_3, rfl, hk, hS, _, _, hM⟩
    obtain ⟨hS, hk⟩ := hZ_1.back hk hS
    generalize (fun bz_ => F_4 bz_ ∧ ¬ (Ow.own 46 2 e_api_Branch vr0_1_1 r0_1_1).foot bz_) = F_5 at hS hk
    replace hK := hK.trans hk
    replace hL_t_Links := hL_t_Links.kp hk
    replace hG_0 := hG_0.kp hk
    replace hE_gvS := hE_gvS.kp hk
    replace hG_1 := hG_1.kp hk
    replace hE_gvR := hE_gvR.kp hk
    replace hG_2 := hG_2.kp hk
    replace hG_5 := hG_5.kp hk
    refine HO.val (v := .bool (!r_3)) (want_by rfl rfl c_2) rfl (q_not rfl) ?_
    refine HO.val (v := .bool (!r_3)) (want_by rfl rfl c_1) rfl (q_pickK false rfl c_2 rfl) ?_
    refine oV (.bool (!r_3)) (q_pickK true rfl c_1 rfl) rfl ?_
    refine oM (.bool (!r_3)) rfl rfl ?_
    rcases Bool.eq_false_or_eq_true (!r_3) with c_3 | c_3
    ·
     replace hM := hM.1 c_3
     refine HO.past (past_by rfl rfl c_3) rfl ?_
     refine HO.past (past_by rfl rfl c_3) rfl ?_
     refine HO.past (past_by rfl rfl c_3) rfl ?_
     refine HO.past (past_undef rfl rfl) rfl ?_
     refine HO.past (past_undef rfl rfl) rfl ?_
     refine HO.past (past_undef rfl rfl) rfl ?_
     refine HO.past (past_undef rfl rfl) rfl ?_
     refine HO.past (past_undef rfl rfl) rfl ?_
     refine HO.past (past_undef rfl rfl) rfl ?_
     refine HO.past (past_undef rfl rfl) rfl ?_
     refine HO.past (past_undef rfl rfl) rfl ?_
     refine HO.past (past_undef rfl rfl) rfl ?_
     refine HO.past (past_by rfl rfl c_3) rfl ?_
     refine oV (.bool true) (q_pickK true rfl c_3 rfl) rfl ?_
     refine HO.nil (thenQ_normal (?_))
     refine HW.condT rfl ?_
     refine HW.seq ?_
     refine HW.region ?_
     refine oA (.bool false) rfl rfl ?_
     refine HO.nil (thenQ_normal (?_))
     refine HW.ret (thenQ_ret (?_))
     refine ⟨.inr rfl, .bool false, res1 rfl (rt rfl), ?_⟩
     replace hS : St F_5 (fr) h_8 := hS.perm2 [] 4 rfl rfl
     exact ⟨F_5, false, rfl, hK, hS, hL_t_Links, hG_0, hE_gvS, hG_1, hE_gvR, hG_2, hG_5, hM⟩
    ·
     replace hM := hM.2 c_3
     refine HO.val (v := .int .i64 r1_1) (want_by rfl rfl c_3) rfl (q_move rfl) ?_
     refine HO.val (v := .bool (decide (r1_1 = 0))) (want_by rfl rfl c_3) rfl (q_eql rfl rfl) ?_
     refine HO.val (v := .bool (decide (r1_1 = 0))) (want_by rfl rfl c_3) rfl (q_move rfl) ?_
     refine HO.past (past_by rfl rfl (nd_t c_1)) rfl ?_
     refine HO.past (past_by rfl rfl (nd_t c_1)) rfl ?_
     refine HO.past (past_by rfl rfl (nd_t c_1)) rfl ?_
     refine HO.past (past_by rfl rfl (nd_t c_1)) rfl ?_
     refine HO.past (past_undef rfl rfl) rfl ?_
     refine HO.past (past_undef rfl rfl) rfl ?_
     refine HO.past (past_undef rfl rfl) rfl ?_
     refine HO.past (past_undef rfl rfl) rfl ?_
     refine HO.past (past_by rfl rfl (nd_t c_1)) rfl ?_
     refine HO.val (v := .bool false) (want_by rfl rfl c_3) rfl (q_pickK false rfl (nd_t c_1) rfl) ?_
     refine oV (.bool false) (q_pickK false rfl c_3 rfl) rfl ?_
     refine HO.nil (thenQ_normal (?_))
     refine HW.condF rfl ?_
     refine HW.skip (thenQ_normal (?_))
     replace hS : St F_5 (Ow.box b_1 24 #[.int .i64 r_0_1, vr_1_1] :: Ow.own 46 2 e_api_Branch vr_1_1 r_1_1 :: fr) h_8 := hS.perm2 [3, 2] 4 rfl rfl
     exact ⟨F_5, rfl, rfl, hK, hS, hL_t_Links, hG_0, hE_gvS, hG_1, hE_gvR, hG_2, hG_5, hM⟩
  ·
   replace hM := hM.2 (nd_false c_1)
   refine HO.past (past_by rfl rfl c_1) rfl ?_
   refine HO.past (past_by rfl rfl c_1) rfl ?_
   refine HO.past (past_by rfl rfl c_1) rfl ?_
   refine HO.past (past_undef rfl rfl) rfl ?_
   refine HO.past (past_undef rfl rfl) rfl ?_
   refine HO.past (past_undef rfl rfl) rfl ?_
   refine HO.past (past_undef rfl rfl) rfl ?_
   refine HO.past (past_by rfl rfl c_1) rfl ?_
   refine oV (.bool false) (q_pickK false rfl c_1 rfl) rfl ?_
   refine oM (.bool false) rfl rfl ?_
   refine HO.val (v := .int .i64 r1_1) (want_some rfl rfl) rfl (q_move rfl) ?_
   refine HO.val (v := .bool (decide (r1_1 = 0))) (want_some rfl rfl) rfl (q_eql rfl rfl) ?_
   refine HO.val (v := .bool (decide (r1_1 = 0))) (want_some rfl rfl) rfl (q_move rfl) ?_
   refine HO.val (v := .agg #[.int .i64 r0_0_1, vr0_1_1]) (want_by rfl rfl (nd_f c_1)) rfl (q_loadAgg (cs := [.int .i64 r0_0_1, vr0_1_1]) ta_24 rfl rfl (Blk.cells (k := 2) (hS.box 0 rfl) rfl)) ?_
   replace hS : St F_3 (Ow.own 46 2 e_api_Branch vr0_1_1 r0_1_1 :: Ow.box b_2 24 #[.int .i64 r0_0_1, vr0_1_1] :: Ow.own 46 2 e_api_Branch vr_1_1 r_1_1 :: Ow.box b_1 24 #[.int .i64 r_0_1, vr_1_1] :: fr) h_7 := hS.perm2 [1, 0, 2, 3] 4 rfl rfl
   have hZ_2 := hS
   have hkz_2 := (hS.freeze).2
   replace hS := hS.freeze.1
   have hL_2 : SliceF (fun bz_ => F_3 bz_ ∨ (Ow.own 46 2 e_api_Branch vr0_1_1 r0_1_1).foot bz_) h_7 2 e_api_Branch vr0_1_1 r0_1_1 := ⟨(hZ_2.own 0 rfl).slice, fun _ b hb => .inr hb⟩
   refine HO.call (want_by rfl rfl (nd_f c_1)) rfl (ec en_12 rfl rfl) (ref32_Good_walk (fr := (Ow.box b_2 24 #[.int .i64 r0_0_1, vr0_1_1] :: Ow.own 46 2 e_api_Branch vr_1_1 r_1_1 :: Ow.box b_1 24 #[.int .i64 r_0_1, vr_1_1] :: fr)) r0_0_1 r0_1_1 vr0_1_1 hS hL_2 hM) ?_
   rintro _ h_9 ⟨F_6, r_4, rfl, hk, hS, _, hM⟩
   obtain ⟨hS, hk⟩ := hZ_2.back hk hS
   generalize (fun bz_ => F_6 bz_ ∧ ¬ (Ow.own 46 2 e_api_Branch vr0_1_1 r0_1_1).foot bz_) = F_7 at hS hk
   replace hK := hK.trans hk
   replace hL_t_Links := hL_t_Links.kp hk
   replace hG_0 := hG_0.kp hk
   replace hE_gvS := hE_gvS.kp hk
   replace hG_1 := hG_1.kp hk
   replace hE_gvR := hE_gvR.kp hk
   replace hG_2 := hG_2.kp hk
   replace hG_5 := hG_5.kp hk
   refine HO.val (v := .bool (!r_4)) (want_by rfl rfl (nd_f c_1)) rfl (q_not rfl) ?_
   refine HO.val (v := .bool (!r_4)) (want_by rfl rfl (nd_f c_1)) rfl (q_move rfl) ?_
   rcases Bool.eq_false_or_eq_true (!r_4) with c_4 | c_4
   ·
    replace hM := hM.1 c_4
    refine HO.past (past_by rfl rfl c_4) rfl ?_
    refine HO.past (past_by rfl rfl c_4) rfl ?_
    refine HO.past (past_by rfl rfl c_4) rfl ?_
    refine HO.past (past_by rfl rfl c_4) rfl ?_
    refine HO.val (v := .bool true) (want_by rfl rfl (nd_f c_1)) rfl (q_pickK true rfl c_4 rfl) ?_
    refine HO.val (v := .bool true) (want_some rfl rfl) rfl (q_pickK true rfl (nd_f c_1) rfl) ?_
    refine oV (.bool true) (q_pick rfl rfl) rfl ?_
    refine HO.nil (thenQ_normal (?_))
    refine HW.condT rfl ?_
    refine HW.seq ?_
    refine HW.region ?_
    refine oA (.bool false) rfl rfl ?_
    refine HO.nil (thenQ_normal (?_))
    refine HW.ret (thenQ_ret (?_))
    refine ⟨.inr rfl, .bool false, res1 rfl (rt rfl), ?_⟩
    replace hS : St F_7 (fr) h_9 := hS.perm2 [] 4 rfl rfl
    exact ⟨F_7, false, rfl, hK, hS, hL_t_Links, hG_0, hE_gvS, hG_1, hE_gvR, hG_2, hG_5, hM⟩
   ·
    replace hM := hM.2 c_4
    refine HO.val (v := .agg #[.int .i64 r0_0_1, vr0_1_1]) (want_by rfl rfl c_4) rfl (q_loadAgg (cs := [.int .i64 r0_0_1, vr0_1_1]) ta_24 rfl rfl (Blk.cells (k := 2) (hS.box 1 rfl) rfl)) ?_
    have hZ_3 := hS
    have hkz_3 := (hS.freeze).2
    replace hS := hS.freeze.1
    have hL_3 : SliceF (fun bz_ => F_7 bz_ ∨ (Ow.own 46 2 e_api_Branch vr0_1_1 r0_1_1).foot bz_) h_9 2 e_api_Branch vr0_1_1 r0_1_1 := ⟨(hZ_3.own 0 rfl).slice, fun _ b hb => .inr hb⟩
    refine HO.call (want_by rfl rfl c_4) rfl (ec en_13 rfl rfl) (ref32_Print_walk (fr := (Ow.box b_2 24 #[.int .i64 r0_0_1, vr0_1_1] :: Ow.own 46 2 e_api_Branch vr_1_1 r_1_1 :: Ow.box b_1 24 #[.int .i64 r_0_1, vr_1_1] :: fr)) r0_0_1 r0_1_1 vr0_1_1 hS hL_3 hM) ?_
    rintro _ h_10 ⟨F_8, r_5, rfl, hk, hS, _, hM⟩
    obtain ⟨hS, hk⟩ := hZ_3.back hk hS
    generalize (fun bz_ => F_8 bz_ ∧ ¬ (Ow.own 46 2 e_api_Branch vr0_1_1 r0_1_1).foot bz_) = F_9 at hS hk
    replace hK := hK.trans hk
    replace hL_t_Links := hL_t_Links.kp hk
    replace hG_0 := hG_0.kp hk
    replace hE_gvS := hE_gvS.kp hk
    replace hG_1 := hG_1.kp hk
    replace hE_gvR := hE_gvR.kp hk
    replace hG_2 := hG_2.kp hk
    replace hG_5 := hG_5.kp hk
    refine HO.val (v := .string (bs r_2)) (want_by rfl rfl c_4) rfl (q_move rfl) ?_
    refine HO.val (v := .bool (!decide ((r_5 : Str) = r_2))) (want_by rfl rfl c_4) rfl (q_neqT rfl rfl) ?_
    refine HO.val (v := .bool (!decide ((r_5 : Str) = r_2))) (want_by rfl rfl (nd_f c_1)) rfl (q_pickK false rfl c_4 rfl) ?_
    refine HO.val (v := .bool (!decide ((r_5 : Str) = r_2))) (want_some rfl rfl) rfl (q_pickK true rfl (nd_f c_1) rfl) ?_
    refine oV (.bool (!decide ((r_5 : Str) = r_2))) (q_pick rfl rfl) rfl ?_
    refine HO.nil (thenQ_normal (?_))
    refine HW.cond (!decide ((r_5 : Str) = r_2)) rfl (fun c_5 => ?_) (fun c_5 => ?_)
    ·
     replace hM := hM.1 (nd_true c_5)
     refine HW.seq ?_
     refine HW.region ?_
     refine oA (.bool false) rfl rfl ?_
     refine HO.nil (thenQ_normal (?_))
     refine HW.ret (thenQ_ret (?_))
     refine ⟨.inr rfl, .bool false, res1 rfl (rt rfl), ?_⟩
     replace hS : St F_9 (fr) h_10 := hS.perm2 [] 4 rfl rfl
     exact ⟨F_9, false, rfl, hK, hS, hL_t_Links, hG_0, hE_gvS, hG_1, hE_gvR, hG_2, hG_5, hM⟩
    ·
     replace hM := hM.2 (nd_false c_5)
     refine HW.skip (thenQ_normal (?_))
     replace hS : St F_9 (Ow.box b_1 24 #[.int .i64 r_0_1, vr_1_1] :: Ow.own 46 2 e_api_Branch vr_1_1 r_1_1 :: fr) h_10 := hS.perm2 [3, 2] 4 rfl rfl
     exact ⟨F_9, rfl, rfl, hK, hS, hL_t_Links, hG_0, hE_gvS, hG_1, hE_gvR, hG_2, hG_5, hM⟩
 ·
  rintro f_1 h_11 ⟨F_10, e2, e4, hK, hS, hL_t_Links, hG_0, hE_gvS, hG_1, hE_gvR, hG_2, hG_5, hM⟩
  unfold law32_TreeTexts_j1 at hM
  refine HW.fr [(2, .pointer (some ⟨b_1, 0, none⟩)), (4, .bool false)] ⟨e2, e4, trivial⟩ ?_
  refine HW.seq ?_
  refine HW.seq ?_
  refine HW.region ?_
  refine oV (.agg #[.int .i64 r_0_1, vr_1_1]) (q_loadAgg (cs := [.int .i64 r_0_1, vr_1_1]) ta_24 rfl rfl (Blk.cells (k := 2) (hS.box 0 rfl) rfl)) rfl ?_
  replace hS : St F_10 (Ow.own 46 2 e_api_Branch vr_1_1 r_1_1 :: Ow.box b_1 24 #[.int .i64 r_0_1, vr_1_1] :: fr) h_11 := hS.perm2 [1, 0] 2 rfl rfl
  have hZ_4 := hS
  have hkz_4 := (hS.freeze).2
  replace hS := hS.freeze.1
  have hL_4 : SliceF (fun bz_ => F_10 bz_ ∨ (Ow.own 46 2 e_api_Branch vr_1_1 r_1_1).foot bz_) h_11 2 e_api_Branch vr_1_1 r_1_1 := ⟨(hZ_4.own 0 rfl).slice, fun _ b hb => .inr hb⟩
  refine HO.call (want_none) rfl (ec en_12 rfl rfl) (ref32_Good_walk (fr := (Ow.box b_1 24 #[.int .i64 r_0_1, vr_1_1] :: fr)) r_0_1 r_1_1 vr_1_1 hS hL_4 hM) ?_
  rintro _ h_12 ⟨F_11, r_6, rfl, hk, hS, _, hM⟩
  obtain ⟨hS, hk⟩ := hZ_4.back hk hS
  generalize (fun bz_ => F_11 bz_ ∧ ¬ (Ow.own 46 2 e_api_Branch vr_1_1 r_1_1).foot bz_) = F_12 at hS hk
  replace hK := hK.trans hk
  replace hL_t_Links := hL_t_Links.kp hk
  replace hG_0 := hG_0.kp hk
  replace hE_gvS := hE_gvS.kp hk
  replace hG_1 := hG_1.kp hk
  replace hE_gvR := hE_gvR.kp hk
  replace hG_2 := hG_2.kp hk
  replace hG_5 := hG_5.kp hk
  refine oV (.bool (!r_6)) (q_not rfl) rfl ?_
  refine HO.nil (thenQ_normal (?_))
  refine HW.cond (!r_6) rfl (fun c_6 => ?_) (fun c_6 => ?_)
  ·
   replace hM := hM.1 c_6
   refine HW.seq ?_
   refine HW.region ?_
   refine HO.call (want_none) rfl (ec en_14 rfl rfl) (law32_lives_walk (fr := (Ow.own 46 2 e_api_Branch vr_1_1 r_1_1 :: Ow.box b_1 24 #[.int .i64 r_0_1, vr_1_1] :: fr)) gvS gbS gvR gbR gm hS hG_0 hE_gvS hG_1 hE_gvR hG_2 hG_5 hD hM) ?_
   rintro _ h_13 ⟨F_13, r_7, rfl, hk, hS, _, _, _, _, _, _, hM⟩
   replace hK := hK.trans hk
   replace hL_t_Links := hL_t_Links.kp hk
   replace hG_0 := hG_0.kp hk
   replace hE_gvS := hE_gvS.kp hk
   replace hG_1 := hG_1.kp hk
   replace hE_gvR := hE_gvR.kp hk
   replace hG_2 := hG_2.kp hk
   replace hG_5 := hG_5.kp hk
   refine oA (.bool r_7) rfl rfl ?_
   refine HO.nil (thenQ_normal (?_))
   refine HW.ret (thenQ_ret (?_))
   refine ⟨.inr rfl, .bool r_7, res1 rfl (rt rfl), ?_⟩
   replace hS : St F_13 (fr) h_13 := hS.perm2 [] 2 rfl rfl
   exact ⟨F_13, r_7, rfl, hK, hS, hL_t_Links, hG_0, hE_gvS, hG_1, hE_gvR, hG_2, hG_5, hM⟩
  ·
   replace hM := hM.2 c_6
   refine HW.skip (thenQ_normal (?_))
   refine HW.seq ?_
   refine HW.region ?_
   refine oV (.agg #[.int .i64 r_0_1, vr_1_1]) (q_loadAgg (cs := [.int .i64 r_0_1, vr_1_1]) ta_24 rfl rfl (Blk.cells (k := 2) (hS.box 1 rfl) rfl)) rfl ?_
   have hZ_5 := hS
   have hkz_5 := (hS.freeze).2
   replace hS := hS.freeze.1
   have hL_5 : SliceF (fun bz_ => F_12 bz_ ∨ (Ow.own 46 2 e_api_Branch vr_1_1 r_1_1).foot bz_) h_12 2 e_api_Branch vr_1_1 r_1_1 := ⟨(hZ_5.own 0 rfl).slice, fun _ b hb => .inr hb⟩
   refine HO.call (want_none) rfl (ec en_13 rfl rfl) (ref32_Print_walk (fr := (Ow.box b_1 24 #[.int .i64 r_0_1, vr_1_1] :: fr)) r_0_1 r_1_1 vr_1_1 hS hL_5 hM) ?_
   rintro _ h_14 ⟨F_14, r_8, rfl, hk, hS, _, hM⟩
   obtain ⟨hS, hk⟩ := hZ_5.back hk hS
   generalize (fun bz_ => F_14 bz_ ∧ ¬ (Ow.own 46 2 e_api_Branch vr_1_1 r_1_1).foot bz_) = F_15 at hS hk
   replace hK := hK.trans hk
   replace hL_t_Links := hL_t_Links.kp hk
   replace hG_0 := hG_0.kp hk
   replace hE_gvS := hE_gvS.kp hk
   replace hG_1 := hG_1.kp hk
   replace hE_gvR := hE_gvR.kp hk
   replace hG_2 := hG_2.kp hk
   replace hG_5 := hG_5.kp hk
   refine HO.call (want_none) rfl (ec en_10 rfl rfl) (tree_Parse_walk (fr := (Ow.own 46 2 e_api_Branch vr_1_1 r_1_1 :: Ow.box b_1 24 #[.int .i64 r_0_1, vr_1_1] :: fr)) r_8 gvS gbS gvR gbR gm hS hG_0 hE_gvS hG_1 hE_gvR hG_2 hG_5 hD hM) ?_
   rintro _ h_15 ⟨F_16, r0_0_2, r0_1_2, r1_2, vr0_1_2, rfl, hk, hS, _, _, _, _, _, _, hM⟩
   replace hK := hK.trans hk
   replace hL_t_Links := hL_t_Links.kp hk
   replace hG_0 := hG_0.kp hk
   replace hE_gvS := hE_gvS.kp hk
   replace hG_1 := hG_1.kp hk
   replace hE_gvR := hE_gvR.kp hk
   replace hG_2 := hG_2.kp hk
   replace hG_5 := hG_5.kp hk
   refine oM (.tuple #[.agg #[.int .i64 r0_0_2, vr0_1_2], .int .i64 r1_2]) rfl rfl ?_
   refine oV (.agg #[.int .i64 r0_0_2, vr0_1_2]) (q_extract rfl rfl) rfl ?_
   refine oV (.int .i64 r1_2) (q_extract rfl rfl) rfl ?_
   refine HO.eff (want_none) rfl (st_alloc (c := #[.int .i64 0, .slice none 0 0]) hS tz_24 rfl) ?_
   rintro _ h_16 ⟨b_3, rfl, hS, hk⟩
   replace hK := hK.trans hk
   replace hL_t_Links := hL_t_Links.kp hk
   replace hG_0 := hG_0.kp hk
   replace hE_gvS := hE_gvS.kp hk
   replace hG_1 := hG_1.kp hk
   replace hE_gvR := hE_gvR.kp hk
   replace hG_2 := hG_2.kp hk
   replace hG_5 := hG_5.kp hk
   refine HO.sto (want_none) rfl (st_storeAgg (c' := #[.int .i64 r0_0_2, vr0_1_2]) hS (i := 0) rfl ta_24 rfl rfl rfl (List.forall_mem_cons.2 ⟨rfl, (List.forall_mem_cons.2 ⟨(shp (hS.own 1 rfl).slice).one, (fun _ h => by cases h)⟩)⟩) (Nat.le_of_ble_eq_true rfl) rfl) ?_
   rintro h_17 ⟨hS, hk⟩
   replace hS : St F_16 (Ow.box b_3 24 #[.int .i64 r0_0_2, vr0_1_2] :: Ow.own 46 2 e_api_Branch vr0_1_2 r0_1_2 :: Ow.own 46 2 e_api_Branch vr_1_1 r_1_1 :: Ow.box b_1 24 #[.int .i64 r_0_1, vr_1_1] :: fr) h_17 := hS
   replace hK := hK.trans hk
   replace hL_t_Links := hL_t_Links.kp hk
   replace hG_0 := hG_0.kp hk
   replace hE_gvS := hE_gvS.kp hk
   replace hG_1 := hG_1.kp hk
   replace hE_gvR := hE_gvR.kp hk
   replace hG_2 := hG_2.kp hk
   replace hG_5 := hG_5.kp hk
   refine oA (.int .i64 r1_2) rfl rfl ?_
   refine HO.nil (thenQ_normal (?_))
   refine HW.seq ?_
   refine HW.regionA 19 mixed (fun h => (Blk h b_3 (.cells #[.int .i64 r0_0_2, vr0_1_2] 24 (0, 0))) ∧ (Blk h b_1 (.cells #[.int .i64 r_0_1, vr_1_1] 24 (0, 0)))) [] (by kernel_rfl) ?_
   refine HA.val (k := 0) (v := .agg #[.int .i64 r_0_1, vr_1_1]) rfl rfl (by kernel_rfl) (by kernel_rfl) (want_none) rfl (fun _ ⟨c208, c205⟩ => q_loadAgg (cs := [.int .i64 r_0_1, vr_1_1]) ta_24 rfl rfl (Blk.cells (k := 2) c205 rfl)) ?_
   refine HA.val (k := 3) (v := .agg #[.int .i64 r_0_1, vr_1_1]) rfl rfl (by kernel_rfl) (by kernel_rfl) (want_none) rfl (fun _ ⟨c208, c205⟩ => q_loadAgg (cs := [.int .i64 r_0_1, vr_1_1]) ta_24 rfl rfl (Blk.cells (k := 2) c205 rfl)) ?_
   refine HA.one (k := 1) ⟨⟨(hS.box 0 rfl), (hS.box 3 rfl)⟩, (Go.Wk.at_nil _ _)⟩ (by kernel_rfl) ?_
   replace hS : St F_16 (Ow.own 46 2 e_api_Branch vr_1_1 r_1_1 :: Ow.box b_3 24 #[.int .i64 r0_0_2, vr0_1_2] :: Ow.own 46 2 e_api_Branch vr0_1_2 r0_1_2 :: Ow.box b_1 24 #[.int .i64 r_0_1, vr_1_1] :: fr) h_17 := hS.perm2 [2, 0, 1, 3] 4 rfl rfl
   have hZ_6 := hS
   have hkz_6 := (hS.freeze).2
   replace hS := hS.freeze.1
   have hL_6 : SliceF (fun bz_ => F_16 bz_ ∨ (Ow.own 46 2 e_api_Branch vr_1_1 r_1_1).foot bz_) h_17 2 e_api_Branch vr_1_1 r_1_1 := ⟨(hZ_6.own 0 rfl).slice, fun _ b hb => .inr hb⟩
   refine HS.call rfl (want_none) rfl (ec en_8 rfl rfl) (law32_Few_walk (fr := (Ow.box b_3 24 #[.int .i64 r0_0_2, vr0_1_2] :: Ow.own 46 2 e_api_Branch vr0_1_2 r0_1_2 :: Ow.box b_1 24 #[.int .i64 r_0_1, vr_1_1] :: fr)) r_0_1 r_1_1 vr_1_1 hS hL_6 hM) ?_
   rintro _ h_18 ⟨F_17, r_0_2, r_1_2, vr_1_2, rfl, hk, hS, _, hM⟩
   obtain ⟨hS, hk⟩ := hZ_6.back hk hS
   generalize (fun bz_ => F_17 bz_ ∧ ¬ (Ow.own 46 2 e_api_Branch vr_1_1 r_1_1).foot bz_) = F_18 at hS hk
   replace hK := hK.trans hk
   replace hL_t_Links := hL_t_Links.kp hk
   replace hG_0 := hG_0.kp hk
   replace hE_gvS := hE_gvS.kp hk
   replace hG_1 := hG_1.kp hk
   replace hE_gvR := hE_gvR.kp hk
   replace hG_2 := hG_2.kp hk
   replace hG_5 := hG_5.kp hk
   refine HA.one (k := 2) ⟨⟨(hS.box 2 rfl), (hS.box 4 rfl)⟩, (Go.Wk.at_nil _ _)⟩ (by kernel_rfl) ?_
   replace hS : St F_18 (Ow.own 46 2 e_api_Branch vr_1_2 r_1_2 :: Ow.own 46 2 e_api_Branch vr_1_1 r_1_1 :: Ow.box b_3 24 #[.int .i64 r0_0_2, vr0_1_2] :: Ow.own 46 2 e_api_Branch vr0_1_2 r0_1_2 :: Ow.box b_1 24 #[.int .i64 r_0_1, vr_1_1] :: fr) h_18 := hS.perm2 [1, 0, 2, 3, 4] 5 rfl rfl
   have hZ_7 := hS
   have hkz_7 := (hS.freeze).2
   replace hS := hS.freeze.1
   have hL_7 : SliceF (fun bz_ => F_18 bz_ ∨ (Ow.own 46 2 e_api_Branch vr_1_2 r_1_2).foot bz_) h_18 2 e_api_Branch vr_1_2 r_1_2 := ⟨(hZ_7.own 0 rfl).slice, fun _ b hb => .inr hb⟩
   refine HS.call rfl (want_none) rfl (ec en_15 rfl rfl) (tree_Print_walk (fr := (Ow.own 46 2 e_api_Branch vr_1_1 r_1_1 :: Ow.box b_3 24 #[.int .i64 r0_0_2, vr0_1_2] :: Ow.own 46 2 e_api_Branch vr0_1_2 r0_1_2 :: Ow.box b_1 24 #[.int .i64 r_0_1, vr_1_1] :: fr)) r_0_2 r_1_2 vr_1_2 hS hL_7 (hG_5.kp hkz_7) hD hM) ?_
   rintro _ h_19 ⟨F_19, r_9, rfl, hk, hS, _, _, hM⟩
   obtain ⟨hS, hk⟩ := hZ_7.back hk hS
   generalize (fun bz_ => F_19 bz_ ∧ ¬ (Ow.own 46 2 e_api_Branch vr_1_2 r_1_2).foot bz_) = F_20 at hS hk
   replace hK := hK.trans hk
   replace hL_t_Links := hL_t_Links.kp hk
   replace hG_0 := hG_0.kp hk
   replace hE_gvS := hE_gvS.kp hk
   replace hG_1 := hG_1.kp hk
   replace hE_gvR := hE_gvR.kp hk
   replace hG_2 := hG_2.kp hk
   replace hG_5 := hG_5.kp hk
   refine HA.one (k := 4) ⟨⟨(hS.box 2 rfl), (hS.box 4 rfl)⟩, (Go.Wk.at_nil _ _)⟩ (by kernel_rfl) ?_
   replace hS : St F_20 (Ow.own 46 2 e_api_Branch vr_1_1 r_1_1 :: Ow.own 46 2 e_api_Branch vr_1_2 r_1_2 :: Ow.box b_3 24 #[.int .i64 r0_0_2, vr0_1_2] :: Ow.own 46 2 e_api_Branch vr0_1_2 r0_1_2 :: Ow.box b_1 24 #[.int .i64 r_0_1, vr_1_1] :: fr) h_19 := hS.perm2 [1, 0, 2, 3, 4] 5 rfl rfl
   have hZ_8 := hS
   have hkz_8 := (hS.freeze).2
   replace hS := hS.freeze.1
   have hL_8 : SliceF (fun bz_ => F_20 bz_ ∨ (Ow.own 46 2 e_api_Branch vr_1_1 r_1_1).foot bz_) h_19 2 e_api_Branch vr_1_1 r_1_1 := ⟨(hZ_8.own 0 rfl).slice, fun _ b hb => .inr hb⟩
   refine HS.call rfl (want_none) rfl (ec en_13 rfl rfl) (ref32_Print_walk (fr := (Ow.own 46 2 e_api_Branch vr_1_2 r_1_2 :: Ow.box b_3 24 #[.int .i64 r0_0_2, vr0_1_2] :: Ow.own 46 2 e_api_Branch vr0_1_2 r0_1_2 :: Ow.box b_1 24 #[.int .i64 r_0_1, vr_1_1] :: fr)) r_0_1 r_1_1 vr_1_1 hS hL_8 hM) ?_
   rintro _ h_20 ⟨F_21, r_10, rfl, hk, hS, _, hM⟩
   obtain ⟨hS, hk⟩ := hZ_8.back hk hS
   generalize (fun bz_ => F_21 bz_ ∧ ¬ (Ow.own 46 2 e_api_Branch vr_1_1 r_1_1).foot bz_) = F_22 at hS hk
   replace hK := hK.trans hk
   replace hL_t_Links := hL_t_Links.kp hk
   replace hG_0 := hG_0.kp hk
   replace hE_gvS := hE_gvS.kp hk
   replace hG_1 := hG_1.kp hk
   replace hE_gvR := hE_gvR.kp hk
   replace hG_2 := hG_2.kp hk
   replace hG_5 := hG_5.kp hk
   refine HA.val (k := 5) (v := .bool (decide ((r_9 : Str) = r_10))) rfl rfl (by kernel_rfl) (by kernel_rfl) (want_none) rfl (fun _ ⟨c208, c205⟩ => q_eqlT rfl rfl) ?_
   refine HA.val (k := 6) (v := .bool (decide ((r_9 : Str) = r_10))) rfl rfl (by kernel_rfl) (by kernel_rfl) (want_none) rfl (fun _ ⟨c208, c205⟩ => q_move rfl) ?_
   rcases Bool.eq_false_or_eq_true (decide ((r_9 : Str) = r_10)) with c_7 | c_7
   ·
    replace hM := hM.1 (of_decide_eq_true c_7)
    refine HA.val (k := 7) (v := .agg #[.int .i64 r0_0_2, vr0_1_2]) rfl rfl (by kernel_rfl) (by kernel_rfl) (want_by rfl rfl c_7) rfl (fun _ ⟨c208, c205⟩ => q_loadAgg (cs := [.int .i64 r0_0_2, vr0_1_2]) ta_24 rfl rfl (Blk.cells (k := 2) c208 rfl)) ?_
    refine HA.val (k := 8) (v := .agg #[.int .i64 r_0_1, vr_1_1]) rfl rfl (by kernel_rfl) (by kernel_rfl) (want_by rfl rfl c_7) rfl (fun _ ⟨c208, c205⟩ => q_loadAgg (cs := [.int .i64 r_0_1, vr_1_1]) ta_24 rfl rfl (Blk.cells (k := 2) c205 rfl)) ?_
    refine HA.one (k := 9) ⟨⟨(hS.box 2 rfl), (hS.box 4 rfl)⟩, (Go.Wk.at_nil _ _)⟩ (by kernel_rfl) ?_
    replace hS : St F_22 (Ow.own 46 2 e_api_Branch vr0_1_2 r0_1_2 :: Ow.own 46 2 e_api_Branch vr_1_1 r_1_1 :: Ow.own 46 2 e_api_Branch vr_1_2 r_1_2 :: Ow.box b_3 24 #[.int .i64 r0_0_2, vr0_1_2] :: Ow.box b_1 24 #[.int .i64 r_0_1, vr_1_1] :: fr) h_20 := hS.perm2 [3, 0, 1, 2, 4] 5 rfl rfl
    have hZ_9 := hS
    have hkz_9 := (hS.freeze).2
    replace hS := hS.freeze.1
    have hL_9 : SliceF (fun bz_ => F_22 bz_ ∨ (Ow.own 46 2 e_api_Branch vr0_1_2 r0_1_2).foot bz_) h_20 2 e_api_Branch vr0_1_2 r0_1_2 := ⟨(hZ_9.own 0 rfl).slice, fun _ b hb => .inr hb⟩
    have hZ_10 := hS
    have hkz_10 := (hS.freeze).2
    replace hS := hS.freeze.1
    have hL_10 : SliceF (fun bz_ => (fun bz_ => F_22 bz_ ∨ (Ow.own 46 2 e_api_Branch vr0_1_2 r0_1_2).foot bz_) bz_ ∨ (Ow.own 46 2 e_api_Branch vr_1_1 r_1_1).foot bz_) h_20 2 e_api_Branch vr_1_1 r_1_1 := ⟨(hZ_10.own 0 rfl).slice, fun _ b hb => .inr hb⟩
    refine HS.call rfl (want_by rfl rfl c_7) rfl (ec en_11 rfl rfl) (ref32_Same_walk (fr := (Ow.own 46 2 e_api_Branch vr_1_2 r_1_2 :: Ow.box b_3 24 #[.int .i64 r0_0_2, vr0_1_2] :: Ow.box b_1 24 #[.int .i64 r_0_1, vr_1_1] :: fr)) r0_0_2 r0_1_2 r_0_1 r_1_1 vr0_1_2 vr_1_1 hS (hL_9.kp hkz_10) hL_10 hM) ?_
    rintro _ h_21 ⟨F_23, r_11, rfl, hk, hS, _, _, hM⟩
    obtain ⟨hS, hk⟩ := hZ_10.back hk hS
    obtain ⟨hS, hk⟩ := hZ_9.back hk hS
    generalize (fun bz_ => (fun bz_ => F_23 bz_ ∧ ¬ (Ow.own 46 2 e_api_Branch vr_1_1 r_1_1).foot bz_) bz_ ∧ ¬ (Ow.own 46 2 e_api_Branch vr0_1_2 r0_1_2).foot bz_) = F_24 at hS hk
    replace hK := hK.trans hk
    replace hL_t_Links := hL_t_Links.kp hk
    replace hG_0 := hG_0.kp hk
    replace hE_gvS := hE_gvS.kp hk
    replace hG_1 := hG_1.kp hk
    replace hE_gvR := hE_gvR.kp hk
    replace hG_2 := hG_2.kp hk
    replace hG_5 := hG_5.kp hk
    refine HA.val (k := 10) (v := .bool r_11) rfl rfl (by kernel_rfl) (by kernel_rfl) (want_none) rfl (fun _ ⟨c208, c205⟩ => q_pickK true rfl c_7 rfl) ?_
    refine HA.val (k := 11) (v := .bool r_11) rfl rfl (by kernel_rfl) (by kernel_rfl) (want_none) rfl (fun _ ⟨c208, c205⟩ => q_move rfl) ?_
    rcases Bool.eq_false_or_eq_true r_11 with c_8 | c_8
    ·
     replace hM := hM.1 c_8
     refine HA.val (k := 12) (v := .int .i64 r1_2) rfl rfl (by kernel_rfl) (by kernel_rfl) (want_by rfl rfl c_8) rfl (fun _ ⟨c208, c205⟩ => q_move rfl) ?_
     refine HA.val (k := 13) (v := .bool (decide (r1_2 = 0))) rfl rfl (by kernel_rfl) (by kernel_rfl) (want_by rfl rfl c_8) rfl (fun _ ⟨c208, c205⟩ => q_eql rfl rfl) ?_
     refine HA.val (k := 14) (v := .bool (decide (r1_2 = 0))) rfl rfl (by kernel_rfl) (by kernel_rfl) (want_none) rfl (fun _ ⟨c208, c205⟩ => q_pickK true rfl c_8 rfl) ?_
     refine HA.val (k := 15) (v := .bool (decide (r1_2 = 0))) rfl rfl (by kernel_rfl) (by kernel_rfl) (want_none) rfl (fun _ ⟨c208, c205⟩ => q_move rfl) ?_
     rcases Bool.eq_false_or_eq_true (decide (r1_2 = 0)) with c_9 | c_9
     ·
      replace hM := hM.1 (of_decide_eq_true c_9)
      refine HA.one (k := 16) ⟨⟨(hS.box 3 rfl), (hS.box 4 rfl)⟩, (Go.Wk.at_nil _ _)⟩ (by kernel_rfl) ?_
      refine HS.call rfl (want_by rfl rfl c_9) rfl (ec en_14 rfl rfl) (law32_lives_walk (fr := (Ow.own 46 2 e_api_Branch vr0_1_2 r0_1_2 :: Ow.own 46 2 e_api_Branch vr_1_1 r_1_1 :: Ow.own 46 2 e_api_Branch vr_1_2 r_1_2 :: Ow.box b_3 24 #[.int .i64 r0_0_2, vr0_1_2] :: Ow.box b_1 24 #[.int .i64 r_0_1, vr_1_1] :: fr)) gvS gbS gvR gbR gm hS hG_0 hE_gvS hG_1 hE_gvR hG_2 hG_5 hD hM) ?_
      rintro _ h_22 ⟨F_25, r_12, rfl, hk, hS, _, _, _, _, _, _, hM⟩
      replace hK := hK.trans hk
      replace hL_t_Links := hL_t_Links.kp hk
      replace hG_0 := hG_0.kp hk
      replace hE_gvS := hE_gvS.kp hk
      replace hG_1 := hG_1.kp hk
      replace hE_gvR := hE_gvR.kp hk
      replace hG_2 := hG_2.kp hk
      replace hG_5 := hG_5.kp hk
      refine HA.val (k := 17) (v := .bool r_12) rfl rfl (by kernel_rfl) (by kernel_rfl) (want_none) rfl (fun _ ⟨c208, c205⟩ => q_pickK true rfl c_9 rfl) ?_
      refine HA.val (k := 18) (v := .bool r_12) rfl rfl (by kernel_rfl) (by kernel_rfl) (want_none) rfl (fun _ ⟨c208, c205⟩ => q_assign rfl) ?_
      refine HA.nil ⟨⟨(hS.box 3 rfl), (hS.box 4 rfl)⟩, (Go.Wk.at_nil _ _)⟩ (by kernel_rfl) (thenQ_normal (?_))
      refine HW.ret (?_)
      refine ⟨.inr rfl, .bool r_12, res1 rfl (rt rfl), ?_⟩
      replace hS : St F_25 (fr) h_22 := hS.perm2 [] 5 rfl rfl
      exact ⟨F_25, r_12, rfl, hK, hS, hL_t_Links, hG_0, hE_gvS, hG_1, hE_gvR, hG_2, hG_5, hM⟩
     ·
      replace hM := hM.2 (of_decide_eq_false c_9)
      refine HA.one (k := 16) ⟨⟨(hS.box 3 rfl), (hS.box 4 rfl)⟩, (Go.Wk.at_nil _ _)⟩ (by kernel_rfl) ?_
      refine HS.past rfl (past_by rfl rfl c_9) rfl ?_
      refine HA.val (k := 17) (v := .bool false) rfl rfl (by kernel_rfl) (by kernel_rfl) (want_none) rfl (fun _ ⟨c208, c205⟩ => q_pickK false rfl c_9 rfl) ?_
      refine HA.val (k := 18) (v := .bool false) rfl rfl (by kernel_rfl) (by kernel_rfl) (want_none) rfl (fun _ ⟨c208, c205⟩ => q_assign rfl) ?_
      refine HA.nil ⟨⟨(hS.box 3 rfl), (hS.box 4 rfl)⟩, (Go.Wk.at_nil _ _)⟩ (by kernel_rfl) (thenQ_normal (?_))
      refine HW.ret (?_)
      refine ⟨.inr rfl, .bool false, res1 rfl (rt rfl), ?_⟩
      replace hS : St F_24 (fr) h_21 := hS.perm2 [] 5 rfl rfl
      exact ⟨F_24, false, rfl, hK, hS, hL_t_Links, hG_0, hE_gvS, hG_1, hE_gvR, hG_2, hG_5, hM⟩
    ·
     replace hM := hM.2 c_8
     refine HA.past (k := 12) rfl rfl (by kernel_rfl) (by kernel_rfl) (past_by rfl rfl c_8) rfl ?_
     refine HA.past (k := 13) rfl rfl (by kernel_rfl) (by kernel_rfl) (past_by rfl rfl c_8) rfl ?_
     refine HA.val (k := 14) (v := .bool false) rfl rfl (by kernel_rfl) (by kernel_rfl) (want_none) rfl (fun _ ⟨c208, c205⟩ => q_pickK false rfl c_8 rfl) ?_
     refine HA.val (k := 15) (v := .bool false) rfl rfl (by kernel_rfl) (by kernel_rfl) (want_none) rfl (fun _ ⟨c208, c205⟩ => q_move rfl) ?_
     refine HA.one (k := 16) ⟨⟨(hS.box 3 rfl), (hS.box 4 rfl)⟩, (Go.Wk.at_nil _ _)⟩ (by kernel_rfl) ?_
     refine HS.past rfl (past_some rfl rfl) rfl ?_
     refine HA.val (k := 17) (v := .bool false) rfl rfl (by kernel_rfl) (by kernel_rfl) (want_none) rfl (fun _ ⟨c208, c205⟩ => q_pick rfl rfl) ?_
     refine HA.val (k := 18) (v := .bool false) rfl rfl (by kernel_rfl) (by kernel_rfl) (want_none) rfl (fun _ ⟨c208, c205⟩ => q_assign rfl) ?_
     refine HA.nil ⟨⟨(hS.box 3 rfl), (hS.box 4 rfl)⟩, (Go.Wk.at_nil _ _)⟩ (by kernel_rfl) (thenQ_normal (?_))
     refine HW.ret (?_)
     refine ⟨.inr rfl, .bool false, res1 rfl (rt rfl), ?_⟩
     replace hS : St F_24 (fr) h_21 := hS.perm2 [] 5 rfl rfl
     exact ⟨F_24, false, rfl, hK, hS, hL_t_Links, hG_0, hE_gvS, hG_1, hE_gvR, hG_2, hG_5, hM⟩
   ·
    replace hM := hM.2 (of_decide_eq_false c_7)
    refine HA.past (k := 7) rfl rfl (by kernel_rfl) (by kernel_rfl) (past_by rfl rfl c_7) rfl ?_
    refine HA.past (k := 8) rfl rfl (by kernel_rfl) (by kernel_rfl) (past_by rfl rfl c_7) rfl ?_
    refine HA.one (k := 9) ⟨⟨(hS.box 2 rfl), (hS.box 4 rfl)⟩, (Go.Wk.at_nil _ _)⟩ (by kernel_rfl) ?_
    refine HS.past rfl (past_by rfl rfl c_7) rfl ?_
    refine HA.val (k := 10) (v := .bool false) rfl rfl (by kernel_rfl) (by kernel_rfl) (want_none) rfl (fun _ ⟨c208, c205⟩ => q_pickK false rfl c_7 rfl) ?_
    refine HA.val (k := 11) (v := .bool false) rfl rfl (by kernel_rfl) (by kernel_rfl) (want_none) rfl (fun _ ⟨c208, c205⟩ => q_move rfl) ?_
    refine HA.past (k := 12) rfl rfl (by kernel_rfl) (by kernel_rfl) (past_some rfl rfl) rfl ?_
    refine HA.past (k := 13) rfl rfl (by kernel_rfl) (by kernel_rfl) (past_some rfl rfl) rfl ?_
    refine HA.val (k := 14) (v := .bool false) rfl rfl (by kernel_rfl) (by kernel_rfl) (want_none) rfl (fun _ ⟨c208, c205⟩ => q_pick rfl rfl) ?_
    refine HA.val (k := 15) (v := .bool false) rfl rfl (by kernel_rfl) (by kernel_rfl) (want_none) rfl (fun _ ⟨c208, c205⟩ => q_move rfl) ?_
    refine HA.one (k := 16) ⟨⟨(hS.box 2 rfl), (hS.box 4 rfl)⟩, (Go.Wk.at_nil _ _)⟩ (by kernel_rfl) ?_
    refine HS.past rfl (past_some rfl rfl) rfl ?_
    refine HA.val (k := 17) (v := .bool false) rfl rfl (by kernel_rfl) (by kernel_rfl) (want_none) rfl (fun _ ⟨c208, c205⟩ => q_pick rfl rfl) ?_
    refine HA.val (k := 18) (v := .bool false) rfl rfl (by kernel_rfl) (by kernel_rfl) (want_none) rfl (fun _ ⟨c208, c205⟩ => q_assign rfl) ?_
    refine HA.nil ⟨⟨(hS.box 2 rfl), (hS.box 4 rfl)⟩, (Go.Wk.at_nil _ _)⟩ (by kernel_rfl) (thenQ_normal (?_))
    refine HW.ret (?_)
    refine ⟨.inr rfl, .bool false, res1 rfl (rt rfl), ?_⟩
    replace hS : St F_22 (fr) h_20 := hS.perm2 [] 5 rfl rfl
    exact ⟨F_22, false, rfl, hK, hS, hL_t_Links, hG_0, hE_gvS, hG_1, hE_gvR, hG_2, hG_5, hM⟩
end Go.Wk
