/- Walks of Addr laws. -/
import Derived.Test.YtamiodnbinhmhaaGreatDoorAdtW1
set_option linter.unusedSimpArgs false
set_option linter.unusedVariables false
set_option linter.unusedSectionVars false
namespace Go.Wk
open Go.HL
open Go.Proofs hiding encI
variable [DM]

def internal_strconv_ParseUint_j12 (Q : Int → Int → Prop) (base_1 : Int) (bitSize_1 : Int) (underscores_1 : Bool) (n_1 : Int) (n_2 : Int) (K_1 : Bool → Int → Int → Prop) (d_1 : Int) (b_8 : Bool) : Prop :=
  (b_8 = true → Q (IntKind.u64.wrap ((IntKind.u64.wrap ((1 : Int) * 2 ^ (min (IntKind.u64.wrap bitSize_1).toNat IntKind.u64.bits))) - 1)) 1) ∧ (b_8 = false → (I64 (n_2 + 1)) ∧ (K_1 underscores_1 (IntKind.u64.wrap ((IntKind.u64.wrap (n_1 * (IntKind.u64.wrap base_1))) + (IntKind.u64.wrap d_1))) (n_2 + 1)))
def internal_strconv_ParseUint_j8 (Q : Int → Int → Prop) (base_1 : Int) (bitSize_1 : Int) (cutoff_1 : Int) (underscores_1 : Bool) (n_1 : Int) (n_2 : Int) (K_1 : Bool → Int → Int → Prop) (d_1 : Int) : Prop :=
  (((u8w base_1).toNat : Int) ≤ d_1 → Q 0 2) ∧ (¬ (((u8w base_1).toNat : Int) ≤ d_1) → (cutoff_1 ≤ n_1 → Q (IntKind.u64.wrap ((IntKind.u64.wrap ((1 : Int) * 2 ^ (min (IntKind.u64.wrap bitSize_1).toNat IntKind.u64.bits))) - 1)) 1) ∧ (¬ (cutoff_1 ≤ n_1) → ((IntKind.u64.wrap ((IntKind.u64.wrap (n_1 * (IntKind.u64.wrap base_1))) + (IntKind.u64.wrap d_1))) < (IntKind.u64.wrap (n_1 * (IntKind.u64.wrap base_1))) → internal_strconv_ParseUint_j12 Q base_1 bitSize_1 underscores_1 n_1 n_2 K_1 d_1 true) ∧ (¬ ((IntKind.u64.wrap ((IntKind.u64.wrap (n_1 * (IntKind.u64.wrap base_1))) + (IntKind.u64.wrap d_1))) < (IntKind.u64.wrap (n_1 * (IntKind.u64.wrap base_1)))) → internal_strconv_ParseUint_j12 Q base_1 bitSize_1 underscores_1 n_1 n_2 K_1 d_1 (decide ((IntKind.u64.wrap ((IntKind.u64.wrap ((1 : Int) * 2 ^ (min (IntKind.u64.wrap bitSize_1).toNat IntKind.u64.bits))) - 1)) < (IntKind.u64.wrap ((IntKind.u64.wrap (n_1 * (IntKind.u64.wrap base_1))) + (IntKind.u64.wrap d_1))))))))
def internal_strconv_ParseUint_j11 (Q : Int → Int → Prop) (s_1 : Str) (base_1 : Int) (bitSize_1 : Int) (cutoff_1 : Int) (underscores_1 : Bool) (n_1 : Int) (n_2 : Int) (K_1 : Bool → Int → Int → Prop) (b_7 : Bool) : Prop :=
  (b_7 = true → internal_strconv_lower_W ((gi s_1 n_2).toNat : Int) (fun r_6 => internal_strconv_ParseUint_j8 Q base_1 bitSize_1 cutoff_1 underscores_1 n_1 n_2 K_1 ((u8w (((u8w (r_6 - 97)).toNat : Int) + 10)).toNat : Int))) ∧ (b_7 = false → Q 0 2)
def internal_strconv_ParseUint_j10 (Q : Int → Int → Prop) (s_1 : Str) (base_1 : Int) (bitSize_1 : Int) (cutoff_1 : Int) (underscores_1 : Bool) (n_1 : Int) (n_2 : Int) (K_1 : Bool → Int → Int → Prop) (b_6 : Bool) : Prop :=
  (b_6 = true → internal_strconv_ParseUint_j8 Q base_1 bitSize_1 cutoff_1 underscores_1 n_1 n_2 K_1 ((u8w (((gi s_1 n_2).toNat : Int) - 48)).toNat : Int)) ∧ (b_6 = false → internal_strconv_lower_W ((gi s_1 n_2).toNat : Int) (fun r_4 => (97 ≤ r_4 → internal_strconv_lower_W ((gi s_1 n_2).toNat : Int) (fun r_5 => internal_strconv_ParseUint_j11 Q s_1 base_1 bitSize_1 cutoff_1 underscores_1 n_1 n_2 K_1 (decide (r_5 ≤ 122)))) ∧ (¬ (97 ≤ r_4) → internal_strconv_ParseUint_j11 Q s_1 base_1 bitSize_1 cutoff_1 underscores_1 n_1 n_2 K_1 false)))
def internal_strconv_ParseUint_j9 (Q : Int → Int → Prop) (s_1 : Str) (base_1 : Int) (bitSize_1 : Int) (cutoff_1 : Int) (underscores_1 : Bool) (n_1 : Int) (n_2 : Int) (K_1 : Bool → Int → Int → Prop) (b_5 : Bool) : Prop :=
  (b_5 = true → (I64 (n_2 + 1)) ∧ (K_1 true n_1 (n_2 + 1))) ∧ (b_5 = false → (48 ≤ ((gi s_1 n_2).toNat : Int) → internal_strconv_ParseUint_j10 Q s_1 base_1 bitSize_1 cutoff_1 underscores_1 n_1 n_2 K_1 (decide (((gi s_1 n_2).toNat : Int) ≤ 57))) ∧ (¬ (48 ≤ ((gi s_1 n_2).toNat : Int)) → internal_strconv_ParseUint_j10 Q s_1 base_1 bitSize_1 cutoff_1 underscores_1 n_1 n_2 K_1 false))
def internal_strconv_ParseUint_j13 (Q : Int → Int → Prop) (n_1 : Int) (b_9 : Bool) : Prop :=
  (b_9 = true → Q 0 2) ∧ (b_9 = false → Q n_1 0)
def internal_strconv_ParseUint_l1 (s1 : Str) (base : Int) (Q : Int → Int → Prop) (s_1 : Str) (base_1 : Int) (bitSize_1 : Int) (cutoff_1 : Int) (K_1 : Bool → Int → Int → Prop) (underscores_1 : Bool) (n_1 : Int) (n_2 : Int) : Prop :=
  (n_2 < (s_1.length : Int) → ((0 : Int) ≤ n_2 ∧ n_2 < (s_1.length : Int)) ∧ ((((gi s_1 n_2).toNat : Int) = 95 → internal_strconv_ParseUint_j9 Q s_1 base_1 bitSize_1 cutoff_1 underscores_1 n_1 n_2 K_1 (decide (base = 0))) ∧ (¬ (((gi s_1 n_2).toNat : Int) = 95) → internal_strconv_ParseUint_j9 Q s_1 base_1 bitSize_1 cutoff_1 underscores_1 n_1 n_2 K_1 false))) ∧ (¬ (n_2 < (s_1.length : Int)) → (underscores_1 = true → internal_strconv_underscoreOK_W s1 (fun r_7 => internal_strconv_ParseUint_j13 Q n_1 (!r_7))) ∧ (underscores_1 = false → internal_strconv_ParseUint_j13 Q n_1 false))
def internal_strconv_ParseUint_j7 (s1 : Str) (base : Int) (Q : Int → Int → Prop) (s_1 : Str) (base_1 : Int) (bitSize_1 : Int) (cutoff_1 : Int) : Prop :=
  ((0 : Int) ≤ IntKind.u64.wrap bitSize_1) ∧ (((s_1.length : Int) ≤ 1000000) ∧ (loopW (fun (K_1 : (Bool × Int × Int) → Prop) (s : Bool × Int × Int) => internal_strconv_ParseUint_l1 s1 base Q s_1 base_1 bitSize_1 cutoff_1 (fun underscores_1 n_1 n_2 => K_1 (underscores_1, n_1, n_2)) s.1 s.2.1 s.2.2) (false, 0, 0)))
def internal_strconv_ParseUint_j6 (s1 : Str) (base : Int) (Q : Int → Int → Prop) (s_1 : Str) (base_1 : Int) (bitSize_1 : Int) : Prop :=
  (base_1 = 10 → internal_strconv_ParseUint_j7 s1 base Q s_1 base_1 bitSize_1 1844674407370955162) ∧ (¬ (base_1 = 10) → (base_1 = 16 → internal_strconv_ParseUint_j7 s1 base Q s_1 base_1 bitSize_1 1152921504606846976) ∧ (¬ (base_1 = 16) → (IntKind.u64.wrap base_1 ≠ 0) ∧ (internal_strconv_ParseUint_j7 s1 base Q s_1 base_1 bitSize_1 (IntKind.u64.wrap ((IntKind.u64.wrap ((18446744073709551615 : Int).tdiv (IntKind.u64.wrap base_1))) + 1)))))
def internal_strconv_ParseUint_j1 (s1 : Str) (base : Int) (bitSize : Int) (Q : Int → Int → Prop) (s_1 : Str) (base_1 : Int) : Prop :=
  (bitSize = 0 → internal_strconv_ParseUint_j6 s1 base Q s_1 base_1 64) ∧ (¬ (bitSize = 0) → (bitSize < 0 → Q 0 4) ∧ (¬ (bitSize < 0) → (64 < bitSize → Q 0 4) ∧ (¬ (64 < bitSize) → internal_strconv_ParseUint_j6 s1 base Q s_1 base_1 bitSize)))
def internal_strconv_ParseUint_j5 (s1 : Str) (base : Int) (bitSize : Int) (Q : Int → Int → Prop) (b_4 : Bool) : Prop :=
  (b_4 = true → ((0 : Int) ≤ 2 ∧ 2 ≤ (s1.length : Int)) ∧ (internal_strconv_ParseUint_j1 s1 base bitSize Q (cut s1 2 (s1.length : Int)) 16)) ∧ (b_4 = false → ((0 : Int) ≤ 1 ∧ 1 ≤ (s1.length : Int)) ∧ (internal_strconv_ParseUint_j1 s1 base bitSize Q (cut s1 1 (s1.length : Int)) 8))
def internal_strconv_ParseUint_j4 (s1 : Str) (base : Int) (bitSize : Int) (Q : Int → Int → Prop) (b_3 : Bool) : Prop :=
  (b_3 = true → ((0 : Int) ≤ 2 ∧ 2 ≤ (s1.length : Int)) ∧ (internal_strconv_ParseUint_j1 s1 base bitSize Q (cut s1 2 (s1.length : Int)) 8)) ∧ (b_3 = false → (3 ≤ (s1.length : Int) → ((0 : Int) ≤ 1 ∧ 1 < (s1.length : Int)) ∧ (internal_strconv_lower_W ((gi s1 1).toNat : Int) (fun r_3 => internal_strconv_ParseUint_j5 s1 base bitSize Q (decide (r_3 = 120))))) ∧ (¬ (3 ≤ (s1.length : Int)) → internal_strconv_ParseUint_j5 s1 base bitSize Q false))
def internal_strconv_ParseUint_j3 (s1 : Str) (base : Int) (bitSize : Int) (Q : Int → Int → Prop) (b_2 : Bool) : Prop :=
  (b_2 = true → ((0 : Int) ≤ 2 ∧ 2 ≤ (s1.length : Int)) ∧ (internal_strconv_ParseUint_j1 s1 base bitSize Q (cut s1 2 (s1.length : Int)) 2)) ∧ (b_2 = false → (3 ≤ (s1.length : Int) → ((0 : Int) ≤ 1 ∧ 1 < (s1.length : Int)) ∧ (internal_strconv_lower_W ((gi s1 1).toNat : Int) (fun r_2 => internal_strconv_ParseUint_j4 s1 base bitSize Q (decide (r_2 = 111))))) ∧ (¬ (3 ≤ (s1.length : Int)) → internal_strconv_ParseUint_j4 s1 base bitSize Q false))
def internal_strconv_ParseUint_j2 (s1 : Str) (base : Int) (bitSize : Int) (Q : Int → Int → Prop) (b_1 : Bool) : Prop :=
  (b_1 = true → internal_strconv_ParseUint_j1 s1 base bitSize Q s1 base) ∧ (b_1 = false → (base = 0 → ((0 : Int) ≤ 0 ∧ 0 < (s1.length : Int)) ∧ ((((gi s1 0).toNat : Int) = 48 → (3 ≤ (s1.length : Int) → ((0 : Int) ≤ 1 ∧ 1 < (s1.length : Int)) ∧ (internal_strconv_lower_W ((gi s1 1).toNat : Int) (fun r_1 => internal_strconv_ParseUint_j3 s1 base bitSize Q (decide (r_1 = 98))))) ∧ (¬ (3 ≤ (s1.length : Int)) → internal_strconv_ParseUint_j3 s1 base bitSize Q false)) ∧ (¬ (((gi s1 0).toNat : Int) = 48) → internal_strconv_ParseUint_j1 s1 base bitSize Q s1 10))) ∧ (¬ (base = 0) → Q 0 3))
def internal_strconv_ParseUint_W (s1 : Str) (base : Int) (bitSize : Int) (Q : Int → Int → Prop) : Prop :=
  ((s1 : Str) = [] → Q 0 2) ∧ (¬ ((s1 : Str) = []) → (2 ≤ base → internal_strconv_ParseUint_j2 s1 base bitSize Q (decide (base ≤ 36))) ∧ (¬ (2 ≤ base) → internal_strconv_ParseUint_j2 s1 base bitSize Q false))
set_option maxHeartbeats 40000000 in
set_option maxRecDepth 100000 in
theorem internal_strconv_ParseUint_walk {F : Fz} {fr : List Ow} {h0 : Heap} (s1 : Str) (base : Int) (bitSize : Int) (hS : St F (fr) h0)  {Q : Int → Int → Prop} (hM : internal_strconv_ParseUint_W s1 base bitSize Q) :
    HC Tryz.prog 53 #[.string (bs s1), .int .i64 base, .int .i64 bitSize] h0 fun u h' => ∃ (F' : Fz) (r0_1 : Int) (r1_1 : Int), u = .tuple #[.int .u64 r0_1, ifV 80 r1_1] ∧ Kp F h0 F' h' ∧ St F' (fr) h' ∧ Q r0_1 r1_1 := by
  unfold internal_strconv_ParseUint_W at hM
  have hK := Kp.refl F h0
  refine HC.of_HW (n := 172) Tryz.func53 rfl rfl (Nat.le_of_ble_eq_true rfl) ?_
  refine HW.seq ?_
  refine HW.region ?_
  refine HO.val (v := .int .u64 0) (want_none) rfl (q_assign rfl) ?_
  refine HO.val (v := .nilIface) (want_none) rfl (q_assign rfl) ?_
  refine HO.nil (thenQ_normal (?_))
  refine HW.seq ?_
  refine HW.seq ?_
  refine HW.region ?_
  refine HO.val (v := .string (bs s1)) (want_none) rfl (q_move rfl) ?_
  refine HO.val (v := .bool (decide ((s1 : Str) = []))) (want_none) rfl (q_eqlT rfl rfl) ?_
  refine HO.nil (thenQ_normal (?_))
  refine HW.cond (decide ((s1 : Str) = [])) rfl (fun c_1 => ?_) (fun c_1 => ?_)
  · replace hM := hM.1 (of_decide_eq_true c_1)
    refine HW.seq ?_
    refine HW.region ?_
    refine HO.val (v := .iface 80 (.int .i64 2)) (want_none) rfl (q_mkIface Tryz.underlying80 rfl) ?_
    refine HO.val (v := .int .u64 0) (want_none) rfl (q_assign rfl) ?_
    refine HO.val (v := .iface 80 (.int .i64 2)) (want_none) rfl (q_assign rfl) ?_
    refine HO.nil (thenQ_normal (?_))
    refine HW.ret (thenQ_ret (?_))
    refine ⟨.inr rfl, .tuple #[.int .u64 0, .iface 80 (.int .i64 2)], res2 rfl (rt rfl) (rt rfl), ?_⟩
    exact ⟨F, 0, 2, rfl, hK, hS, hM⟩
  · replace hM := hM.2 (of_decide_eq_false c_1)
    refine HW.skip (thenQ_normal (?_))
    refine HW.seq ?_
    refine HW.region ?_
    refine HO.val (v := .int .i64 base) (want_none) rfl (q_move rfl) ?_
    refine HO.val (v := .bool (decide (base = 0))) (want_none) rfl (q_eql rfl rfl) ?_
    refine HO.val (v := .bool (decide (base = 0))) (want_none) rfl (q_assign rfl) ?_
    refine HO.nil (thenQ_normal (?_))
    refine HW.seq ?_
    refine HW.region ?_
    refine HO.val (v := .string (bs s1)) (want_none) rfl (q_move rfl) ?_
    refine HO.val (v := .string (bs s1)) (want_none) rfl (q_assign rfl) ?_
    refine HO.nil (thenQ_normal (?_))
    refine HW.seq_mid (fun f h => ∃ (F' : Fz) (s_1 : Str) (base_1 : Int), f 0 = .string (bs s_1) ∧ f 1 = .int .i64 base_1 ∧ f 2 = .int .i64 bitSize ∧ f 6 = .int .u64 0 ∧ f 7 = .nilIface ∧ f 8 = .bool (decide (base = 0)) ∧ f 9 = .string (bs s1) ∧ Kp F h0 F' h ∧ St F' (fr) h ∧ internal_strconv_ParseUint_j1 s1 base bitSize Q s_1 base_1) ?_ ?_
    · refine HW.block ?_
      refine HW.seq_mid (fun f h => ∃ (F' : Fz) (b_1 : Bool), f 0 = .string (bs s1) ∧ f 1 = .int .i64 base ∧ f 2 = .int .i64 bitSize ∧ f 6 = .int .u64 0 ∧ f 7 = .nilIface ∧ f 8 = .bool (decide (base = 0)) ∧ f 9 = .string (bs s1) ∧ f 25 = .bool b_1 ∧ Kp F h0 F' h ∧ St F' (fr) h ∧ internal_strconv_ParseUint_j2 s1 base bitSize Q b_1) ?_ ?_
      · refine HW.region ?_
        refine HO.val (v := .int .i64 base) (want_none) rfl (q_move rfl) ?_
        refine HO.val (v := .bool (decide (2 ≤ base))) (want_none) rfl (q_leq rfl rfl) ?_
        refine HO.val (v := .bool (decide (2 ≤ base))) (want_none) rfl (q_move rfl) ?_
        rcases Bool.eq_false_or_eq_true (decide (2 ≤ base)) with c_2 | c_2
        · replace hM := hM.1 (of_decide_eq_true c_2)
          refine HO.val (v := .int .i64 base) (want_by rfl rfl c_2) rfl (q_move rfl) ?_
          refine HO.val (v := .bool (decide (base ≤ 36))) (want_by rfl rfl c_2) rfl (q_leq rfl rfl) ?_
          refine HO.val (v := .bool (decide (base ≤ 36))) (want_none) rfl (q_pickK true rfl c_2 rfl) ?_
          refine HO.val (v := .bool (decide (base ≤ 36))) (want_none) rfl (q_assign rfl) ?_
          refine HO.nil (thenQ_normal (?_))
          exact ⟨F, decide (base ≤ 36), rfl, rfl, rfl, rfl, rfl, rfl, rfl, rfl, hK, hS, hM⟩
        · replace hM := hM.2 (of_decide_eq_false c_2)
          refine HO.past (past_by rfl rfl c_2) rfl ?_
          refine HO.past (past_by rfl rfl c_2) rfl ?_
          refine HO.val (v := .bool false) (want_none) rfl (q_pickK false rfl c_2 rfl) ?_
          refine HO.val (v := .bool false) (want_none) rfl (q_assign rfl) ?_
          refine HO.nil (thenQ_normal (?_))
          exact ⟨F, false, rfl, rfl, rfl, rfl, rfl, rfl, rfl, rfl, hK, hS, hM⟩
      · rintro f_1 h_1 ⟨F_1, b_1, e0, e1, e2, e6, e7, e8, e9, e25, hK, hS, hM⟩
        unfold internal_strconv_ParseUint_j2 at hM
        refine HW.fr [(0, .string (bs s1)), (1, .int .i64 base), (2, .int .i64 bitSize), (6, .int .u64 0), (7, .nilIface), (8, .bool (decide (base = 0))), (9, .string (bs s1)), (25, .bool b_1)] ⟨e0, e1, e2, e6, e7, e8, e9, e25, trivial⟩ ?_
        refine HW.cond b_1 rfl (fun c_3 => ?_) (fun c_3 => ?_)
        · replace hM := hM.1 c_3
          refine HW.skip (blockQ_normal (thenQ_normal (?_)))
          exact ⟨F_1, s1, base, rfl, rfl, rfl, rfl, rfl, rfl, rfl, hK, hS, hM⟩
        · replace hM := hM.2 c_3
          refine HW.seq ?_
          refine HW.region ?_
          refine HO.val (v := .int .i64 base) (want_none) rfl (q_move rfl) ?_
          refine HO.val (v := .bool (decide (base = 0))) (want_none) rfl (q_eql rfl rfl) ?_
          refine HO.val (v := .bool (decide (base = 0))) (want_none) rfl (q_assign rfl) ?_
          refine HO.nil (thenQ_normal (?_))
          refine HW.cond (decide (base = 0)) rfl (fun c_4 => ?_) (fun c_4 => ?_)
          · replace hM := hM.1 (of_decide_eq_true c_4)
            refine HW.seq ?_
            refine HW.region ?_
            refine HO.val (v := .int .i64 10) (want_none) rfl (q_assign rfl) ?_
            refine HO.nil (thenQ_normal (?_))
            refine HW.seq ?_
            refine HW.region ?_
            refine HO.val (v := .string (bs s1)) (want_none) rfl (q_move rfl) ?_
            obtain ⟨ho_1, hM⟩ := hM
            refine HO.val (v := .int .u8 ((gi s1 0).toNat : Int)) (want_none) rfl (q_idxT Tryz.underlying9 rfl rfl ho_1) ?_
            refine HO.val (v := .bool (decide (((gi s1 0).toNat : Int) = 48))) (want_none) rfl (q_eql rfl rfl) ?_
            refine HO.nil (thenQ_normal (?_))
            refine HW.cond (decide (((gi s1 0).toNat : Int) = 48)) rfl (fun c_5 => ?_) (fun c_5 => ?_)
            · replace hM := hM.1 (of_decide_eq_true c_5)
              refine HW.block ?_
              refine HW.seq_mid (fun f h => ∃ (F' : Fz) (b_2 : Bool), f 0 = .string (bs s1) ∧ f 1 = .int .i64 10 ∧ f 2 = .int .i64 bitSize ∧ f 6 = .int .u64 0 ∧ f 7 = .nilIface ∧ f 8 = .bool (decide (base = 0)) ∧ f 9 = .string (bs s1) ∧ f 40 = .bool b_2 ∧ Kp F h0 F' h ∧ St F' (fr) h ∧ internal_strconv_ParseUint_j3 s1 base bitSize Q b_2) ?_ ?_
              · refine HW.region ?_
                refine HO.val (v := .string (bs s1)) (want_none) rfl (q_move rfl) ?_
                refine HO.val (v := .int .i64 (s1.length : Int)) (want_none) rfl (q_lenT Tryz.underlying9 rfl rfl) ?_
                refine HO.val (v := .bool (decide (3 ≤ (s1.length : Int)))) (want_none) rfl (q_geq rfl rfl) ?_
                refine HO.val (v := .bool (decide (3 ≤ (s1.length : Int)))) (want_none) rfl (q_move rfl) ?_
                rcases Bool.eq_false_or_eq_true (decide (3 ≤ (s1.length : Int))) with c_6 | c_6
                · replace hM := hM.1 (of_decide_eq_true c_6)
                  refine HO.val (v := .string (bs s1)) (want_by rfl rfl c_6) rfl (q_move rfl) ?_
                  obtain ⟨ho_2, hM⟩ := hM
                  refine HO.val (v := .int .u8 ((gi s1 1).toNat : Int)) (want_by rfl rfl c_6) rfl (q_idxT Tryz.underlying9 rfl rfl ho_2) ?_
                  refine HO.call (want_by rfl rfl c_6) rfl (ec en_67 rfl rfl) (internal_strconv_lower_walk (fr := (fr)) ((gi s1 1).toNat : Int) hS hM) ?_
                  rintro _ h_2 ⟨F_2, r_1, rfl, hk, hS, hM⟩
                  replace hK := hK.trans hk
                  refine HO.val (v := .bool (decide (r_1 = 98))) (want_by rfl rfl c_6) rfl (q_eql rfl rfl) ?_
                  refine HO.val (v := .bool (decide (r_1 = 98))) (want_none) rfl (q_pickK true rfl c_6 rfl) ?_
                  refine HO.val (v := .bool (decide (r_1 = 98))) (want_none) rfl (q_assign rfl) ?_
                  refine HO.nil (thenQ_normal (?_))
                  exact ⟨F_2, decide (r_1 = 98), rfl, rfl, rfl, rfl, rfl, rfl, rfl, rfl, hK, hS, hM⟩
                · replace hM := hM.2 (of_decide_eq_false c_6)
                  refine HO.past (past_by rfl rfl c_6) rfl ?_
                  refine HO.past (past_by rfl rfl c_6) rfl ?_
                  refine HO.past (past_by rfl rfl c_6) rfl ?_
                  refine HO.past (past_by rfl rfl c_6) rfl ?_
                  refine HO.val (v := .bool false) (want_none) rfl (q_pickK false rfl c_6 rfl) ?_
                  refine HO.val (v := .bool false) (want_none) rfl (q_assign rfl) ?_
                  refine HO.nil (thenQ_normal (?_))
                  exact ⟨F_1, false, rfl, rfl, rfl, rfl, rfl, rfl, rfl, rfl, hK, hS, hM⟩
              · rintro f_2 h_3 ⟨F_3, b_2, e0, e1, e2, e6, e7, e8, e9, e40, hK, hS, hM⟩
                unfold internal_strconv_ParseUint_j3 at hM
                refine HW.fr [(0, .string (bs s1)), (1, .int .i64 10), (2, .int .i64 bitSize), (6, .int .u64 0), (7, .nilIface), (8, .bool (decide (base = 0))), (9, .string (bs s1)), (40, .bool b_2)] ⟨e0, e1, e2, e6, e7, e8, e9, e40, trivial⟩ ?_
                refine HW.cond b_2 rfl (fun c_7 => ?_) (fun c_7 => ?_)
                · replace hM := hM.1 c_7
                  refine HW.seq ?_
                  refine HW.region ?_
                  refine HO.val (v := .int .i64 2) (want_none) rfl (q_assign rfl) ?_
                  refine HO.nil (thenQ_normal (?_))
                  refine HW.region ?_
                  refine HO.val (v := .string (bs s1)) (want_none) rfl (q_move rfl) ?_
                  obtain ⟨ho_3, hM⟩ := hM
                  refine HO.val (v := .string (bs (cut s1 2 (s1.length : Int)))) (want_none) rfl (q_strL Tryz.underlying9 rfl rfl ho_3) ?_
                  refine HO.val (v := .string (bs (cut s1 2 (s1.length : Int)))) (want_none) rfl (q_assign rfl) ?_
                  refine HO.nil (blockQ_normal (blockQ_normal (thenQ_normal (?_))))
                  exact ⟨F_3, cut s1 2 (s1.length : Int), 2, rfl, rfl, rfl, rfl, rfl, rfl, rfl, hK, hS, hM⟩
                · replace hM := hM.2 c_7
                  refine HW.seq_mid (fun f h => ∃ (F' : Fz) (b_3 : Bool), f 0 = .string (bs s1) ∧ f 1 = .int .i64 10 ∧ f 2 = .int .i64 bitSize ∧ f 6 = .int .u64 0 ∧ f 7 = .nilIface ∧ f 8 = .bool (decide (base = 0)) ∧ f 9 = .string (bs s1) ∧ f 52 = .bool b_3 ∧ Kp F h0 F' h ∧ St F' (fr) h ∧ internal_strconv_ParseUint_j4 s1 base bitSize Q b_3) ?_ ?_
                  · refine HW.region ?_
                    refine HO.val (v := .string (bs s1)) (want_none) rfl (q_move rfl) ?_
                    refine HO.val (v := .int .i64 (s1.length : Int)) (want_none) rfl (q_lenT Tryz.underlying9 rfl rfl) ?_
                    refine HO.val (v := .bool (decide (3 ≤ (s1.length : Int)))) (want_none) rfl (q_geq rfl rfl) ?_
                    refine HO.val (v := .bool (decide (3 ≤ (s1.length : Int)))) (want_none) rfl (q_move rfl) ?_
                    rcases Bool.eq_false_or_eq_true (decide (3 ≤ (s1.length : Int))) with c_8 | c_8
                    · replace hM := hM.1 (of_decide_eq_true c_8)
                      refine HO.val (v := .string (bs s1)) (want_by rfl rfl c_8) rfl (q_move rfl) ?_
                      obtain ⟨ho_4, hM⟩ := hM
                      refine HO.val (v := .int .u8 ((gi s1 1).toNat : Int)) (want_by rfl rfl c_8) rfl (q_idxT Tryz.underlying9 rfl rfl ho_4) ?_
                      refine HO.call (want_by rfl rfl c_8) rfl (ec en_67 rfl rfl) (internal_strconv_lower_walk (fr := (fr)) ((gi s1 1).toNat : Int) hS hM) ?_
                      rintro _ h_4 ⟨F_4, r_2, rfl, hk, hS, hM⟩
                      replace hK := hK.trans hk
                      refine HO.val (v := .bool (decide (r_2 = 111))) (want_by rfl rfl c_8) rfl (q_eql rfl rfl) ?_
                      refine HO.val (v := .bool (decide (r_2 = 111))) (want_none) rfl (q_pickK true rfl c_8 rfl) ?_
                      refine HO.val (v := .bool (decide (r_2 = 111))) (want_none) rfl (q_assign rfl) ?_
                      refine HO.nil (thenQ_normal (?_))
                      exact ⟨F_4, decide (r_2 = 111), rfl, rfl, rfl, rfl, rfl, rfl, rfl, rfl, hK, hS, hM⟩
                    · replace hM := hM.2 (of_decide_eq_false c_8)
                      refine HO.past (past_by rfl rfl c_8) rfl ?_
                      refine HO.past (past_by rfl rfl c_8) rfl ?_
                      refine HO.past (past_by rfl rfl c_8) rfl ?_
                      refine HO.past (past_by rfl rfl c_8) rfl ?_
                      refine HO.val (v := .bool false) (want_none) rfl (q_pickK false rfl c_8 rfl) ?_
                      refine HO.val (v := .bool false) (want_none) rfl (q_assign rfl) ?_
                      refine HO.nil (thenQ_normal (?_))
                      exact ⟨F_3, false, rfl, rfl, rfl, rfl, rfl, rfl, rfl, rfl, hK, hS, hM⟩
                  · rintro f_3 h_5 ⟨F_5, b_3, e0, e1, e2, e6, e7, e8, e9, e52, hK, hS, hM⟩
                    unfold internal_strconv_ParseUint_j4 at hM
                    refine HW.fr [(0, .string (bs s1)), (1, .int .i64 10), (2, .int .i64 bitSize), (6, .int .u64 0), (7, .nilIface), (8, .bool (decide (base = 0))), (9, .string (bs s1)), (52, .bool b_3)] ⟨e0, e1, e2, e6, e7, e8, e9, e52, trivial⟩ ?_
                    refine HW.cond b_3 rfl (fun c_9 => ?_) (fun c_9 => ?_)
                    · replace hM := hM.1 c_9
                      refine HW.seq ?_
                      refine HW.region ?_
                      refine HO.val (v := .int .i64 8) (want_none) rfl (q_assign rfl) ?_
                      refine HO.nil (thenQ_normal (?_))
                      refine HW.region ?_
                      refine HO.val (v := .string (bs s1)) (want_none) rfl (q_move rfl) ?_
                      obtain ⟨ho_5, hM⟩ := hM
                      refine HO.val (v := .string (bs (cut s1 2 (s1.length : Int)))) (want_none) rfl (q_strL Tryz.underlying9 rfl rfl ho_5) ?_
                      refine HO.val (v := .string (bs (cut s1 2 (s1.length : Int)))) (want_none) rfl (q_assign rfl) ?_
                      refine HO.nil (blockQ_normal (blockQ_normal (thenQ_normal (?_))))
                      exact ⟨F_5, cut s1 2 (s1.length : Int), 8, rfl, rfl, rfl, rfl, rfl, rfl, rfl, hK, hS, hM⟩
                    · replace hM := hM.2 c_9
                      refine HW.seq_mid (fun f h => ∃ (F' : Fz) (b_4 : Bool), f 0 = .string (bs s1) ∧ f 1 = .int .i64 10 ∧ f 2 = .int .i64 bitSize ∧ f 6 = .int .u64 0 ∧ f 7 = .nilIface ∧ f 8 = .bool (decide (base = 0)) ∧ f 9 = .string (bs s1) ∧ f 64 = .bool b_4 ∧ Kp F h0 F' h ∧ St F' (fr) h ∧ internal_strconv_ParseUint_j5 s1 base bitSize Q b_4) ?_ ?_
                      · refine HW.region ?_
                        refine HO.val (v := .string (bs s1)) (want_none) rfl (q_move rfl) ?_
                        refine HO.val (v := .int .i64 (s1.length : Int)) (want_none) rfl (q_lenT Tryz.underlying9 rfl rfl) ?_
                        refine HO.val (v := .bool (decide (3 ≤ (s1.length : Int)))) (want_none) rfl (q_geq rfl rfl) ?_
                        refine HO.val (v := .bool (decide (3 ≤ (s1.length : Int)))) (want_none) rfl (q_move rfl) ?_
                        rcases Bool.eq_false_or_eq_true (decide (3 ≤ (s1.length : Int))) with c_10 | c_10
                        · replace hM := hM.1 (of_decide_eq_true c_10)
                          refine HO.val (v := .string (bs s1)) (want_by rfl rfl c_10) rfl (q_move rfl) ?_
                          obtain ⟨ho_6, hM⟩ := hM
                          refine HO.val (v := .int .u8 ((gi s1 1).toNat : Int)) (want_by rfl rfl c_10) rfl (q_idxT Tryz.underlying9 rfl rfl ho_6) ?_
                          refine HO.call (want_by rfl rfl c_10) rfl (ec en_67 rfl rfl) (internal_strconv_lower_walk (fr := (fr)) ((gi s1 1).toNat : Int) hS hM) ?_
                          rintro _ h_6 ⟨F_6, r_3, rfl, hk, hS, hM⟩
                          replace hK := hK.trans hk
                          refine HO.val (v := .bool (decide (r_3 = 120))) (want_by rfl rfl c_10) rfl (q_eql rfl rfl) ?_
                          refine HO.val (v := .bool (decide (r_3 = 120))) (want_none) rfl (q_pickK true rfl c_10 rfl) ?_
                          refine HO.val (v := .bool (decide (r_3 = 120))) (want_none) rfl (q_assign rfl) ?_
                          refine HO.nil (thenQ_normal (?_))
                          exact ⟨F_6, decide (r_3 = 120), rfl, rfl, rfl, rfl, rfl, rfl, rfl, rfl, hK, hS, hM⟩
                        · replace hM := hM.2 (of_decide_eq_false c_10)
                          refine HO.past (past_by rfl rfl c_10) rfl ?_
                          refine HO.past (past_by rfl rfl c_10) rfl ?_
                          refine HO.past (past_by rfl rfl c_10) rfl ?_
                          refine HO.past (past_by rfl rfl c_10) rfl ?_
                          refine HO.val (v := .bool false) (want_none) rfl (q_pickK false rfl c_10 rfl) ?_
                          refine HO.val (v := .bool false) (want_none) rfl (q_assign rfl) ?_
                          refine HO.nil (thenQ_normal (?_))
                          exact ⟨F_5, false, rfl, rfl, rfl, rfl, rfl, rfl, rfl, rfl, hK, hS, hM⟩
                      · rintro f_4 h_7 ⟨F_7, b_4, e0, e1, e2, e6, e7, e8, e9, e64, hK, hS, hM⟩
                        unfold internal_strconv_ParseUint_j5 at hM
                        refine HW.fr [(0, .string (bs s1)), (1, .int .i64 10), (2, .int .i64 bitSize), (6, .int .u64 0), (7, .nilIface), (8, .bool (decide (base = 0))), (9, .string (bs s1)), (64, .bool b_4)] ⟨e0, e1, e2, e6, e7, e8, e9, e64, trivial⟩ ?_
                        refine HW.cond b_4 rfl (fun c_11 => ?_) (fun c_11 => ?_)
                        · replace hM := hM.1 c_11
                          refine HW.seq ?_
                          refine HW.region ?_
                          refine HO.val (v := .int .i64 16) (want_none) rfl (q_assign rfl) ?_
                          refine HO.nil (thenQ_normal (?_))
                          refine HW.region ?_
                          refine HO.val (v := .string (bs s1)) (want_none) rfl (q_move rfl) ?_
                          obtain ⟨ho_7, hM⟩ := hM
                          refine HO.val (v := .string (bs (cut s1 2 (s1.length : Int)))) (want_none) rfl (q_strL Tryz.underlying9 rfl rfl ho_7) ?_
                          refine HO.val (v := .string (bs (cut s1 2 (s1.length : Int)))) (want_none) rfl (q_assign rfl) ?_
                          refine HO.nil (blockQ_normal (blockQ_normal (thenQ_normal (?_))))
                          exact ⟨F_7, cut s1 2 (s1.length : Int), 16, rfl, rfl, rfl, rfl, rfl, rfl, rfl, hK, hS, hM⟩
                        · replace hM := hM.2 c_11
                          refine HW.seq ?_
                          refine HW.region ?_
                          refine HO.val (v := .int .i64 8) (want_none) rfl (q_assign rfl) ?_
                          refine HO.nil (thenQ_normal (?_))
                          refine HW.region ?_
                          refine HO.val (v := .string (bs s1)) (want_none) rfl (q_move rfl) ?_
                          obtain ⟨ho_8, hM⟩ := hM
                          refine HO.val (v := .string (bs (cut s1 1 (s1.length : Int)))) (want_none) rfl (q_strL Tryz.underlying9 rfl rfl ho_8) ?_
                          refine HO.val (v := .string (bs (cut s1 1 (s1.length : Int)))) (want_none) rfl (q_assign rfl) ?_
                          refine HO.nil (blockQ_normal (blockQ_normal (thenQ_normal (?_))))
                          exact ⟨F_7, cut s1 1 (s1.length : Int), 8, rfl, rfl, rfl, rfl, rfl, rfl, rfl, hK, hS, hM⟩
            · replace hM := hM.2 (of_decide_eq_false c_5)
              refine HW.skip (blockQ_normal (thenQ_normal (?_)))
              exact ⟨F_1, s1, 10, rfl, rfl, rfl, rfl, rfl, rfl, rfl, hK, hS, hM⟩
          · replace hM := hM.2 (of_decide_eq_false c_4)
            refine HW.seq ?_
            refine HW.region ?_
            refine HO.val (v := .iface 80 (.int .i64 3)) (want_none) rfl (q_mkIface Tryz.underlying80 rfl) ?_
            refine HO.val (v := .int .u64 0) (want_none) rfl (q_assign rfl) ?_
            refine HO.val (v := .iface 80 (.int .i64 3)) (want_none) rfl (q_assign rfl) ?_
            refine HO.nil (thenQ_normal (?_))
            refine HW.ret (blockQ_ret (thenQ_ret (?_)))
            refine ⟨.inr rfl, .tuple #[.int .u64 0, .iface 80 (.int .i64 3)], res2 rfl (rt rfl) (rt rfl), ?_⟩
            exact ⟨F_1, 0, 3, rfl, hK, hS, hM⟩
    · rintro f_5 h_8 ⟨F_8, s_1, base_1, e0, e1, e2, e6, e7, e8, e9, hK, hS, hM⟩
      unfold internal_strconv_ParseUint_j1 at hM
      refine HW.fr [(0, .string (bs s_1)), (1, .int .i64 base_1), (2, .int .i64 bitSize), (6, .int .u64 0), (7, .nilIface), (8, .bool (decide (base = 0))), (9, .string (bs s1))] ⟨e0, e1, e2, e6, e7, e8, e9, trivial⟩ ?_
      refine HW.seq_mid (fun f h => ∃ (F' : Fz) (bitSize_1 : Int), f 0 = .string (bs s_1) ∧ f 1 = .int .i64 base_1 ∧ f 2 = .int .i64 bitSize_1 ∧ f 6 = .int .u64 0 ∧ f 7 = .nilIface ∧ f 8 = .bool (decide (base = 0)) ∧ f 9 = .string (bs s1) ∧ Kp F h0 F' h ∧ St F' (fr) h ∧ internal_strconv_ParseUint_j6 s1 base Q s_1 base_1 bitSize_1) ?_ ?_
      · refine HW.seq ?_
        refine HW.region ?_
        refine HO.val (v := .int .i64 bitSize) (want_none) rfl (q_move rfl) ?_
        refine HO.val (v := .bool (decide (bitSize = 0))) (want_none) rfl (q_eql rfl rfl) ?_
        refine HO.nil (thenQ_normal (?_))
        refine HW.cond (decide (bitSize = 0)) rfl (fun c_12 => ?_) (fun c_12 => ?_)
        · replace hM := hM.1 (of_decide_eq_true c_12)
          refine HW.region ?_
          refine HO.val (v := .int .i64 64) (want_none) rfl (q_assign rfl) ?_
          refine HO.nil (thenQ_normal (?_))
          exact ⟨F_8, 64, rfl, rfl, rfl, rfl, rfl, rfl, rfl, hK, hS, hM⟩
        · replace hM := hM.2 (of_decide_eq_false c_12)
          refine HW.seq ?_
          refine HW.region ?_
          refine HO.val (v := .int .i64 bitSize) (want_none) rfl (q_move rfl) ?_
          refine HO.val (v := .bool (decide (bitSize < 0))) (want_none) rfl (q_lss rfl rfl) ?_
          refine HO.val (v := .bool (decide (bitSize < 0))) (want_none) rfl (q_move rfl) ?_
          rcases Bool.eq_false_or_eq_true (decide (bitSize < 0)) with c_13 | c_13
          · replace hM := hM.1 (of_decide_eq_true c_13)
            refine HO.past (past_by rfl rfl c_13) rfl ?_
            refine HO.past (past_by rfl rfl c_13) rfl ?_
            refine HO.val (v := .bool true) (want_none) rfl (q_pickK true rfl c_13 rfl) ?_
            refine HO.nil (thenQ_normal (?_))
            refine HW.condT rfl ?_
            refine HW.seq ?_
            refine HW.region ?_
            refine HO.val (v := .iface 80 (.int .i64 4)) (want_none) rfl (q_mkIface Tryz.underlying80 rfl) ?_
            refine HO.val (v := .int .u64 0) (want_none) rfl (q_assign rfl) ?_
            refine HO.val (v := .iface 80 (.int .i64 4)) (want_none) rfl (q_assign rfl) ?_
            refine HO.nil (thenQ_normal (?_))
            refine HW.ret (thenQ_ret (?_))
            refine ⟨.inr rfl, .tuple #[.int .u64 0, .iface 80 (.int .i64 4)], res2 rfl (rt rfl) (rt rfl), ?_⟩
            exact ⟨F_8, 0, 4, rfl, hK, hS, hM⟩
          · replace hM := hM.2 (of_decide_eq_false c_13)
            refine HO.val (v := .int .i64 bitSize) (want_by rfl rfl c_13) rfl (q_move rfl) ?_
            refine HO.val (v := .bool (decide (64 < bitSize))) (want_by rfl rfl c_13) rfl (q_gtr rfl rfl) ?_
            refine HO.val (v := .bool (decide (64 < bitSize))) (want_none) rfl (q_pickK false rfl c_13 rfl) ?_
            refine HO.nil (thenQ_normal (?_))
            refine HW.cond (decide (64 < bitSize)) rfl (fun c_14 => ?_) (fun c_14 => ?_)
            · replace hM := hM.1 (of_decide_eq_true c_14)
              refine HW.seq ?_
              refine HW.region ?_
              refine HO.val (v := .iface 80 (.int .i64 4)) (want_none) rfl (q_mkIface Tryz.underlying80 rfl) ?_
              refine HO.val (v := .int .u64 0) (want_none) rfl (q_assign rfl) ?_
              refine HO.val (v := .iface 80 (.int .i64 4)) (want_none) rfl (q_assign rfl) ?_
              refine HO.nil (thenQ_normal (?_))
              refine HW.ret (thenQ_ret (?_))
              refine ⟨.inr rfl, .tuple #[.int .u64 0, .iface 80 (.int .i64 4)], res2 rfl (rt rfl) (rt rfl), ?_⟩
              exact ⟨F_8, 0, 4, rfl, hK, hS, hM⟩
            · replace hM := hM.2 (of_decide_eq_false c_14)
              refine HW.skip (thenQ_normal (?_))
              exact ⟨F_8, bitSize, rfl, rfl, rfl, rfl, rfl, rfl, rfl, hK, hS, hM⟩
      · rintro f_6 h_9 ⟨F_9, bitSize_1, e0, e1, e2, e6, e7, e8, e9, hK, hS, hM⟩
        unfold internal_strconv_ParseUint_j6 at hM
        refine HW.fr [(0, .string (bs s_1)), (1, .int .i64 base_1), (2, .int .i64 bitSize_1), (6, .int .u64 0), (7, .nilIface), (8, .bool (decide (base = 0))), (9, .string (bs s1))] ⟨e0, e1, e2, e6, e7, e8, e9, trivial⟩ ?_
        refine HW.seq ?_
        refine HW.region ?_
        refine HO.val (v := .int .u64 0) (want_none) rfl (q_assign rfl) ?_
        refine HO.nil (thenQ_normal (?_))
        refine HW.seq_mid (fun f h => ∃ (F' : Fz) (cutoff_1 : Int), f 0 = .string (bs s_1) ∧ f 1 = .int .i64 base_1 ∧ f 2 = .int .i64 bitSize_1 ∧ f 6 = .int .u64 0 ∧ f 7 = .nilIface ∧ f 8 = .bool (decide (base = 0)) ∧ f 9 = .string (bs s1) ∧ f 10 = .int .u64 cutoff_1 ∧ Kp F h0 F' h ∧ St F' (fr) h ∧ internal_strconv_ParseUint_j7 s1 base Q s_1 base_1 bitSize_1 cutoff_1) ?_ ?_
        · refine HW.seq ?_
          refine HW.region ?_
          refine HO.val (v := .int .i64 base_1) (want_none) rfl (q_move rfl) ?_
          refine HO.nil (thenQ_normal (?_))
          refine HW.block ?_
          refine HW.seq ?_
          refine HW.region ?_
          refine HO.val (v := .bool (decide (base_1 = 10))) (want_none) rfl (q_eql rfl rfl) ?_
          refine HO.val (v := .bool (decide (base_1 = 10))) (want_none) rfl (q_assign rfl) ?_
          refine HO.nil (thenQ_normal (?_))
          refine HW.cond (decide (base_1 = 10)) rfl (fun c_15 => ?_) (fun c_15 => ?_)
          · replace hM := hM.1 (of_decide_eq_true c_15)
            refine HW.region ?_
            refine HO.val (v := .int .u64 1844674407370955162) (want_none) rfl (q_assign rfl) ?_
            refine HO.nil (blockQ_normal (thenQ_normal (?_)))
            exact ⟨F_9, 1844674407370955162, rfl, rfl, rfl, rfl, rfl, rfl, rfl, rfl, hK, hS, hM⟩
          · replace hM := hM.2 (of_decide_eq_false c_15)
            refine HW.seq ?_
            refine HW.region ?_
            refine HO.val (v := .bool (decide (base_1 = 16))) (want_none) rfl (q_eql rfl rfl) ?_
            refine HO.val (v := .bool (decide (base_1 = 16))) (want_none) rfl (q_assign rfl) ?_
            refine HO.nil (thenQ_normal (?_))
            refine HW.cond (decide (base_1 = 16)) rfl (fun c_16 => ?_) (fun c_16 => ?_)
            · replace hM := hM.1 (of_decide_eq_true c_16)
              refine HW.region ?_
              refine HO.val (v := .int .u64 1152921504606846976) (want_none) rfl (q_assign rfl) ?_
              refine HO.nil (blockQ_normal (thenQ_normal (?_)))
              exact ⟨F_9, 1152921504606846976, rfl, rfl, rfl, rfl, rfl, rfl, rfl, rfl, hK, hS, hM⟩
            · replace hM := hM.2 (of_decide_eq_false c_16)
              refine HW.region ?_
              refine HO.val (v := .int .i64 base_1) (want_none) rfl (q_move rfl) ?_
              refine HO.val (v := .int .u64 (IntKind.u64.wrap base_1)) (want_none) rfl (q_convInt (n := base_1) Tryz.underlying3 Tryz.underlying51 rfl rfl) ?_
              obtain ⟨ho_9, hM⟩ := hM
              refine HO.val (v := .int .u64 (IntKind.u64.wrap ((18446744073709551615 : Int).tdiv (IntKind.u64.wrap base_1)))) (want_none) rfl (q_quo rfl rfl ho_9) ?_
              refine HO.val (v := .int .u64 (IntKind.u64.wrap ((IntKind.u64.wrap ((18446744073709551615 : Int).tdiv (IntKind.u64.wrap base_1))) + 1))) (want_none) rfl (q_add rfl rfl) ?_
              refine HO.val (v := .int .u64 (IntKind.u64.wrap ((IntKind.u64.wrap ((18446744073709551615 : Int).tdiv (IntKind.u64.wrap base_1))) + 1))) (want_none) rfl (q_assign rfl) ?_
              refine HO.nil (blockQ_normal (thenQ_normal (?_)))
              exact ⟨F_9, IntKind.u64.wrap ((IntKind.u64.wrap ((18446744073709551615 : Int).tdiv (IntKind.u64.wrap base_1))) + 1), rfl, rfl, rfl, rfl, rfl, rfl, rfl, rfl, hK, hS, hM⟩
        · rintro f_7 h_10 ⟨F_10, cutoff_1, e0, e1, e2, e6, e7, e8, e9, e10, hK, hS, hM⟩
          unfold internal_strconv_ParseUint_j7 at hM
          refine HW.fr [(0, .string (bs s_1)), (1, .int .i64 base_1), (2, .int .i64 bitSize_1), (6, .int .u64 0), (7, .nilIface), (8, .bool (decide (base = 0))), (9, .string (bs s1)), (10, .int .u64 cutoff_1)] ⟨e0, e1, e2, e6, e7, e8, e9, e10, trivial⟩ ?_
          refine HW.seq ?_
          refine HW.region ?_
          refine HO.val (v := .int .i64 bitSize_1) (want_none) rfl (q_move rfl) ?_
          refine HO.val (v := .int .u64 (IntKind.u64.wrap bitSize_1)) (want_none) rfl (q_convInt (n := bitSize_1) Tryz.underlying3 Tryz.underlying37 rfl rfl) ?_
          obtain ⟨ho_10, hM⟩ := hM
          refine HO.val (v := .int .u64 (IntKind.u64.wrap ((1 : Int) * 2 ^ (min (IntKind.u64.wrap bitSize_1).toNat IntKind.u64.bits)))) (want_none) rfl (q_shl rfl rfl ho_10 rfl) ?_
          refine HO.val (v := .int .u64 (IntKind.u64.wrap ((IntKind.u64.wrap ((1 : Int) * 2 ^ (min (IntKind.u64.wrap bitSize_1).toNat IntKind.u64.bits))) - 1))) (want_none) rfl (q_sub rfl rfl) ?_
          refine HO.val (v := .int .u64 (IntKind.u64.wrap ((IntKind.u64.wrap ((1 : Int) * 2 ^ (min (IntKind.u64.wrap bitSize_1).toNat IntKind.u64.bits))) - 1))) (want_none) rfl (q_assign rfl) ?_
          refine HO.nil (thenQ_normal (?_))
          refine HW.seq ?_
          refine HW.region ?_
          refine HO.val (v := .bool false) (want_none) rfl (q_assign rfl) ?_
          refine HO.nil (thenQ_normal (?_))
          refine HW.seq ?_
          refine HW.region ?_
          refine HO.val (v := .int .u64 0) (want_none) rfl (q_assign rfl) ?_
          refine HO.nil (thenQ_normal (?_))
          refine HW.seq ?_
          refine HW.seq ?_
          refine HW.region ?_
          refine HO.val (v := .string (bs s_1)) (want_none) rfl (q_move rfl) ?_
          obtain ⟨ho_11, hM⟩ := hM
          refine HO.eff (want_none) rfl (st_strBytes hS Tryz.underlying9 Tryz.underlying36 Tryz.underlying5 rfl ho_11) ?_
          rintro v_1 h_11 ⟨F_11, hS, hk, hL_1⟩
          replace hK := hK.trans hk
          refine HO.val (v := .int .i64 (s_1.length : Int)) (want_none) rfl (q_len ts_36 (shp hL_1.is) rfl rfl) ?_
          refine HO.val (v := .int .i64 0) (want_none) rfl (q_move rfl) ?_
          refine HO.nil (thenQ_normal (?_))
          refine HW.block ?_
          obtain ⟨I_1, m_1, hI_1, hR_1⟩ := hM
          refine HW.loop (S := Bool × Int × Int) (fun s f h => match s with | (underscores_1, n_1, n_2) => ∃ (F' : Fz), f 1 = .int .i64 base_1 ∧ f 6 = .int .u64 0 ∧ f 7 = .nilIface ∧ f 8 = .bool (decide (base = 0)) ∧ f 9 = .string (bs s1) ∧ f 10 = .int .u64 cutoff_1 ∧ f 11 = .int .u64 (IntKind.u64.wrap ((IntKind.u64.wrap ((1 : Int) * 2 ^ (min (IntKind.u64.wrap bitSize_1).toNat IntKind.u64.bits))) - 1)) ∧ f 12 = .bool underscores_1 ∧ f 13 = .int .u64 n_1 ∧ f 99 = v_1 ∧ f 100 = .int .i64 (s_1.length : Int) ∧ f 101 = .int .i64 n_2 ∧ Kp F h0 F' h ∧ St F' (fr) h ∧ (SliceF F' h 1 enc8 v_1 s_1) ∧ I_1 (underscores_1, n_1, n_2)) m_1 (false, 0, 0) ⟨F_11, rfl, rfl, rfl, rfl, rfl, rfl, rfl, rfl, rfl, rfl, rfl, rfl, hK, hS, hL_1, hI_1⟩ ?_
          rintro ⟨underscores_1, n_1, n_2⟩ f_8 h_12 ⟨F_12, e1, e6, e7, e8, e9, e10, e11, e12, e13, e99, e100, e101, hK, hS, hL_1, hI0⟩
          obtain ⟨K_1, hKe_1⟩ : ∃ K : Bool → Int → Int → Prop, K = fun underscores_1' n_1' n_2' => I_1 (underscores_1', n_1', n_2') ∧ m_1 (underscores_1', n_1', n_2') < m_1 (underscores_1, n_1, n_2) := ⟨_, rfl⟩
          have hM : internal_strconv_ParseUint_l1 s1 base Q s_1 base_1 bitSize_1 cutoff_1 K_1 underscores_1 n_1 n_2 := by rw [hKe_1]; exact hR_1 (underscores_1, n_1, n_2) hI0
          unfold internal_strconv_ParseUint_l1 at hM
          refine HW.fr [(1, .int .i64 base_1), (6, .int .u64 0), (7, .nilIface), (8, .bool (decide (base = 0))), (9, .string (bs s1)), (10, .int .u64 cutoff_1), (11, .int .u64 (IntKind.u64.wrap ((IntKind.u64.wrap ((1 : Int) * 2 ^ (min (IntKind.u64.wrap bitSize_1).toNat IntKind.u64.bits))) - 1))), (12, .bool underscores_1), (13, .int .u64 n_1), (99, v_1), (100, .int .i64 (s_1.length : Int)), (101, .int .i64 n_2)] ⟨e1, e6, e7, e8, e9, e10, e11, e12, e13, e99, e100, e101, trivial⟩ ?_
          refine HW.seq ?_
          refine HW.region ?_
          refine HO.val (v := .bool (decide (n_2 < (s_1.length : Int)))) (want_none) rfl (q_lss rfl rfl) ?_
          refine HO.nil (thenQ_normal (?_))
          refine HW.seq ?_
          refine HW.cond (decide (n_2 < (s_1.length : Int))) rfl (fun c_17 => ?_) (fun c_17 => ?_)
          · replace hM := hM.1 (of_decide_eq_true c_17)
            refine HW.skip (thenQ_normal (?_))
            refine HW.seq ?_
            refine HW.block ?_
            refine HW.seq ?_
            refine HW.region ?_
            obtain ⟨ho_12, hM⟩ := hM
            refine HO.val (v := elemPtr 1 v_1 (n_2).toNat) (want_none) rfl (q_idx ts_36 hL_1.is rfl rfl ho_12) ?_
            refine HO.val (v := .int .u8 ((gi s_1 n_2).toNat : Int)) (want_none) rfl (q_ldElem to_5 hL_1.is rfl ho_12 rfl) ?_
            refine HO.val (v := .int .u8 ((gi s_1 n_2).toNat : Int)) (want_none) rfl (q_assign rfl) ?_
            refine HO.nil (thenQ_normal (?_))
            refine HW.seq ?_
            refine HW.region ?_
            refine HO.val (v := .int .u8 0) (want_none) rfl (q_assign rfl) ?_
            refine HO.nil (thenQ_normal (?_))
            refine HW.seq_mid (fun f h => ∃ (F' : Fz) (d_1 : Int), f 1 = .int .i64 base_1 ∧ f 6 = .int .u64 0 ∧ f 7 = .nilIface ∧ f 8 = .bool (decide (base = 0)) ∧ f 9 = .string (bs s1) ∧ f 10 = .int .u64 cutoff_1 ∧ f 11 = .int .u64 (IntKind.u64.wrap ((IntKind.u64.wrap ((1 : Int) * 2 ^ (min (IntKind.u64.wrap bitSize_1).toNat IntKind.u64.bits))) - 1)) ∧ f 12 = .bool underscores_1 ∧ f 13 = .int .u64 n_1 ∧ f 16 = .int .u8 d_1 ∧ f 99 = v_1 ∧ f 100 = .int .i64 (s_1.length : Int) ∧ f 101 = .int .i64 n_2 ∧ Kp F h0 F' h ∧ St F' (fr) h ∧ (SliceF F' h 1 enc8 v_1 s_1) ∧ internal_strconv_ParseUint_j8 Q base_1 bitSize_1 cutoff_1 underscores_1 n_1 n_2 K_1 d_1) ?_ ?_
            · refine HW.block ?_
              refine HW.seq_mid (fun f h => ∃ (F' : Fz) (b_5 : Bool), f 1 = .int .i64 base_1 ∧ f 6 = .int .u64 0 ∧ f 7 = .nilIface ∧ f 8 = .bool (decide (base = 0)) ∧ f 9 = .string (bs s1) ∧ f 10 = .int .u64 cutoff_1 ∧ f 11 = .int .u64 (IntKind.u64.wrap ((IntKind.u64.wrap ((1 : Int) * 2 ^ (min (IntKind.u64.wrap bitSize_1).toNat IntKind.u64.bits))) - 1)) ∧ f 12 = .bool underscores_1 ∧ f 13 = .int .u64 n_1 ∧ f 15 = .int .u8 ((gi s_1 n_2).toNat : Int) ∧ f 16 = .int .u8 0 ∧ f 99 = v_1 ∧ f 100 = .int .i64 (s_1.length : Int) ∧ f 101 = .int .i64 n_2 ∧ f 106 = .bool b_5 ∧ Kp F h0 F' h ∧ St F' (fr) h ∧ (SliceF F' h 1 enc8 v_1 s_1) ∧ internal_strconv_ParseUint_j9 Q s_1 base_1 bitSize_1 cutoff_1 underscores_1 n_1 n_2 K_1 b_5) ?_ ?_
              · refine HW.region ?_
                refine HO.val (v := .int .u8 ((gi s_1 n_2).toNat : Int)) (want_none) rfl (q_move rfl) ?_
                refine HO.val (v := .bool (decide (((gi s_1 n_2).toNat : Int) = 95))) (want_none) rfl (q_eql rfl rfl) ?_
                refine HO.val (v := .bool (decide (((gi s_1 n_2).toNat : Int) = 95))) (want_none) rfl (q_move rfl) ?_
                rcases Bool.eq_false_or_eq_true (decide (((gi s_1 n_2).toNat : Int) = 95)) with c_18 | c_18
                · replace hM := hM.1 (of_decide_eq_true c_18)
                  refine HO.val (v := .bool (decide (base = 0))) (want_by rfl rfl c_18) rfl (q_move rfl) ?_
                  refine HO.val (v := .bool (decide (base = 0))) (want_none) rfl (q_pickK true rfl c_18 rfl) ?_
                  refine HO.val (v := .bool (decide (base = 0))) (want_none) rfl (q_assign rfl) ?_
                  refine HO.nil (thenQ_normal (?_))
                  exact ⟨F_12, decide (base = 0), rfl, rfl, rfl, rfl, rfl, rfl, rfl, rfl, rfl, rfl, rfl, rfl, rfl, rfl, rfl, hK, hS, hL_1, hM⟩
                · replace hM := hM.2 (of_decide_eq_false c_18)
                  refine HO.past (past_by rfl rfl c_18) rfl ?_
                  refine HO.val (v := .bool false) (want_none) rfl (q_pickK false rfl c_18 rfl) ?_
                  refine HO.val (v := .bool false) (want_none) rfl (q_assign rfl) ?_
                  refine HO.nil (thenQ_normal (?_))
                  exact ⟨F_12, false, rfl, rfl, rfl, rfl, rfl, rfl, rfl, rfl, rfl, rfl, rfl, rfl, rfl, rfl, rfl, hK, hS, hL_1, hM⟩
              · rintro f_9 h_13 ⟨F_13, b_5, e1, e6, e7, e8, e9, e10, e11, e12, e13, e15, e16, e99, e100, e101, e106, hK, hS, hL_1, hM⟩
                unfold internal_strconv_ParseUint_j9 at hM
                refine HW.fr [(1, .int .i64 base_1), (6, .int .u64 0), (7, .nilIface), (8, .bool (decide (base = 0))), (9, .string (bs s1)), (10, .int .u64 cutoff_1), (11, .int .u64 (IntKind.u64.wrap ((IntKind.u64.wrap ((1 : Int) * 2 ^ (min (IntKind.u64.wrap bitSize_1).toNat IntKind.u64.bits))) - 1))), (12, .bool underscores_1), (13, .int .u64 n_1), (15, .int .u8 ((gi s_1 n_2).toNat : Int)), (16, .int .u8 0), (99, v_1), (100, .int .i64 (s_1.length : Int)), (101, .int .i64 n_2), (106, .bool b_5)] ⟨e1, e6, e7, e8, e9, e10, e11, e12, e13, e15, e16, e99, e100, e101, e106, trivial⟩ ?_
                refine HW.cond b_5 rfl (fun c_19 => ?_) (fun c_19 => ?_)
                · replace hM := hM.1 c_19
                  refine HW.seq ?_
                  refine HW.region ?_
                  refine HO.val (v := .bool true) (want_none) rfl (q_assign rfl) ?_
                  refine HO.nil (thenQ_normal (?_))
                  refine HW.exit (blockQ_pass rfl (thenQ_exit (blockQ_exit (thenQ_normal (?_)))))
                  refine HW.region ?_
                  obtain ⟨ho_13, hM⟩ := hM
                  refine HO.val (v := .int .i64 (n_2 + 1)) (want_none) rfl (q_addN _ rfl rfl rfl ho_13.1 ho_13.2) ?_
                  refine HO.val (v := .int .i64 (n_2 + 1)) (want_none) rfl (q_move rfl) ?_
                  refine HO.nil (thenQ_normal (?_))
                  rw [hKe_1] at hM
                  exact ⟨(true, n_1, n_2 + 1), ⟨F_13, rfl, rfl, rfl, rfl, rfl, rfl, rfl, rfl, rfl, rfl, rfl, rfl, hK, hS, hL_1, hM.1⟩, hM.2⟩
                · replace hM := hM.2 c_19
                  refine HW.seq_mid (fun f h => ∃ (F' : Fz) (b_6 : Bool), f 1 = .int .i64 base_1 ∧ f 6 = .int .u64 0 ∧ f 7 = .nilIface ∧ f 8 = .bool (decide (base = 0)) ∧ f 9 = .string (bs s1) ∧ f 10 = .int .u64 cutoff_1 ∧ f 11 = .int .u64 (IntKind.u64.wrap ((IntKind.u64.wrap ((1 : Int) * 2 ^ (min (IntKind.u64.wrap bitSize_1).toNat IntKind.u64.bits))) - 1)) ∧ f 12 = .bool underscores_1 ∧ f 13 = .int .u64 n_1 ∧ f 15 = .int .u8 ((gi s_1 n_2).toNat : Int) ∧ f 16 = .int .u8 0 ∧ f 99 = v_1 ∧ f 100 = .int .i64 (s_1.length : Int) ∧ f 101 = .int .i64 n_2 ∧ f 112 = .bool b_6 ∧ Kp F h0 F' h ∧ St F' (fr) h ∧ (SliceF F' h 1 enc8 v_1 s_1) ∧ internal_strconv_ParseUint_j10 Q s_1 base_1 bitSize_1 cutoff_1 underscores_1 n_1 n_2 K_1 b_6) ?_ ?_
                  · refine HW.region ?_
                    refine HO.val (v := .int .u8 ((gi s_1 n_2).toNat : Int)) (want_none) rfl (q_move rfl) ?_
                    refine HO.val (v := .bool (decide (48 ≤ ((gi s_1 n_2).toNat : Int)))) (want_none) rfl (q_leq rfl rfl) ?_
                    refine HO.val (v := .bool (decide (48 ≤ ((gi s_1 n_2).toNat : Int)))) (want_none) rfl (q_move rfl) ?_
                    rcases Bool.eq_false_or_eq_true (decide (48 ≤ ((gi s_1 n_2).toNat : Int))) with c_20 | c_20
                    · replace hM := hM.1 (of_decide_eq_true c_20)
                      refine HO.val (v := .int .u8 ((gi s_1 n_2).toNat : Int)) (want_by rfl rfl c_20) rfl (q_move rfl) ?_
                      refine HO.val (v := .bool (decide (((gi s_1 n_2).toNat : Int) ≤ 57))) (want_by rfl rfl c_20) rfl (q_leq rfl rfl) ?_
                      refine HO.val (v := .bool (decide (((gi s_1 n_2).toNat : Int) ≤ 57))) (want_none) rfl (q_pickK true rfl c_20 rfl) ?_
                      refine HO.val (v := .bool (decide (((gi s_1 n_2).toNat : Int) ≤ 57))) (want_none) rfl (q_assign rfl) ?_
                      refine HO.nil (thenQ_normal (?_))
                      exact ⟨F_13, decide (((gi s_1 n_2).toNat : Int) ≤ 57), rfl, rfl, rfl, rfl, rfl, rfl, rfl, rfl, rfl, rfl, rfl, rfl, rfl, rfl, rfl, hK, hS, hL_1, hM⟩
                    · replace hM := hM.2 (of_decide_eq_false c_20)
                      refine HO.past (past_by rfl rfl c_20) rfl ?_
                      refine HO.past (past_by rfl rfl c_20) rfl ?_
                      refine HO.val (v := .bool false) (want_none) rfl (q_pickK false rfl c_20 rfl) ?_
                      refine HO.val (v := .bool false) (want_none) rfl (q_assign rfl) ?_
                      refine HO.nil (thenQ_normal (?_))
                      exact ⟨F_13, false, rfl, rfl, rfl, rfl, rfl, rfl, rfl, rfl, rfl, rfl, rfl, rfl, rfl, rfl, rfl, hK, hS, hL_1, hM⟩
                  · rintro f_10 h_14 ⟨F_14, b_6, e1, e6, e7, e8, e9, e10, e11, e12, e13, e15, e16, e99, e100, e101, e112, hK, hS, hL_1, hM⟩
                    unfold internal_strconv_ParseUint_j10 at hM
                    refine HW.fr [(1, .int .i64 base_1), (6, .int .u64 0), (7, .nilIface), (8, .bool (decide (base = 0))), (9, .string (bs s1)), (10, .int .u64 cutoff_1), (11, .int .u64 (IntKind.u64.wrap ((IntKind.u64.wrap ((1 : Int) * 2 ^ (min (IntKind.u64.wrap bitSize_1).toNat IntKind.u64.bits))) - 1))), (12, .bool underscores_1), (13, .int .u64 n_1), (15, .int .u8 ((gi s_1 n_2).toNat : Int)), (16, .int .u8 0), (99, v_1), (100, .int .i64 (s_1.length : Int)), (101, .int .i64 n_2), (112, .bool b_6)] ⟨e1, e6, e7, e8, e9, e10, e11, e12, e13, e15, e16, e99, e100, e101, e112, trivial⟩ ?_
                    refine HW.cond b_6 rfl (fun c_21 => ?_) (fun c_21 => ?_)
                    · replace hM := hM.1 c_21
                      refine HW.region ?_
                      refine HO.val (v := .int .u8 ((gi s_1 n_2).toNat : Int)) (want_none) rfl (q_move rfl) ?_
                      refine HO.val (v := .int .u8 ((u8w (((gi s_1 n_2).toNat : Int) - 48)).toNat : Int)) (want_none) rfl ((q_sub rfl rfl).of_eq (u8w_v _)) ?_
                      refine HO.val (v := .int .u8 ((u8w (((gi s_1 n_2).toNat : Int) - 48)).toNat : Int)) (want_none) rfl (q_assign rfl) ?_
                      refine HO.nil (blockQ_normal (thenQ_normal (?_)))
                      exact ⟨F_14, ((u8w (((gi s_1 n_2).toNat : Int) - 48)).toNat : Int), rfl, rfl, rfl, rfl, rfl, rfl, rfl, rfl, rfl, rfl, rfl, rfl, rfl, hK, hS, hL_1, hM⟩
                    · replace hM := hM.2 c_21
                      refine HW.seq_mid (fun f h => ∃ (F' : Fz) (b_7 : Bool), f 1 = .int .i64 base_1 ∧ f 6 = .int .u64 0 ∧ f 7 = .nilIface ∧ f 8 = .bool (decide (base = 0)) ∧ f 9 = .string (bs s1) ∧ f 10 = .int .u64 cutoff_1 ∧ f 11 = .int .u64 (IntKind.u64.wrap ((IntKind.u64.wrap ((1 : Int) * 2 ^ (min (IntKind.u64.wrap bitSize_1).toNat IntKind.u64.bits))) - 1)) ∧ f 12 = .bool underscores_1 ∧ f 13 = .int .u64 n_1 ∧ f 15 = .int .u8 ((gi s_1 n_2).toNat : Int) ∧ f 16 = .int .u8 0 ∧ f 99 = v_1 ∧ f 100 = .int .i64 (s_1.length : Int) ∧ f 101 = .int .i64 n_2 ∧ f 121 = .bool b_7 ∧ Kp F h0 F' h ∧ St F' (fr) h ∧ (SliceF F' h 1 enc8 v_1 s_1) ∧ internal_strconv_ParseUint_j11 Q s_1 base_1 bitSize_1 cutoff_1 underscores_1 n_1 n_2 K_1 b_7) ?_ ?_
                      · refine HW.region ?_
                        refine HO.val (v := .int .u8 ((gi s_1 n_2).toNat : Int)) (want_none) rfl (q_move rfl) ?_
                        refine HO.call (want_none) rfl (ec en_67 rfl rfl) (internal_strconv_lower_walk (fr := (fr)) ((gi s_1 n_2).toNat : Int) hS hM) ?_
                        rintro _ h_15 ⟨F_15, r_4, rfl, hk, hS, hM⟩
                        replace hK := hK.trans hk
                        replace hL_1 := hL_1.kp hk
                        refine HO.val (v := .bool (decide (97 ≤ r_4))) (want_none) rfl (q_leq rfl rfl) ?_
                        refine HO.val (v := .bool (decide (97 ≤ r_4))) (want_none) rfl (q_move rfl) ?_
                        rcases Bool.eq_false_or_eq_true (decide (97 ≤ r_4)) with c_22 | c_22
                        · replace hM := hM.1 (of_decide_eq_true c_22)
                          refine HO.val (v := .int .u8 ((gi s_1 n_2).toNat : Int)) (want_by rfl rfl c_22) rfl (q_move rfl) ?_
                          refine HO.call (want_by rfl rfl c_22) rfl (ec en_67 rfl rfl) (internal_strconv_lower_walk (fr := (fr)) ((gi s_1 n_2).toNat : Int) hS hM) ?_
                          rintro _ h_16 ⟨F_16, r_5, rfl, hk, hS, hM⟩
                          replace hK := hK.trans hk
                          replace hL_1 := hL_1.kp hk
                          refine HO.val (v := .bool (decide (r_5 ≤ 122))) (want_by rfl rfl c_22) rfl (q_leq rfl rfl) ?_
                          refine HO.val (v := .bool (decide (r_5 ≤ 122))) (want_none) rfl (q_pickK true rfl c_22 rfl) ?_
                          refine HO.val (v := .bool (decide (r_5 ≤ 122))) (want_none) rfl (q_assign rfl) ?_
                          refine HO.nil (thenQ_normal (?_))
                          exact ⟨F_16, decide (r_5 ≤ 122), rfl, rfl, rfl, rfl, rfl, rfl, rfl, rfl, rfl, rfl, rfl, rfl, rfl, rfl, rfl, hK, hS, hL_1, hM⟩
                        · replace hM := hM.2 (of_decide_eq_false c_22)
                          refine HO.past (past_by rfl rfl c_22) rfl ?_
                          refine HO.past (past_by rfl rfl c_22) rfl ?_
                          refine HO.past (past_by rfl rfl c_22) rfl ?_
                          refine HO.val (v := .bool false) (want_none) rfl (q_pickK false rfl c_22 rfl) ?_
                          refine HO.val (v := .bool false) (want_none) rfl (q_assign rfl) ?_
                          refine HO.nil (thenQ_normal (?_))
                          exact ⟨F_15, false, rfl, rfl, rfl, rfl, rfl, rfl, rfl, rfl, rfl, rfl, rfl, rfl, rfl, rfl, rfl, hK, hS, hL_1, hM⟩
                      · rintro f_11 h_17 ⟨F_17, b_7, e1, e6, e7, e8, e9, e10, e11, e12, e13, e15, e16, e99, e100, e101, e121, hK, hS, hL_1, hM⟩
                        unfold internal_strconv_ParseUint_j11 at hM
                        refine HW.fr [(1, .int .i64 base_1), (6, .int .u64 0), (7, .nilIface), (8, .bool (decide (base = 0))), (9, .string (bs s1)), (10, .int .u64 cutoff_1), (11, .int .u64 (IntKind.u64.wrap ((IntKind.u64.wrap ((1 : Int) * 2 ^ (min (IntKind.u64.wrap bitSize_1).toNat IntKind.u64.bits))) - 1))), (12, .bool underscores_1), (13, .int .u64 n_1), (15, .int .u8 ((gi s_1 n_2).toNat : Int)), (16, .int .u8 0), (99, v_1), (100, .int .i64 (s_1.length : Int)), (101, .int .i64 n_2), (121, .bool b_7)] ⟨e1, e6, e7, e8, e9, e10, e11, e12, e13, e15, e16, e99, e100, e101, e121, trivial⟩ ?_
                        refine HW.cond b_7 rfl (fun c_23 => ?_) (fun c_23 => ?_)
                        · replace hM := hM.1 c_23
                          refine HW.region ?_
                          refine HO.val (v := .int .u8 ((gi s_1 n_2).toNat : Int)) (want_none) rfl (q_move rfl) ?_
                          refine HO.call (want_none) rfl (ec en_67 rfl rfl) (internal_strconv_lower_walk (fr := (fr)) ((gi s_1 n_2).toNat : Int) hS hM) ?_
                          rintro _ h_18 ⟨F_18, r_6, rfl, hk, hS, hM⟩
                          replace hK := hK.trans hk
                          replace hL_1 := hL_1.kp hk
                          refine HO.val (v := .int .u8 ((u8w (r_6 - 97)).toNat : Int)) (want_none) rfl ((q_sub rfl rfl).of_eq (u8w_v _)) ?_
                          refine HO.val (v := .int .u8 ((u8w (((u8w (r_6 - 97)).toNat : Int) + 10)).toNat : Int)) (want_none) rfl ((q_add rfl rfl).of_eq (u8w_v _)) ?_
                          refine HO.val (v := .int .u8 ((u8w (((u8w (r_6 - 97)).toNat : Int) + 10)).toNat : Int)) (want_none) rfl (q_assign rfl) ?_
                          refine HO.nil (blockQ_normal (thenQ_normal (?_)))
                          exact ⟨F_18, ((u8w (((u8w (r_6 - 97)).toNat : Int) + 10)).toNat : Int), rfl, rfl, rfl, rfl, rfl, rfl, rfl, rfl, rfl, rfl, rfl, rfl, rfl, hK, hS, hL_1, hM⟩
                        · replace hM := hM.2 c_23
                          refine HW.seq ?_
                          refine HW.region ?_
                          refine HO.val (v := .iface 80 (.int .i64 2)) (want_none) rfl (q_mkIface Tryz.underlying80 rfl) ?_
                          refine HO.val (v := .int .u64 0) (want_none) rfl (q_assign rfl) ?_
                          refine HO.val (v := .iface 80 (.int .i64 2)) (want_none) rfl (q_assign rfl) ?_
                          refine HO.nil (thenQ_normal (?_))
                          refine HW.ret (blockQ_ret (thenQ_ret (blockQ_ret (thenQ_ret (thenQ_ret (blockQ_ret (thenQ_ret (?_))))))))
                          refine ⟨.inr rfl, .tuple #[.int .u64 0, .iface 80 (.int .i64 2)], res2 rfl (rt rfl) (rt rfl), ?_⟩
                          exact ⟨F_17, 0, 2, rfl, hK, hS, hM⟩
            · rintro f_12 h_19 ⟨F_19, d_1, e1, e6, e7, e8, e9, e10, e11, e12, e13, e16, e99, e100, e101, hK, hS, hL_1, hM⟩
              unfold internal_strconv_ParseUint_j8 at hM
              refine HW.fr [(1, .int .i64 base_1), (6, .int .u64 0), (7, .nilIface), (8, .bool (decide (base = 0))), (9, .string (bs s1)), (10, .int .u64 cutoff_1), (11, .int .u64 (IntKind.u64.wrap ((IntKind.u64.wrap ((1 : Int) * 2 ^ (min (IntKind.u64.wrap bitSize_1).toNat IntKind.u64.bits))) - 1))), (12, .bool underscores_1), (13, .int .u64 n_1), (16, .int .u8 d_1), (99, v_1), (100, .int .i64 (s_1.length : Int)), (101, .int .i64 n_2)] ⟨e1, e6, e7, e8, e9, e10, e11, e12, e13, e16, e99, e100, e101, trivial⟩ ?_
              refine HW.seq ?_
              refine HW.seq ?_
              refine HW.region ?_
              refine HO.val (v := .int .u8 d_1) (want_none) rfl (q_move rfl) ?_
              refine HO.val (v := .int .i64 base_1) (want_none) rfl (q_move rfl) ?_
              refine HO.val (v := .int .u8 ((u8w base_1).toNat : Int)) (want_none) rfl ((q_convInt (n := base_1) Tryz.underlying3 Tryz.underlying5 rfl rfl).of_eq (u8w_v _)) ?_
              refine HO.val (v := .bool (decide (((u8w base_1).toNat : Int) ≤ d_1))) (want_none) rfl (q_geq rfl rfl) ?_
              refine HO.nil (thenQ_normal (?_))
              refine HW.cond (decide (((u8w base_1).toNat : Int) ≤ d_1)) rfl (fun c_24 => ?_) (fun c_24 => ?_)
              · replace hM := hM.1 (of_decide_eq_true c_24)
                refine HW.seq ?_
                refine HW.region ?_
                refine HO.val (v := .iface 80 (.int .i64 2)) (want_none) rfl (q_mkIface Tryz.underlying80 rfl) ?_
                refine HO.val (v := .int .u64 0) (want_none) rfl (q_assign rfl) ?_
                refine HO.val (v := .iface 80 (.int .i64 2)) (want_none) rfl (q_assign rfl) ?_
                refine HO.nil (thenQ_normal (?_))
                refine HW.ret (thenQ_ret (blockQ_ret (thenQ_ret (thenQ_ret (blockQ_ret (thenQ_ret (?_)))))))
                refine ⟨.inr rfl, .tuple #[.int .u64 0, .iface 80 (.int .i64 2)], res2 rfl (rt rfl) (rt rfl), ?_⟩
                exact ⟨F_19, 0, 2, rfl, hK, hS, hM⟩
              · replace hM := hM.2 (of_decide_eq_false c_24)
                refine HW.skip (thenQ_normal (?_))
                refine HW.seq ?_
                refine HW.seq ?_
                refine HW.region ?_
                refine HO.val (v := .int .u64 n_1) (want_none) rfl (q_move rfl) ?_
                refine HO.val (v := .int .u64 cutoff_1) (want_none) rfl (q_move rfl) ?_
                refine HO.val (v := .bool (decide (cutoff_1 ≤ n_1))) (want_none) rfl (q_geq rfl rfl) ?_
                refine HO.nil (thenQ_normal (?_))
                refine HW.cond (decide (cutoff_1 ≤ n_1)) rfl (fun c_25 => ?_) (fun c_25 => ?_)
                · replace hM := hM.1 (of_decide_eq_true c_25)
                  refine HW.seq ?_
                  refine HW.region ?_
                  refine HO.val (v := .int .u64 (IntKind.u64.wrap ((IntKind.u64.wrap ((1 : Int) * 2 ^ (min (IntKind.u64.wrap bitSize_1).toNat IntKind.u64.bits))) - 1))) (want_none) rfl (q_move rfl) ?_
                  refine HO.val (v := .iface 80 (.int .i64 1)) (want_none) rfl (q_mkIface Tryz.underlying80 rfl) ?_
                  refine HO.val (v := .int .u64 (IntKind.u64.wrap ((IntKind.u64.wrap ((1 : Int) * 2 ^ (min (IntKind.u64.wrap bitSize_1).toNat IntKind.u64.bits))) - 1))) (want_none) rfl (q_assign rfl) ?_
                  refine HO.val (v := .iface 80 (.int .i64 1)) (want_none) rfl (q_assign rfl) ?_
                  refine HO.nil (thenQ_normal (?_))
                  refine HW.ret (thenQ_ret (blockQ_ret (thenQ_ret (thenQ_ret (blockQ_ret (thenQ_ret (?_)))))))
                  refine ⟨.inr rfl, .tuple #[.int .u64 (IntKind.u64.wrap ((IntKind.u64.wrap ((1 : Int) * 2 ^ (min (IntKind.u64.wrap bitSize_1).toNat IntKind.u64.bits))) - 1)), .iface 80 (.int .i64 1)], res2 rfl (rt rfl) (rt rfl), ?_⟩
                  exact ⟨F_19, IntKind.u64.wrap ((IntKind.u64.wrap ((1 : Int) * 2 ^ (min (IntKind.u64.wrap bitSize_1).toNat IntKind.u64.bits))) - 1), 1, rfl, hK, hS, hM⟩
                · replace hM := hM.2 (of_decide_eq_false c_25)
                  refine HW.skip (thenQ_normal (?_))
                  refine HW.seq ?_
                  refine HW.region ?_
                  refine HO.val (v := .int .u64 n_1) (want_none) rfl (q_move rfl) ?_
                  refine HO.val (v := .int .i64 base_1) (want_none) rfl (q_move rfl) ?_
                  refine HO.val (v := .int .u64 (IntKind.u64.wrap base_1)) (want_none) rfl (q_convInt (n := base_1) Tryz.underlying3 Tryz.underlying51 rfl rfl) ?_
                  refine HO.val (v := .int .u64 (IntKind.u64.wrap (n_1 * (IntKind.u64.wrap base_1)))) (want_none) rfl (q_mul rfl rfl) ?_
                  refine HO.val (v := .int .u64 (IntKind.u64.wrap (n_1 * (IntKind.u64.wrap base_1)))) (want_none) rfl (q_assign rfl) ?_
                  refine HO.nil (thenQ_normal (?_))
                  refine HW.seq ?_
                  refine HW.region ?_
                  refine HO.val (v := .int .u64 (IntKind.u64.wrap (n_1 * (IntKind.u64.wrap base_1)))) (want_none) rfl (q_move rfl) ?_
                  refine HO.val (v := .int .u8 d_1) (want_none) rfl (q_move rfl) ?_
                  refine HO.val (v := .int .u64 (IntKind.u64.wrap d_1)) (want_none) rfl (q_convInt (n := d_1) Tryz.underlying5 Tryz.underlying51 rfl rfl) ?_
                  refine HO.val (v := .int .u64 (IntKind.u64.wrap ((IntKind.u64.wrap (n_1 * (IntKind.u64.wrap base_1))) + (IntKind.u64.wrap d_1)))) (want_none) rfl (q_add rfl rfl) ?_
                  refine HO.val (v := .int .u64 (IntKind.u64.wrap ((IntKind.u64.wrap (n_1 * (IntKind.u64.wrap base_1))) + (IntKind.u64.wrap d_1)))) (want_none) rfl (q_assign rfl) ?_
                  refine HO.nil (thenQ_normal (?_))
                  refine HW.seq ?_
                  refine HW.seq_mid (fun f h => ∃ (F' : Fz) (b_8 : Bool), f 1 = .int .i64 base_1 ∧ f 6 = .int .u64 0 ∧ f 7 = .nilIface ∧ f 8 = .bool (decide (base = 0)) ∧ f 9 = .string (bs s1) ∧ f 10 = .int .u64 cutoff_1 ∧ f 11 = .int .u64 (IntKind.u64.wrap ((IntKind.u64.wrap ((1 : Int) * 2 ^ (min (IntKind.u64.wrap bitSize_1).toNat IntKind.u64.bits))) - 1)) ∧ f 12 = .bool underscores_1 ∧ f 13 = .int .u64 (IntKind.u64.wrap (n_1 * (IntKind.u64.wrap base_1))) ∧ f 17 = .int .u64 (IntKind.u64.wrap ((IntKind.u64.wrap (n_1 * (IntKind.u64.wrap base_1))) + (IntKind.u64.wrap d_1))) ∧ f 99 = v_1 ∧ f 100 = .int .i64 (s_1.length : Int) ∧ f 101 = .int .i64 n_2 ∧ f 159 = .bool b_8 ∧ Kp F h0 F' h ∧ St F' (fr) h ∧ (SliceF F' h 1 enc8 v_1 s_1) ∧ internal_strconv_ParseUint_j12 Q base_1 bitSize_1 underscores_1 n_1 n_2 K_1 d_1 b_8) ?_ ?_
                  · refine HW.region ?_
                    refine HO.val (v := .int .u64 (IntKind.u64.wrap ((IntKind.u64.wrap (n_1 * (IntKind.u64.wrap base_1))) + (IntKind.u64.wrap d_1)))) (want_none) rfl (q_move rfl) ?_
                    refine HO.val (v := .int .u64 (IntKind.u64.wrap (n_1 * (IntKind.u64.wrap base_1)))) (want_none) rfl (q_move rfl) ?_
                    refine HO.val (v := .bool (decide ((IntKind.u64.wrap ((IntKind.u64.wrap (n_1 * (IntKind.u64.wrap base_1))) + (IntKind.u64.wrap d_1))) < (IntKind.u64.wrap (n_1 * (IntKind.u64.wrap base_1)))))) (want_none) rfl (q_lss rfl rfl) ?_
                    refine HO.val (v := .bool (decide ((IntKind.u64.wrap ((IntKind.u64.wrap (n_1 * (IntKind.u64.wrap base_1))) + (IntKind.u64.wrap d_1))) < (IntKind.u64.wrap (n_1 * (IntKind.u64.wrap base_1)))))) (want_none) rfl (q_move rfl) ?_
                    rcases Bool.eq_false_or_eq_true (decide ((IntKind.u64.wrap ((IntKind.u64.wrap (n_1 * (IntKind.u64.wrap base_1))) + (IntKind.u64.wrap d_1))) < (IntKind.u64.wrap (n_1 * (IntKind.u64.wrap base_1))))) with c_26 | c_26
                    · replace hM := hM.1 (of_decide_eq_true c_26)
                      refine HO.past (past_by rfl rfl c_26) rfl ?_
                      refine HO.past (past_by rfl rfl c_26) rfl ?_
                      refine HO.past (past_by rfl rfl c_26) rfl ?_
                      refine HO.val (v := .bool true) (want_none) rfl (q_pickK true rfl c_26 rfl) ?_
                      refine HO.nil (thenQ_normal (?_))
                      exact ⟨F_19, true, rfl, rfl, rfl, rfl, rfl, rfl, rfl, rfl, rfl, rfl, rfl, rfl, rfl, rfl, hK, hS, hL_1, hM⟩
                    · replace hM := hM.2 (of_decide_eq_false c_26)
                      refine HO.val (v := .int .u64 (IntKind.u64.wrap ((IntKind.u64.wrap (n_1 * (IntKind.u64.wrap base_1))) + (IntKind.u64.wrap d_1)))) (want_by rfl rfl c_26) rfl (q_move rfl) ?_
                      refine HO.val (v := .int .u64 (IntKind.u64.wrap ((IntKind.u64.wrap ((1 : Int) * 2 ^ (min (IntKind.u64.wrap bitSize_1).toNat IntKind.u64.bits))) - 1))) (want_by rfl rfl c_26) rfl (q_move rfl) ?_
                      refine HO.val (v := .bool (decide ((IntKind.u64.wrap ((IntKind.u64.wrap ((1 : Int) * 2 ^ (min (IntKind.u64.wrap bitSize_1).toNat IntKind.u64.bits))) - 1)) < (IntKind.u64.wrap ((IntKind.u64.wrap (n_1 * (IntKind.u64.wrap base_1))) + (IntKind.u64.wrap d_1)))))) (want_by rfl rfl c_26) rfl (q_gtr rfl rfl) ?_
                      refine HO.val (v := .bool (decide ((IntKind.u64.wrap ((IntKind.u64.wrap ((1 : Int) * 2 ^ (min (IntKind.u64.wrap bitSize_1).toNat IntKind.u64.bits))) - 1)) < (IntKind.u64.wrap ((IntKind.u64.wrap (n_1 * (IntKind.u64.wrap base_1))) + (IntKind.u64.wrap d_1)))))) (want_none) rfl (q_pickK false rfl c_26 rfl) ?_
                      refine HO.nil (thenQ_normal (?_))
                      exact ⟨F_19, decide ((IntKind.u64.wrap ((IntKind.u64.wrap ((1 : Int) * 2 ^ (min (IntKind.u64.wrap bitSize_1).toNat IntKind.u64.bits))) - 1)) < (IntKind.u64.wrap ((IntKind.u64.wrap (n_1 * (IntKind.u64.wrap base_1))) + (IntKind.u64.wrap d_1)))), rfl, rfl, rfl, rfl, rfl, rfl, rfl, rfl, rfl, rfl, rfl, rfl, rfl, rfl, hK, hS, hL_1, hM⟩
                  · rintro f_13 h_20 ⟨F_20, b_8, e1, e6, e7, e8, e9, e10, e11, e12, e13, e17, e99, e100, e101, e159, hK, hS, hL_1, hM⟩
                    unfold internal_strconv_ParseUint_j12 at hM
                    refine HW.fr [(1, .int .i64 base_1), (6, .int .u64 0), (7, .nilIface), (8, .bool (decide (base = 0))), (9, .string (bs s1)), (10, .int .u64 cutoff_1), (11, .int .u64 (IntKind.u64.wrap ((IntKind.u64.wrap ((1 : Int) * 2 ^ (min (IntKind.u64.wrap bitSize_1).toNat IntKind.u64.bits))) - 1))), (12, .bool underscores_1), (13, .int .u64 (IntKind.u64.wrap (n_1 * (IntKind.u64.wrap base_1)))), (17, .int .u64 (IntKind.u64.wrap ((IntKind.u64.wrap (n_1 * (IntKind.u64.wrap base_1))) + (IntKind.u64.wrap d_1)))), (99, v_1), (100, .int .i64 (s_1.length : Int)), (101, .int .i64 n_2), (159, .bool b_8)] ⟨e1, e6, e7, e8, e9, e10, e11, e12, e13, e17, e99, e100, e101, e159, trivial⟩ ?_
                    refine HW.cond b_8 rfl (fun c_27 => ?_) (fun c_27 => ?_)
                    · replace hM := hM.1 c_27
                      refine HW.seq ?_
                      refine HW.region ?_
                      refine HO.val (v := .int .u64 (IntKind.u64.wrap ((IntKind.u64.wrap ((1 : Int) * 2 ^ (min (IntKind.u64.wrap bitSize_1).toNat IntKind.u64.bits))) - 1))) (want_none) rfl (q_move rfl) ?_
                      refine HO.val (v := .iface 80 (.int .i64 1)) (want_none) rfl (q_mkIface Tryz.underlying80 rfl) ?_
                      refine HO.val (v := .int .u64 (IntKind.u64.wrap ((IntKind.u64.wrap ((1 : Int) * 2 ^ (min (IntKind.u64.wrap bitSize_1).toNat IntKind.u64.bits))) - 1))) (want_none) rfl (q_assign rfl) ?_
                      refine HO.val (v := .iface 80 (.int .i64 1)) (want_none) rfl (q_assign rfl) ?_
                      refine HO.nil (thenQ_normal (?_))
                      refine HW.ret (thenQ_ret (blockQ_ret (thenQ_ret (thenQ_ret (blockQ_ret (thenQ_ret (?_)))))))
                      refine ⟨.inr rfl, .tuple #[.int .u64 (IntKind.u64.wrap ((IntKind.u64.wrap ((1 : Int) * 2 ^ (min (IntKind.u64.wrap bitSize_1).toNat IntKind.u64.bits))) - 1)), .iface 80 (.int .i64 1)], res2 rfl (rt rfl) (rt rfl), ?_⟩
                      exact ⟨F_20, IntKind.u64.wrap ((IntKind.u64.wrap ((1 : Int) * 2 ^ (min (IntKind.u64.wrap bitSize_1).toNat IntKind.u64.bits))) - 1), 1, rfl, hK, hS, hM⟩
                    · replace hM := hM.2 c_27
                      refine HW.skip (thenQ_normal (?_))
                      refine HW.region ?_
                      refine HO.val (v := .int .u64 (IntKind.u64.wrap ((IntKind.u64.wrap (n_1 * (IntKind.u64.wrap base_1))) + (IntKind.u64.wrap d_1)))) (want_none) rfl (q_move rfl) ?_
                      refine HO.val (v := .int .u64 (IntKind.u64.wrap ((IntKind.u64.wrap (n_1 * (IntKind.u64.wrap base_1))) + (IntKind.u64.wrap d_1)))) (want_none) rfl (q_assign rfl) ?_
                      refine HO.nil (blockQ_normal (thenQ_normal (?_)))
                      refine HW.region ?_
                      obtain ⟨ho_14, hM⟩ := hM
                      refine HO.val (v := .int .i64 (n_2 + 1)) (want_none) rfl (q_addN _ rfl rfl rfl ho_14.1 ho_14.2) ?_
                      refine HO.val (v := .int .i64 (n_2 + 1)) (want_none) rfl (q_move rfl) ?_
                      refine HO.nil (thenQ_normal (?_))
                      rw [hKe_1] at hM
                      exact ⟨(underscores_1, IntKind.u64.wrap ((IntKind.u64.wrap (n_1 * (IntKind.u64.wrap base_1))) + (IntKind.u64.wrap d_1)), n_2 + 1), ⟨F_20, rfl, rfl, rfl, rfl, rfl, rfl, rfl, rfl, rfl, rfl, rfl, rfl, hK, hS, hL_1, hM.1⟩, hM.2⟩
          · replace hM := hM.2 (of_decide_eq_false c_17)
            refine HW.exit (thenQ_exit (thenQ_exit (blockQ_exit (thenQ_normal (?_)))))
            refine HW.seq ?_
            refine HW.seq_mid (fun f h => ∃ (F' : Fz) (b_9 : Bool), f 6 = .int .u64 0 ∧ f 7 = .nilIface ∧ f 13 = .int .u64 n_1 ∧ f 169 = .bool b_9 ∧ Kp F h0 F' h ∧ St F' (fr) h ∧ (SliceF F' h 1 enc8 v_1 s_1) ∧ internal_strconv_ParseUint_j13 Q n_1 b_9) ?_ ?_
            · refine HW.region ?_
              refine HO.val (v := .bool underscores_1) (want_none) rfl (q_move rfl) ?_
              refine HO.val (v := .bool underscores_1) (want_none) rfl (q_move rfl) ?_
              rcases Bool.eq_false_or_eq_true underscores_1 with c_28 | c_28
              · replace hM := hM.1 c_28
                refine HO.val (v := .string (bs s1)) (want_by rfl rfl c_28) rfl (q_move rfl) ?_
                refine HO.call (want_by rfl rfl c_28) rfl (ec en_68 rfl rfl) (internal_strconv_underscoreOK_walk (fr := (fr)) s1 hS hM) ?_
                rintro _ h_21 ⟨F_21, r_7, rfl, hk, hS, hM⟩
                replace hK := hK.trans hk
                replace hL_1 := hL_1.kp hk
                refine HO.val (v := .bool (!r_7)) (want_by rfl rfl c_28) rfl (q_not rfl) ?_
                refine HO.val (v := .bool (!r_7)) (want_none) rfl (q_pickK true rfl c_28 rfl) ?_
                refine HO.nil (thenQ_normal (?_))
                exact ⟨F_21, !r_7, rfl, rfl, rfl, rfl, hK, hS, hL_1, hM⟩
              · replace hM := hM.2 c_28
                refine HO.past (past_by rfl rfl c_28) rfl ?_
                refine HO.past (past_by rfl rfl c_28) rfl ?_
                refine HO.past (past_by rfl rfl c_28) rfl ?_
                refine HO.val (v := .bool false) (want_none) rfl (q_pickK false rfl c_28 rfl) ?_
                refine HO.nil (thenQ_normal (?_))
                exact ⟨F_12, false, rfl, rfl, rfl, rfl, hK, hS, hL_1, hM⟩
            · rintro f_14 h_22 ⟨F_22, b_9, e6, e7, e13, e169, hK, hS, hL_1, hM⟩
              unfold internal_strconv_ParseUint_j13 at hM
              refine HW.fr [(6, .int .u64 0), (7, .nilIface), (13, .int .u64 n_1), (169, .bool b_9)] ⟨e6, e7, e13, e169, trivial⟩ ?_
              refine HW.cond b_9 rfl (fun c_29 => ?_) (fun c_29 => ?_)
              · replace hM := hM.1 c_29
                refine HW.seq ?_
                refine HW.region ?_
                refine HO.val (v := .iface 80 (.int .i64 2)) (want_none) rfl (q_mkIface Tryz.underlying80 rfl) ?_
                refine HO.val (v := .int .u64 0) (want_none) rfl (q_assign rfl) ?_
                refine HO.val (v := .iface 80 (.int .i64 2)) (want_none) rfl (q_assign rfl) ?_
                refine HO.nil (thenQ_normal (?_))
                refine HW.ret (thenQ_ret (?_))
                refine ⟨.inr rfl, .tuple #[.int .u64 0, .iface 80 (.int .i64 2)], res2 rfl (rt rfl) (rt rfl), ?_⟩
                exact ⟨F_22, 0, 2, rfl, hK, hS, hM⟩
              · replace hM := hM.2 c_29
                refine HW.skip (thenQ_normal (?_))
                refine HW.seq ?_
                refine HW.region ?_
                refine HO.val (v := .int .u64 n_1) (want_none) rfl (q_move rfl) ?_
                refine HO.val (v := .int .u64 n_1) (want_none) rfl (q_assign rfl) ?_
                refine HO.val (v := .nilIface) (want_none) rfl (q_assign rfl) ?_
                refine HO.nil (thenQ_normal (?_))
                refine HW.ret (?_)
                refine ⟨.inr rfl, .tuple #[.int .u64 n_1, .nilIface], res2 rfl (rt rfl) (rt rfl), ?_⟩
                exact ⟨F_22, n_1, 0, rfl, hK, hS, hM⟩

def strconv_ParseUint_W (s1 : Str) (base : Int) (bitSize : Int) (Q : Int → Bool → Prop) : Prop :=
  internal_strconv_ParseUint_W s1 base bitSize (fun r0_2 r1_2 => (¬ (r1_2 = 0) → ((s1.length : Int) ≤ 281474976710656 ∧ (r1_2 = 2 ∨ r1_2 = 1)) ∧ (Q r0_2 true)) ∧ (r1_2 = 0 → Q r0_2 false))
set_option maxHeartbeats 40000000 in
set_option maxRecDepth 100000 in
theorem strconv_ParseUint_walk {F : Fz} {fr : List Ow} {h0 : Heap} (s1 : Str) (base : Int) (bitSize : Int) (gvS : Value) (gbS : Bool) (gvR : Value) (gbR : Bool) (hS : St F (fr) h0) (hG_1 : RoF (Ow.box 1 53 #[gvS]) F h0) (hE_gvS : ErrF gbS gvS F h0) (hG_2 : RoF (Ow.box 2 53 #[gvR]) F h0) (hE_gvR : ErrF gbR gvR F h0) (hD : DM.on = false) {Q : Int → Bool → Prop} (hM : strconv_ParseUint_W s1 base bitSize Q) :
    HC Tryz.prog 40 #[.string (bs s1), .int .i64 base, .int .i64 bitSize] h0 fun u h' => ∃ (F' : Fz) (r0_1 : Int) (r1_1 : Bool) (vr1_1 : Value), u = .tuple #[.int .u64 r0_1, vr1_1] ∧ Kp F h0 F' h' ∧ St F' (fr) h' ∧ (RoF (Ow.box 1 53 #[gvS]) F' h') ∧ (ErrF gbS gvS F' h') ∧ (RoF (Ow.box 2 53 #[gvR]) F' h') ∧ (ErrF gbR gvR F' h') ∧ (ErrF r1_1 vr1_1 F' h') ∧ Q r0_1 r1_1 := by
  unfold strconv_ParseUint_W at hM
  have hK := Kp.refl F h0
  refine HC.of_HW (n := 26) Tryz.func40 rfl rfl (Nat.le_of_ble_eq_true rfl) ?_
  refine HW.seq ?_
  refine HW.region ?_
  refine HO.val (v := .int .u64 0) (want_none) rfl (q_assign rfl) ?_
  refine HO.val (v := .nilIface) (want_none) rfl (q_assign rfl) ?_
  refine HO.nil (thenQ_normal (?_))
  refine HW.seq ?_
  refine HW.region ?_
  refine HO.val (v := .string (bs s1)) (want_none) rfl (q_move rfl) ?_
  refine HO.val (v := .int .i64 base) (want_none) rfl (q_move rfl) ?_
  refine HO.val (v := .int .i64 bitSize) (want_none) rfl (q_move rfl) ?_
  refine HO.call (want_none) rfl (ec en_53 rfl rfl) (internal_strconv_ParseUint_walk (fr := (fr)) s1 base bitSize hS hM) ?_
  rintro _ h_1 ⟨F_1, r0_2, r1_2, rfl, hk, hS, hM⟩
  replace hK := hK.trans hk
  replace hG_1 := hG_1.kp hk
  replace hE_gvS := hE_gvS.kp hk
  replace hG_2 := hG_2.kp hk
  replace hE_gvR := hE_gvR.kp hk
  refine HO.val (v := .tuple #[.int .u64 r0_2, ifV 80 r1_2]) (want_none) rfl (q_move rfl) ?_
  refine HO.val (v := .int .u64 r0_2) (want_none) rfl (q_extract rfl rfl) ?_
  refine HO.val (v := ifV 80 r1_2) (want_none) rfl (q_extract rfl rfl) ?_
  refine HO.val (v := .int .u64 r0_2) (want_none) rfl (q_assign rfl) ?_
  refine HO.val (v := ifV 80 r1_2) (want_none) rfl (q_assign rfl) ?_
  refine HO.nil (thenQ_normal (?_))
  refine HW.seq ?_
  refine HW.seq ?_
  refine HW.region ?_
  refine HO.val (v := ifV 80 r1_2) (want_none) rfl (q_move rfl) ?_
  refine HO.val (v := .bool (!decide (r1_2 = 0))) (want_none) rfl ((q_ifNil (op := .neq) (b := !decide (r1_2 = 0)) (by simp) Tryz.underlying53 (ifV_err _ _) rfl)) ?_
  refine HO.nil (thenQ_normal (?_))
  refine HW.cond (!decide (r1_2 = 0)) rfl (fun c_1 => ?_) (fun c_1 => ?_)
  · replace hM := hM.1 (nd_true c_1)
    refine HW.seq ?_
    refine HW.region ?_
    refine HO.val (v := .int .u64 r0_2) (want_none) rfl (q_move rfl) ?_
    refine HO.val (v := .string (bs s1)) (want_none) rfl (q_move rfl) ?_
    refine HO.val (v := .int .i64 base) (want_none) rfl (q_move rfl) ?_
    refine HO.val (v := .int .i64 bitSize) (want_none) rfl (q_move rfl) ?_
    refine HO.val (v := ifV 80 r1_2) (want_none) rfl (q_move rfl) ?_
    obtain ⟨ho_1, hM⟩ := hM
    refine HO.call (want_none) rfl (ec en_54 rfl rfl) (toErr_hc hD Tryz.toErr hG_1 hG_2 hE_gvS hE_gvR hS ([80, 97, 114, 115, 101, 85, 105, 110, 116] : Str) s1 base bitSize r1_2 ho_1) ?_
    rintro v_1 h_2 ⟨hE_2, hS, hk⟩
    replace hK := hK.trans hk
    replace hG_1 := hG_1.kp hk
    replace hE_gvS := hE_gvS.kp hk
    replace hG_2 := hG_2.kp hk
    replace hE_gvR := hE_gvR.kp hk
    have hE_2 : ErrF true v_1 F_1 h_2 := ⟨hE_2⟩
    refine HO.val (v := .int .u64 r0_2) (want_none) rfl (q_assign rfl) ?_
    refine HO.val (v := v_1) (want_none) rfl (q_assign rfl) ?_
    refine HO.nil (thenQ_normal (?_))
    refine HW.ret (thenQ_ret (?_))
    refine ⟨.inr rfl, .tuple #[.int .u64 r0_2, v_1], res2 rfl (rt rfl) (rt rfl), ?_⟩
    exact ⟨F_1, r0_2, true, v_1, rfl, hK, hS, hG_1, hE_gvS, hG_2, hE_gvR, hE_2, hM⟩
  · replace hM := hM.2 (nd_false c_1)
    refine HW.skip (thenQ_normal (?_))
    refine HW.seq ?_
    refine HW.region ?_
    refine HO.val (v := .int .u64 r0_2) (want_none) rfl (q_move rfl) ?_
    refine HO.val (v := .int .u64 r0_2) (want_none) rfl (q_assign rfl) ?_
    refine HO.val (v := .nilIface) (want_none) rfl (q_assign rfl) ?_
    refine HO.nil (thenQ_normal (?_))
    refine HW.ret (?_)
    refine ⟨.inr rfl, .tuple #[.int .u64 r0_2, .nilIface], res2 rfl (rt rfl) (rt rfl), ?_⟩
    exact ⟨F_1, r0_2, false, .nilIface, rfl, hK, hS, hG_1, hE_gvS, hG_2, hE_gvR, (ErrF.nil _ _), hM⟩

def octet_within_W (n : Int) (least : Int) (most : Int) (Q : Int → Prop) : Prop :=
  Q (min (max n least) most)
set_option maxHeartbeats 40000000 in
set_option maxRecDepth 100000 in
theorem octet_within_walk {F : Fz} {fr : List Ow} {h0 : Heap} (n : Int) (least : Int) (most : Int) (hS : St F (fr) h0)  {Q : Int → Prop} (hM : octet_within_W n least most Q) :
    HC Tryz.prog 73 #[.int .i64 n, .int .i64 least, .int .i64 most] h0 fun u h' => ∃ (F' : Fz) (r_1 : Int), u = .int .i64 r_1 ∧ Kp F h0 F' h' ∧ St F' (fr) h' ∧ Q r_1 := by
  unfold octet_within_W at hM
  have hK := Kp.refl F h0
  refine HC.of_HW (n := 12) Tryz.func73 rfl rfl (Nat.le_of_ble_eq_true rfl) ?_
  refine HW.seq ?_
  refine HW.region ?_
  refine HO.val (v := .int .i64 0) (want_none) rfl (q_assign rfl) ?_
  refine HO.nil (thenQ_normal (?_))
  refine HW.seq ?_
  refine HW.region ?_
  refine HO.val (v := .int .i64 n) (want_none) rfl (q_move rfl) ?_
  refine HO.val (v := .int .i64 least) (want_none) rfl (q_move rfl) ?_
  refine HO.val (v := .int .i64 (max n least)) (want_none) rfl (q_max rfl rfl) ?_
  refine HO.val (v := .int .i64 most) (want_none) rfl (q_move rfl) ?_
  refine HO.val (v := .int .i64 (min (max n least) most)) (want_none) rfl (q_min rfl rfl) ?_
  refine HO.val (v := .int .i64 (min (max n least) most)) (want_none) rfl (q_assign rfl) ?_
  refine HO.nil (thenQ_normal (?_))
  refine HW.ret (?_)
  refine ⟨.inr rfl, .int .i64 (min (max n least) most), res1 rfl (rt rfl), ?_⟩
  exact ⟨F, min (max n least) most, rfl, hK, hS, hM⟩

def octet_put_l1 (Q : Str → Prop) (K_1 : Int → (List UInt8) → Int → Prop) (n_1 : Int) (out_1 : List UInt8) (i_1 : Int) : Prop :=
  (0 ≤ i_1 → ((0 : Int) ≤ i_1 ∧ i_1 < (out_1.length : Int)) ∧ ((I64 (i_1 - 1)) ∧ (K_1 (n_1.fdiv (2 ^ (min (8 : Int).toNat IntKind.u64.bits))) (out_1.set (i_1).toNat (u8w n_1)) (i_1 - 1)))) ∧ (¬ (0 ≤ i_1) → Q out_1)
def octet_put_W (n : Int) (wide : Int) (Q : Str → Prop) : Prop :=
  octet_within_W wide 0 8 (fun r_2 => ((0 : Int) ≤ r_2 ∧ 1 * r_2 ≤ 281474976710656) ∧ ((I64 (((List.replicate (r_2 : Int).toNat (default : UInt8)).length : Int) - 1)) ∧ (loopW (fun (K_1 : (Int × List UInt8 × Int) → Prop) (s : Int × List UInt8 × Int) => octet_put_l1 Q (fun n_1 out_1 i_1 => K_1 (n_1, out_1, i_1)) s.1 s.2.1 s.2.2) (n, List.replicate (r_2 : Int).toNat (default : UInt8), ((List.replicate (r_2 : Int).toNat (default : UInt8)).length : Int) - 1))))
set_option maxHeartbeats 40000000 in
set_option maxRecDepth 100000 in
theorem octet_put_walk {F : Fz} {fr : List Ow} {h0 : Heap} (n : Int) (wide : Int) (hS : St F (fr) h0)  {Q : Str → Prop} (hM : octet_put_W n wide Q) :
    HC Tryz.prog 55 #[.int .u64 n, .int .i64 wide] h0 fun u h' => ∃ (F' : Fz) (r_1 : Str), u = .string (bs r_1) ∧ Kp F h0 F' h' ∧ St F' (fr) h' ∧ Q r_1 := by
  unfold octet_put_W at hM
  have hK := Kp.refl F h0
  refine HC.of_HW (n := 26) Tryz.func55 rfl rfl (Nat.le_of_ble_eq_true rfl) ?_
  refine HW.seq ?_
  refine HW.region ?_
  refine HO.val (v := .string (bs [])) (want_none) rfl (q_assign rfl) ?_
  refine HO.nil (thenQ_normal (?_))
  refine HW.seq ?_
  refine HW.region ?_
  refine HO.val (v := .int .i64 wide) (want_none) rfl (q_move rfl) ?_
  refine HO.call (want_none) rfl (ec en_73 rfl rfl) (octet_within_walk (fr := (fr)) wide 0 8 hS hM) ?_
  rintro _ h_1 ⟨F_1, r_2, rfl, hk, hS, hM⟩
  replace hK := hK.trans hk
  obtain ⟨ho_1, hM⟩ := hM
  refine HO.eff (want_none) rfl (st_makeSlice (enc := enc8) (r_2 : Int).toNat (default : UInt8) hS te_36 tz_5 rfl rfl (by omega) (by omega) (by omega)) ?_
  rintro _ h_2 ⟨b_1, rfl, hS, hk⟩
  replace hK := hK.trans hk
  refine HO.val (v := .slice (some ⟨b_1, 0, none⟩) (r_2 : Int).toNat (r_2 : Int).toNat) (want_none) rfl (q_assign rfl) ?_
  refine HO.nil (thenQ_normal (?_))
  refine HW.seq ?_
  refine HW.seq ?_
  refine HW.region ?_
  refine HO.val (v := .slice (some ⟨b_1, 0, none⟩) (r_2 : Int).toNat (r_2 : Int).toNat) (want_none) rfl (q_move rfl) ?_
  refine HO.val (v := .int .i64 ((List.replicate (r_2 : Int).toNat (default : UInt8)).length : Int)) (want_none) rfl (q_len ts_36 (shp (hS.own 0 rfl).slice) rfl rfl) ?_
  obtain ⟨ho_2, hM⟩ := hM
  refine HO.val (v := .int .i64 (((List.replicate (r_2 : Int).toNat (default : UInt8)).length : Int) - 1)) (want_none) rfl (q_subN _ rfl rfl rfl ho_2.1 ho_2.2) ?_
  refine HO.val (v := .int .i64 (((List.replicate (r_2 : Int).toNat (default : UInt8)).length : Int) - 1)) (want_none) rfl (q_assign rfl) ?_
  refine HO.nil (thenQ_normal (?_))
  refine HW.block ?_
  obtain ⟨I_1, m_1, hI_1, hR_1⟩ := hM
  refine HW.loop (S := Int × List UInt8 × Int) (fun s f h => match s with | (n_1, out_1, i_1) => ∃ (F' : Fz), f 0 = .int .u64 n_1 ∧ f 4 = .string (bs []) ∧ f 5 = .slice (some ⟨b_1, 0, none⟩) (r_2 : Int).toNat (r_2 : Int).toNat ∧ f 6 = .int .i64 i_1 ∧ Kp F h0 F' h ∧ St F' (Ow.own 5 1 enc8 (.slice (some ⟨b_1, 0, none⟩) (r_2 : Int).toNat (r_2 : Int).toNat) out_1 :: fr) h ∧ I_1 (n_1, out_1, i_1)) m_1 (n, List.replicate (r_2 : Int).toNat (default : UInt8), ((List.replicate (r_2 : Int).toNat (default : UInt8)).length : Int) - 1) ⟨F_1, rfl, rfl, rfl, rfl, hK, hS, hI_1⟩ ?_
  rintro ⟨n_1, out_1, i_1⟩ f_1 h_3 ⟨F_2, e0, e4, e5, e6, hK, hS, hI0⟩
  obtain ⟨K_1, hKe_1⟩ : ∃ K : Int → (List UInt8) → Int → Prop, K = fun n_1' out_1' i_1' => I_1 (n_1', out_1', i_1') ∧ m_1 (n_1', out_1', i_1') < m_1 (n_1, out_1, i_1) := ⟨_, rfl⟩
  have hM : octet_put_l1 Q K_1 n_1 out_1 i_1 := by rw [hKe_1]; exact hR_1 (n_1, out_1, i_1) hI0
  unfold octet_put_l1 at hM
  refine HW.fr [(0, .int .u64 n_1), (4, .string (bs [])), (5, .slice (some ⟨b_1, 0, none⟩) (r_2 : Int).toNat (r_2 : Int).toNat), (6, .int .i64 i_1)] ⟨e0, e4, e5, e6, trivial⟩ ?_
  refine HW.seq ?_
  refine HW.seq ?_
  refine HW.region ?_
  refine HO.val (v := .int .i64 i_1) (want_none) rfl (q_move rfl) ?_
  refine HO.val (v := .bool (decide (0 ≤ i_1))) (want_none) rfl (q_geq rfl rfl) ?_
  refine HO.nil (thenQ_normal (?_))
  refine HW.cond (decide (0 ≤ i_1)) rfl (fun c_1 => ?_) (fun c_1 => ?_)
  · replace hM := hM.1 (of_decide_eq_true c_1)
    refine HW.skip (thenQ_normal (?_))
    refine HW.seq ?_
    refine HW.block ?_
    refine HW.seq ?_
    refine HW.region ?_
    refine HO.val (v := .slice (some ⟨b_1, 0, none⟩) (r_2 : Int).toNat (r_2 : Int).toNat) (want_none) rfl (q_move rfl) ?_
    refine HO.val (v := .int .i64 i_1) (want_none) rfl (q_move rfl) ?_
    refine HO.val (v := .int .u64 n_1) (want_none) rfl (q_move rfl) ?_
    refine HO.val (v := .int .u8 ((u8w n_1).toNat : Int)) (want_none) rfl ((q_convInt (n := n_1) Tryz.underlying51 Tryz.underlying5 rfl rfl).of_eq (u8w_v _)) ?_
    obtain ⟨ho_3, hM⟩ := hM
    refine HO.val (v := elemPtr 1 (.slice (some ⟨b_1, 0, none⟩) (r_2 : Int).toNat (r_2 : Int).toNat) (i_1).toNat) (want_none) rfl (q_idx ts_36 (hS.own 0 rfl).slice rfl rfl ho_3) ?_
    refine HO.sto (want_none) rfl (st_storeField (a := (u8w n_1)) (n := (i_1).toNat) (j := 0) hS (i := 0) rfl to_5 (elem_field 1 (.slice (some ⟨b_1, 0, none⟩) (r_2 : Int).toNat (r_2 : Int).toNat) (i_1).toNat) (by omega) (by decide) rfl (by rw [← gi_lt ho_3.1 ho_3.2]; rfl) rfl rfl) ?_
    rintro h_4 ⟨hS, hk⟩
    replace hS : St F_2 (Ow.own 5 1 enc8 (.slice (some ⟨b_1, 0, none⟩) (r_2 : Int).toNat (r_2 : Int).toNat) (out_1.set (i_1).toNat (u8w n_1)) :: fr) h_4 := hS
    replace hK := hK.trans hk
    refine HO.nil (thenQ_normal (?_))
    refine HW.region ?_
    refine HO.val (v := .int .u64 n_1) (want_none) rfl (q_move rfl) ?_
    refine HO.val (v := .int .u64 (n_1.fdiv (2 ^ (min (8 : Int).toNat IntKind.u64.bits)))) (want_none) rfl (q_shr rfl rfl (by decide) rfl) ?_
    refine HO.val (v := .int .u64 (n_1.fdiv (2 ^ (min (8 : Int).toNat IntKind.u64.bits)))) (want_none) rfl (q_assign rfl) ?_
    refine HO.nil (blockQ_normal (thenQ_normal (?_)))
    refine HW.region ?_
    refine HO.val (v := .int .i64 i_1) (want_none) rfl (q_move rfl) ?_
    obtain ⟨ho_4, hM⟩ := hM
    refine HO.val (v := .int .i64 (i_1 - 1)) (want_none) rfl (q_subN _ rfl rfl rfl ho_4.1 ho_4.2) ?_
    refine HO.val (v := .int .i64 (i_1 - 1)) (want_none) rfl (q_assign rfl) ?_
    refine HO.nil (thenQ_normal (?_))
    rw [hKe_1] at hM
    exact ⟨(n_1.fdiv (2 ^ (min (8 : Int).toNat IntKind.u64.bits)), out_1.set (i_1).toNat (u8w n_1), i_1 - 1), ⟨F_2, rfl, rfl, rfl, rfl, hK, hS, hM.1⟩, hM.2⟩
  · replace hM := hM.2 (of_decide_eq_false c_1)
    refine HW.exit (thenQ_exit (thenQ_exit (blockQ_exit (thenQ_normal (?_)))))
    refine HW.seq ?_
    refine HW.region ?_
    refine HO.val (v := .slice (some ⟨b_1, 0, none⟩) (r_2 : Int).toNat (r_2 : Int).toNat) (want_none) rfl (q_move rfl) ?_
    refine HO.val (v := .string (bs out_1)) (want_none) rfl (q_bytesStr ts_36 Tryz.underlying5 Tryz.underlying9 (hS.own 0 rfl).slice rfl) ?_
    refine HO.val (v := .string (bs out_1)) (want_none) rfl (q_assign rfl) ?_
    refine HO.nil (thenQ_normal (?_))
    refine HW.ret (?_)
    refine ⟨.inr rfl, .string (bs out_1), res1 rfl (rt rfl), ?_⟩
    replace hS : St F_2 (fr) h_3 := hS.perm2 [] 1 rfl rfl
    exact ⟨F_2, out_1, rfl, hK, hS, hM⟩

def octet_Put_W (n : Int) (wide : Int) (Q : Str → Prop) : Prop :=
  octet_put_W n wide (fun r_2 => Q r_2)
set_option maxHeartbeats 40000000 in
set_option maxRecDepth 100000 in
theorem octet_Put_walk {F : Fz} {fr : List Ow} {h0 : Heap} (n : Int) (wide : Int) (hS : St F (fr) h0)  {Q : Str → Prop} (hM : octet_Put_W n wide Q) :
    HC Tryz.prog 41 #[.int .u64 n, .int .i64 wide] h0 fun u h' => ∃ (F' : Fz) (r_1 : Str), u = .string (bs r_1) ∧ Kp F h0 F' h' ∧ St F' (fr) h' ∧ Q r_1 := by
  unfold octet_Put_W at hM
  have hK := Kp.refl F h0
  refine HC.of_HW (n := 8) Tryz.func41 rfl rfl (Nat.le_of_ble_eq_true rfl) ?_
  refine HW.seq ?_
  refine HW.region ?_
  refine HO.val (v := .string (bs [])) (want_none) rfl (q_assign rfl) ?_
  refine HO.nil (thenQ_normal (?_))
  refine HW.seq ?_
  refine HW.region ?_
  refine HO.val (v := .int .u64 n) (want_none) rfl (q_move rfl) ?_
  refine HO.val (v := .int .i64 wide) (want_none) rfl (q_move rfl) ?_
  refine HO.call (want_none) rfl (ec en_55 rfl rfl) (octet_put_walk (fr := (fr)) n wide hS hM) ?_
  rintro _ h_1 ⟨F_1, r_2, rfl, hk, hS, hM⟩
  replace hK := hK.trans hk
  refine HO.val (v := .string (bs r_2)) (want_none) rfl (q_assign rfl) ?_
  refine HO.nil (thenQ_normal (?_))
  refine HW.ret (?_)
  refine ⟨.inr rfl, .string (bs r_2), res1 rfl (rt rfl), ?_⟩
  exact ⟨F_1, r_2, rfl, hK, hS, hM⟩

def addr_numbers_l1 (s1 : Str) (sign : Str) (base : Int) (wide : Int) (Q : Str → Bool → Prop) (K_1 : Str → Int → Prop) (out_1 : Str) (n_1 : Int) : Prop :=
  (n_1 < ((splitS s1 sign).length : Int) → ((0 : Int) ≤ n_1 ∧ n_1 < ((splitS s1 sign).length : Int)) ∧ ((I64 (8 * wide)) ∧ (strconv_ParseUint_W (gi (splitS s1 sign) n_1) base (8 * wide) (fun r0_2 r1_2 => (r1_2 = true → Q [] false) ∧ (r1_2 = false → octet_Put_W r0_2 wide (fun r_1 => ((out_1.length : Int) + (r_1.length : Int) ≤ 9223372036854775807) ∧ ((I64 (n_1 + 1)) ∧ (K_1 (out_1 ++ r_1) (n_1 + 1))))))))) ∧ (¬ (n_1 < ((splitS s1 sign).length : Int)) → Q out_1 true)
def addr_numbers_W (s1 : Str) (sign : Str) (base : Int) (wide : Int) (Q : Str → Bool → Prop) : Prop :=
  ((s1 : Str) = [] → Q [] true) ∧ (¬ ((s1 : Str) = []) → ((s1.length : Int) < 4294967281 ∧ 1 ≤ (sign.length : Int)) ∧ (loopW (fun (K_1 : (Str × Int) → Prop) (s : Str × Int) => addr_numbers_l1 s1 sign base wide Q (fun out_1 n_1 => K_1 (out_1, n_1)) s.1 s.2) ([], 0)))
set_option maxHeartbeats 40000000 in
set_option maxRecDepth 100000 in
theorem addr_numbers_walk {F : Fz} {fr : List Ow} {h0 : Heap} (s1 : Str) (sign : Str) (base : Int) (wide : Int) (gm : Int) (gvS : Value) (gbS : Bool) (gvR : Value) (gbR : Bool) (hS : St F (fr) h0) (hG_0 : RoF (Ow.box 0 3 #[.int .i64 gm]) F h0) (hG_1 : RoF (Ow.box 1 53 #[gvS]) F h0) (hE_gvS : ErrF gbS gvS F h0) (hG_2 : RoF (Ow.box 2 53 #[gvR]) F h0) (hE_gvR : ErrF gbR gvR F h0) (hD : DM.on = false) {Q : Str → Bool → Prop} (hM : addr_numbers_W s1 sign base wide Q) :
    HC Tryz.prog 31 #[.string (bs s1), .string (bs sign), .int .i64 base, .int .i64 wide] h0 fun u h' => ∃ (F' : Fz) (r0_1 : Str) (r1_1 : Bool), u = .tuple #[.string (bs r0_1), .bool r1_1] ∧ Kp F h0 F' h' ∧ St F' (fr) h' ∧ (RoF (Ow.box 0 3 #[.int .i64 gm]) F' h') ∧ (RoF (Ow.box 1 53 #[gvS]) F' h') ∧ (ErrF gbS gvS F' h') ∧ (RoF (Ow.box 2 53 #[gvR]) F' h') ∧ (ErrF gbR gvR F' h') ∧ Q r0_1 r1_1 := by
  unfold addr_numbers_W at hM
  have hK := Kp.refl F h0
  refine HC.of_HW (n := 42) Tryz.func31 rfl rfl (Nat.le_of_ble_eq_true rfl) ?_
  refine HW.seq ?_
  refine HW.region ?_
  refine HO.val (v := .string (bs [])) (want_none) rfl (q_assign rfl) ?_
  refine HO.val (v := .bool false) (want_none) rfl (q_assign rfl) ?_
  refine HO.nil (thenQ_normal (?_))
  refine HW.seq ?_
  refine HW.region ?_
  refine HO.val (v := .string (bs [])) (want_none) rfl (q_assign rfl) ?_
  refine HO.nil (thenQ_normal (?_))
  refine HW.seq ?_
  refine HW.seq ?_
  refine HW.region ?_
  refine HO.val (v := .string (bs s1)) (want_none) rfl (q_move rfl) ?_
  refine HO.val (v := .bool (decide ((s1 : Str) = []))) (want_none) rfl (q_eqlT rfl rfl) ?_
  refine HO.nil (thenQ_normal (?_))
  refine HW.cond (decide ((s1 : Str) = [])) rfl (fun c_1 => ?_) (fun c_1 => ?_)
  · replace hM := hM.1 (of_decide_eq_true c_1)
    refine HW.seq ?_
    refine HW.region ?_
    refine HO.val (v := .string (bs [])) (want_none) rfl (q_assign rfl) ?_
    refine HO.val (v := .bool true) (want_none) rfl (q_assign rfl) ?_
    refine HO.nil (thenQ_normal (?_))
    refine HW.ret (thenQ_ret (?_))
    refine ⟨.inr rfl, .tuple #[.string (bs []), .bool true], res2 rfl (rt rfl) (rt rfl), ?_⟩
    exact ⟨F, [], true, rfl, hK, hS, hG_0, hG_1, hE_gvS, hG_2, hE_gvR, hM⟩
  · replace hM := hM.2 (of_decide_eq_false c_1)
    refine HW.skip (thenQ_normal (?_))
    refine HW.seq ?_
    refine HW.seq ?_
    refine HW.region ?_
    refine HO.val (v := .string (bs s1)) (want_none) rfl (q_move rfl) ?_
    refine HO.val (v := .string (bs sign)) (want_none) rfl (q_move rfl) ?_
    obtain ⟨ho_1, hM⟩ := hM
    refine HO.call (want_none) rfl (ec en_39 rfl rfl) (strSplit_hc Tryz.split (by kernel_rfl) hG_0 hS s1 sign ho_1) ?_
    rintro v_1 h_1 ⟨hS, hk⟩
    replace hS : St F (Ow.own 9 1 encT v_1 (splitS s1 sign) :: fr) h_1 := hS
    replace hK := hK.trans hk
    replace hG_0 := hG_0.kp hk
    replace hG_1 := hG_1.kp hk
    replace hE_gvS := hE_gvS.kp hk
    replace hG_2 := hG_2.kp hk
    replace hE_gvR := hE_gvR.kp hk
    refine HO.val (v := .int .i64 ((splitS s1 sign).length : Int)) (want_none) rfl (q_len ts_47 (shp (hS.own 0 rfl).slice) rfl rfl) ?_
    refine HO.val (v := .int .i64 0) (want_none) rfl (q_move rfl) ?_
    refine HO.nil (thenQ_normal (?_))
    refine HW.block ?_
    obtain ⟨I_1, m_1, hI_1, hR_1⟩ := hM
    refine HW.loop (S := Str × Int) (fun s f h => match s with | (out_1, n_1) => ∃ (F' : Fz), f 2 = .int .i64 base ∧ f 3 = .int .i64 wide ∧ f 8 = .string (bs []) ∧ f 9 = .bool false ∧ f 10 = .string (bs out_1) ∧ f 19 = v_1 ∧ f 20 = .int .i64 ((splitS s1 sign).length : Int) ∧ f 21 = .int .i64 n_1 ∧ Kp F h0 F' h ∧ St F' (Ow.own 9 1 encT v_1 (splitS s1 sign) :: fr) h ∧ (RoF (Ow.box 0 3 #[.int .i64 gm]) F' h) ∧ (RoF (Ow.box 1 53 #[gvS]) F' h) ∧ (ErrF gbS gvS F' h) ∧ (RoF (Ow.box 2 53 #[gvR]) F' h) ∧ (ErrF gbR gvR F' h) ∧ I_1 (out_1, n_1)) m_1 ([], 0) ⟨F, rfl, rfl, rfl, rfl, rfl, rfl, rfl, rfl, hK, hS, hG_0, hG_1, hE_gvS, hG_2, hE_gvR, hI_1⟩ ?_
    rintro ⟨out_1, n_1⟩ f_1 h_2 ⟨F_1, e2, e3, e8, e9, e10, e19, e20, e21, hK, hS, hG_0, hG_1, hE_gvS, hG_2, hE_gvR, hI0⟩
    obtain ⟨K_1, hKe_1⟩ : ∃ K : Str → Int → Prop, K = fun out_1' n_1' => I_1 (out_1', n_1') ∧ m_1 (out_1', n_1') < m_1 (out_1, n_1) := ⟨_, rfl⟩
    have hM : addr_numbers_l1 s1 sign base wide Q K_1 out_1 n_1 := by rw [hKe_1]; exact hR_1 (out_1, n_1) hI0
    unfold addr_numbers_l1 at hM
    refine HW.fr [(2, .int .i64 base), (3, .int .i64 wide), (8, .string (bs [])), (9, .bool false), (10, .string (bs out_1)), (19, v_1), (20, .int .i64 ((splitS s1 sign).length : Int)), (21, .int .i64 n_1)] ⟨e2, e3, e8, e9, e10, e19, e20, e21, trivial⟩ ?_
    refine HW.seq ?_
    refine HW.region ?_
    refine HO.val (v := .bool (decide (n_1 < ((splitS s1 sign).length : Int)))) (want_none) rfl (q_lss rfl rfl) ?_
    refine HO.nil (thenQ_normal (?_))
    refine HW.seq ?_
    refine HW.cond (decide (n_1 < ((splitS s1 sign).length : Int))) rfl (fun c_2 => ?_) (fun c_2 => ?_)
    · replace hM := hM.1 (of_decide_eq_true c_2)
      refine HW.skip (thenQ_normal (?_))
      refine HW.seq ?_
      refine HW.block ?_
      refine HW.seq ?_
      refine HW.region ?_
      obtain ⟨ho_2, hM⟩ := hM
      refine HO.val (v := elemPtr 1 v_1 (n_1).toNat) (want_none) rfl (q_idx ts_47 (hS.own 0 rfl).slice rfl rfl ho_2) ?_
      refine HO.val (v := .string (bs (gi (splitS s1 sign) n_1))) (want_none) rfl (q_ldElem to_9 (hS.own 0 rfl).slice rfl ho_2 rfl) ?_
      refine HO.val (v := .string (bs (gi (splitS s1 sign) n_1))) (want_none) rfl (q_assign rfl) ?_
      refine HO.nil (thenQ_normal (?_))
      refine HW.seq ?_
      refine HW.region ?_
      refine HO.val (v := .string (bs (gi (splitS s1 sign) n_1))) (want_none) rfl (q_move rfl) ?_
      refine HO.val (v := .int .i64 base) (want_none) rfl (q_move rfl) ?_
      refine HO.val (v := .int .i64 wide) (want_none) rfl (q_move rfl) ?_
      obtain ⟨ho_3, hM⟩ := hM
      refine HO.val (v := .int .i64 (8 * wide)) (want_none) rfl (q_mulN _ rfl rfl rfl ho_3.1 ho_3.2) ?_
      refine HO.call (want_none) rfl (ec en_40 rfl rfl) (strconv_ParseUint_walk (fr := (Ow.own 9 1 encT v_1 (splitS s1 sign) :: fr)) (gi (splitS s1 sign) n_1) base (8 * wide) gvS gbS gvR gbR hS hG_1 hE_gvS hG_2 hE_gvR hD hM) ?_
      rintro _ h_3 ⟨F_2, r0_2, r1_2, vr1_1, rfl, hk, hS, _, _, _, _, hE_1, hM⟩
      replace hK := hK.trans hk
      replace hG_0 := hG_0.kp hk
      replace hG_1 := hG_1.kp hk
      replace hE_gvS := hE_gvS.kp hk
      replace hG_2 := hG_2.kp hk
      replace hE_gvR := hE_gvR.kp hk
      refine HO.val (v := .tuple #[.int .u64 r0_2, vr1_1]) (want_none) rfl (q_move rfl) ?_
      refine HO.val (v := .int .u64 r0_2) (want_none) rfl (q_extract rfl rfl) ?_
      refine HO.val (v := vr1_1) (want_none) rfl (q_extract rfl rfl) ?_
      refine HO.val (v := .int .u64 r0_2) (want_none) rfl (q_assign rfl) ?_
      refine HO.val (v := vr1_1) (want_none) rfl (q_assign rfl) ?_
      refine HO.nil (thenQ_normal (?_))
      refine HW.seq ?_
      refine HW.seq ?_
      refine HW.region ?_
      refine HO.val (v := vr1_1) (want_none) rfl (q_move rfl) ?_
      refine HO.val (v := .bool r1_2) (want_none) rfl ((q_ifNil (op := .neq) (b := r1_2) (by simp) Tryz.underlying53 hE_1.is rfl)) ?_
      refine HO.nil (thenQ_normal (?_))
      refine HW.cond r1_2 rfl (fun c_3 => ?_) (fun c_3 => ?_)
      · replace hM := hM.1 c_3
        refine HW.seq ?_
        refine HW.region ?_
        refine HO.val (v := .string (bs [])) (want_none) rfl (q_assign rfl) ?_
        refine HO.val (v := .bool false) (want_none) rfl (q_assign rfl) ?_
        refine HO.nil (thenQ_normal (?_))
        refine HW.ret (thenQ_ret (blockQ_ret (thenQ_ret (thenQ_ret (blockQ_ret (thenQ_ret (?_)))))))
        refine ⟨.inr rfl, .tuple #[.string (bs []), .bool false], res2 rfl (rt rfl) (rt rfl), ?_⟩
        replace hS : St F_2 (fr) h_3 := hS.perm2 [] 1 rfl rfl
        exact ⟨F_2, [], false, rfl, hK, hS, hG_0, hG_1, hE_gvS, hG_2, hE_gvR, hM⟩
      · replace hM := hM.2 c_3
        refine HW.skip (thenQ_normal (?_))
        refine HW.region ?_
        refine HO.val (v := .string (bs out_1)) (want_none) rfl (q_move rfl) ?_
        refine HO.val (v := .int .u64 r0_2) (want_none) rfl (q_move rfl) ?_
        refine HO.val (v := .int .i64 wide) (want_none) rfl (q_move rfl) ?_
        refine HO.call (want_none) rfl (ec en_41 rfl rfl) (octet_Put_walk (fr := (Ow.own 9 1 encT v_1 (splitS s1 sign) :: fr)) r0_2 wide hS hM) ?_
        rintro _ h_4 ⟨F_3, r_1, rfl, hk, hS, hM⟩
        replace hK := hK.trans hk
        replace hG_0 := hG_0.kp hk
        replace hG_1 := hG_1.kp hk
        replace hE_gvS := hE_gvS.kp hk
        replace hG_2 := hG_2.kp hk
        replace hE_gvR := hE_gvR.kp hk
        obtain ⟨ho_4, hM⟩ := hM
        refine HO.val (v := .string (bs (out_1 ++ r_1))) (want_none) rfl (q_addT rfl rfl ho_4) ?_
        refine HO.val (v := .string (bs (out_1 ++ r_1))) (want_none) rfl (q_assign rfl) ?_
        refine HO.nil (blockQ_normal (thenQ_normal (?_)))
        refine HW.region ?_
        obtain ⟨ho_5, hM⟩ := hM
        refine HO.val (v := .int .i64 (n_1 + 1)) (want_none) rfl (q_addN _ rfl rfl rfl ho_5.1 ho_5.2) ?_
        refine HO.val (v := .int .i64 (n_1 + 1)) (want_none) rfl (q_move rfl) ?_
        refine HO.nil (thenQ_normal (?_))
        rw [hKe_1] at hM
        exact ⟨(out_1 ++ r_1, n_1 + 1), ⟨F_3, rfl, rfl, rfl, rfl, rfl, rfl, rfl, rfl, hK, hS, hG_0, hG_1, hE_gvS, hG_2, hE_gvR, hM.1⟩, hM.2⟩
    · replace hM := hM.2 (of_decide_eq_false c_2)
      refine HW.exit (thenQ_exit (thenQ_exit (blockQ_exit (thenQ_normal (?_)))))
      refine HW.seq ?_
      refine HW.region ?_
      refine HO.val (v := .string (bs out_1)) (want_none) rfl (q_move rfl) ?_
      refine HO.val (v := .string (bs out_1)) (want_none) rfl (q_assign rfl) ?_
      refine HO.val (v := .bool true) (want_none) rfl (q_assign rfl) ?_
      refine HO.nil (thenQ_normal (?_))
      refine HW.ret (?_)
      refine ⟨.inr rfl, .tuple #[.string (bs out_1), .bool true], res2 rfl (rt rfl) (rt rfl), ?_⟩
      replace hS : St F_1 (fr) h_2 := hS.perm2 [] 1 rfl rfl
      exact ⟨F_1, out_1, true, rfl, hK, hS, hG_0, hG_1, hE_gvS, hG_2, hE_gvR, hM⟩

def addr_parse6_j1 (Q : Str → Bool → Prop) (r1_2 : Bool) (r0_3 : Str) (r1_3 : Bool) (a_1 : Str) : Prop :=
  ((a_1.length : Int) + (r0_3.length : Int) ≤ 9223372036854775807) ∧ ((r1_2 = true → Q (a_1 ++ r0_3) r1_3) ∧ (r1_2 = false → Q (a_1 ++ r0_3) false))
def addr_parse6_j2 (Q : Str → Bool → Prop) (r0_2 : Str) (r1_2 : Bool) (r0_3 : Str) (r1_3 : Bool) (b_1 : Bool) : Prop :=
  (b_1 = true → (0 ≤ ((16 - (r0_2.length : Int)) - (r0_3.length : Int)) ∧ ((16 - (r0_2.length : Int)) - (r0_3.length : Int)) ≤ 1000000 ∧ ((([0] : Str)).length : Int) ≤ 1000000) ∧ (((r0_2.length : Int) + ((repS ([0] : Str) ((16 - (r0_2.length : Int)) - (r0_3.length : Int))).length : Int) ≤ 9223372036854775807) ∧ (addr_parse6_j1 Q r1_2 r0_3 r1_3 (r0_2 ++ (repS ([0] : Str) ((16 - (r0_2.length : Int)) - (r0_3.length : Int))))))) ∧ (b_1 = false → addr_parse6_j1 Q r1_2 r0_3 r1_3 r0_2)
def addr_parse6_W (s1 : Str) (Q : Str → Bool → Prop) : Prop :=
  ((s1.length : Int) < 4294967281) ∧ (addr_numbers_W ((cutS s1 ([58, 58] : Str)).1) [58] 16 2 (fun r0_2 r1_2 => addr_numbers_W ((cutS s1 ([58, 58] : Str)).2.1) [58] 16 2 (fun r0_3 r1_3 => (I64 (16 - (r0_2.length : Int))) ∧ ((I64 ((16 - (r0_2.length : Int)) - (r0_3.length : Int))) ∧ ((((cutS s1 ([58, 58] : Str)).2.2) = true → addr_parse6_j2 Q r0_2 r1_2 r0_3 r1_3 (decide (0 < ((16 - (r0_2.length : Int)) - (r0_3.length : Int))))) ∧ (((cutS s1 ([58, 58] : Str)).2.2) = false → addr_parse6_j2 Q r0_2 r1_2 r0_3 r1_3 false))))))
set_option maxHeartbeats 40000000 in
set_option maxRecDepth 100000 in
theorem addr_parse6_walk {F : Fz} {fr : List Ow} {h0 : Heap} (s1 : Str) (gm : Int) (gvS : Value) (gbS : Bool) (gvR : Value) (gbR : Bool) (hS : St F (fr) h0) (hG_0 : RoF (Ow.box 0 3 #[.int .i64 gm]) F h0) (hG_1 : RoF (Ow.box 1 53 #[gvS]) F h0) (hE_gvS : ErrF gbS gvS F h0) (hG_2 : RoF (Ow.box 2 53 #[gvR]) F h0) (hE_gvR : ErrF gbR gvR F h0) (hD : DM.on = false) {Q : Str → Bool → Prop} (hM : addr_parse6_W s1 Q) :
    HC Tryz.prog 33 #[.string (bs s1)] h0 fun u h' => ∃ (F' : Fz) (r0_1 : Str) (r1_1 : Bool), u = .tuple #[.string (bs r0_1), .bool r1_1] ∧ Kp F h0 F' h' ∧ St F' (fr) h' ∧ (RoF (Ow.box 0 3 #[.int .i64 gm]) F' h') ∧ (RoF (Ow.box 1 53 #[gvS]) F' h') ∧ (ErrF gbS gvS F' h') ∧ (RoF (Ow.box 2 53 #[gvR]) F' h') ∧ (ErrF gbR gvR F' h') ∧ Q r0_1 r1_1 := by
  unfold addr_parse6_W at hM
  have hK := Kp.refl F h0
  refine HC.of_HW (n := 50) Tryz.func33 rfl rfl (Nat.le_of_ble_eq_true rfl) ?_
  refine HW.seq ?_
  refine HW.region ?_
  refine HO.val (v := .string (bs [])) (want_none) rfl (q_assign rfl) ?_
  refine HO.val (v := .bool false) (want_none) rfl (q_assign rfl) ?_
  refine HO.nil (thenQ_normal (?_))
  refine HW.seq ?_
  refine HW.region ?_
  refine HO.val (v := .string (bs s1)) (want_none) rfl (q_move rfl) ?_
  obtain ⟨ho_1, hM⟩ := hM
  refine HO.call (want_none) rfl (ec en_43 rfl rfl) (strCut_hc Tryz.cut hG_0 s1 ([58, 58] : Str) ho_1) ?_
  rintro _ h_1 ⟨rfl, hEq⟩
  rw [hEq]
  refine HO.val (v := .tuple #[.string (bs ((cutS s1 ([58, 58] : Str)).1)), .string (bs ((cutS s1 ([58, 58] : Str)).2.1)), .bool ((cutS s1 ([58, 58] : Str)).2.2)]) (want_none) rfl (q_move rfl) ?_
  refine HO.val (v := .string (bs ((cutS s1 ([58, 58] : Str)).1))) (want_none) rfl (q_extract rfl rfl) ?_
  refine HO.val (v := .string (bs ((cutS s1 ([58, 58] : Str)).2.1))) (want_none) rfl (q_extract rfl rfl) ?_
  refine HO.val (v := .bool ((cutS s1 ([58, 58] : Str)).2.2)) (want_none) rfl (q_extract rfl rfl) ?_
  refine HO.val (v := .string (bs ((cutS s1 ([58, 58] : Str)).1))) (want_none) rfl (q_assign rfl) ?_
  refine HO.val (v := .string (bs ((cutS s1 ([58, 58] : Str)).2.1))) (want_none) rfl (q_assign rfl) ?_
  refine HO.val (v := .bool ((cutS s1 ([58, 58] : Str)).2.2)) (want_none) rfl (q_assign rfl) ?_
  refine HO.nil (thenQ_normal (?_))
  refine HW.seq ?_
  refine HW.region ?_
  refine HO.val (v := .string (bs ((cutS s1 ([58, 58] : Str)).1))) (want_none) rfl (q_move rfl) ?_
  refine HO.call (want_none) rfl (ec en_31 rfl rfl) (addr_numbers_walk (fr := (fr)) ((cutS s1 ([58, 58] : Str)).1) [58] 16 2 gm gvS gbS gvR gbR hS hG_0 hG_1 hE_gvS hG_2 hE_gvR hD hM) ?_
  rintro _ h_2 ⟨F_1, r0_2, r1_2, rfl, hk, hS, _, _, _, _, _, hM⟩
  replace hK := hK.trans hk
  replace hG_0 := hG_0.kp hk
  replace hG_1 := hG_1.kp hk
  replace hE_gvS := hE_gvS.kp hk
  replace hG_2 := hG_2.kp hk
  replace hE_gvR := hE_gvR.kp hk
  refine HO.val (v := .tuple #[.string (bs r0_2), .bool r1_2]) (want_none) rfl (q_move rfl) ?_
  refine HO.val (v := .string (bs r0_2)) (want_none) rfl (q_extract rfl rfl) ?_
  refine HO.val (v := .bool r1_2) (want_none) rfl (q_extract rfl rfl) ?_
  refine HO.val (v := .string (bs r0_2)) (want_none) rfl (q_assign rfl) ?_
  refine HO.val (v := .bool r1_2) (want_none) rfl (q_assign rfl) ?_
  refine HO.nil (thenQ_normal (?_))
  refine HW.seq ?_
  refine HW.region ?_
  refine HO.val (v := .string (bs ((cutS s1 ([58, 58] : Str)).2.1))) (want_none) rfl (q_move rfl) ?_
  refine HO.call (want_none) rfl (ec en_31 rfl rfl) (addr_numbers_walk (fr := (fr)) ((cutS s1 ([58, 58] : Str)).2.1) [58] 16 2 gm gvS gbS gvR gbR hS hG_0 hG_1 hE_gvS hG_2 hE_gvR hD hM) ?_
  rintro _ h_3 ⟨F_2, r0_3, r1_3, rfl, hk, hS, _, _, _, _, _, hM⟩
  replace hK := hK.trans hk
  replace hG_0 := hG_0.kp hk
  replace hG_1 := hG_1.kp hk
  replace hE_gvS := hE_gvS.kp hk
  replace hG_2 := hG_2.kp hk
  replace hE_gvR := hE_gvR.kp hk
  refine HO.val (v := .tuple #[.string (bs r0_3), .bool r1_3]) (want_none) rfl (q_move rfl) ?_
  refine HO.val (v := .string (bs r0_3)) (want_none) rfl (q_extract rfl rfl) ?_
  refine HO.val (v := .bool r1_3) (want_none) rfl (q_extract rfl rfl) ?_
  refine HO.val (v := .string (bs r0_3)) (want_none) rfl (q_assign rfl) ?_
  refine HO.val (v := .bool r1_3) (want_none) rfl (q_assign rfl) ?_
  refine HO.nil (thenQ_normal (?_))
  refine HW.seq_mid (fun f h => ∃ (F' : Fz) (a_1 : Str), f 2 = .string (bs []) ∧ f 3 = .bool false ∧ f 7 = .string (bs a_1) ∧ f 8 = .bool r1_2 ∧ f 9 = .string (bs r0_3) ∧ f 10 = .bool r1_3 ∧ Kp F h0 F' h ∧ St F' (fr) h ∧ (RoF (Ow.box 0 3 #[.int .i64 gm]) F' h) ∧ (RoF (Ow.box 1 53 #[gvS]) F' h) ∧ (ErrF gbS gvS F' h) ∧ (RoF (Ow.box 2 53 #[gvR]) F' h) ∧ (ErrF gbR gvR F' h) ∧ addr_parse6_j1 Q r1_2 r0_3 r1_3 a_1) ?_ ?_
  · refine HW.seq ?_
    refine HW.region ?_
    refine HO.val (v := .string (bs r0_2)) (want_none) rfl (q_move rfl) ?_
    refine HO.val (v := .int .i64 (r0_2.length : Int)) (want_none) rfl (q_lenT Tryz.underlying9 rfl rfl) ?_
    obtain ⟨ho_2, hM⟩ := hM
    refine HO.val (v := .int .i64 (16 - (r0_2.length : Int))) (want_none) rfl (q_subN _ rfl rfl rfl ho_2.1 ho_2.2) ?_
    refine HO.val (v := .string (bs r0_3)) (want_none) rfl (q_move rfl) ?_
    refine HO.val (v := .int .i64 (r0_3.length : Int)) (want_none) rfl (q_lenT Tryz.underlying9 rfl rfl) ?_
    obtain ⟨ho_3, hM⟩ := hM
    refine HO.val (v := .int .i64 ((16 - (r0_2.length : Int)) - (r0_3.length : Int))) (want_none) rfl (q_subN _ rfl rfl rfl ho_3.1 ho_3.2) ?_
    refine HO.val (v := .int .i64 ((16 - (r0_2.length : Int)) - (r0_3.length : Int))) (want_none) rfl (q_assign rfl) ?_
    refine HO.nil (thenQ_normal (?_))
    refine HW.seq_mid (fun f h => ∃ (F' : Fz) (b_1 : Bool), f 2 = .string (bs []) ∧ f 3 = .bool false ∧ f 7 = .string (bs r0_2) ∧ f 8 = .bool r1_2 ∧ f 9 = .string (bs r0_3) ∧ f 10 = .bool r1_3 ∧ f 11 = .int .i64 ((16 - (r0_2.length : Int)) - (r0_3.length : Int)) ∧ f 38 = .bool b_1 ∧ Kp F h0 F' h ∧ St F' (fr) h ∧ (RoF (Ow.box 0 3 #[.int .i64 gm]) F' h) ∧ (RoF (Ow.box 1 53 #[gvS]) F' h) ∧ (ErrF gbS gvS F' h) ∧ (RoF (Ow.box 2 53 #[gvR]) F' h) ∧ (ErrF gbR gvR F' h) ∧ addr_parse6_j2 Q r0_2 r1_2 r0_3 r1_3 b_1) ?_ ?_
    · refine HW.region ?_
      refine HO.val (v := .bool ((cutS s1 ([58, 58] : Str)).2.2)) (want_none) rfl (q_move rfl) ?_
      refine HO.val (v := .bool ((cutS s1 ([58, 58] : Str)).2.2)) (want_none) rfl (q_move rfl) ?_
      rcases Bool.eq_false_or_eq_true ((cutS s1 ([58, 58] : Str)).2.2) with c_1 | c_1
      · replace hM := hM.1 c_1
        refine HO.val (v := .int .i64 ((16 - (r0_2.length : Int)) - (r0_3.length : Int))) (want_by rfl rfl c_1) rfl (q_move rfl) ?_
        refine HO.val (v := .bool (decide (0 < ((16 - (r0_2.length : Int)) - (r0_3.length : Int))))) (want_by rfl rfl c_1) rfl (q_gtr rfl rfl) ?_
        refine HO.val (v := .bool (decide (0 < ((16 - (r0_2.length : Int)) - (r0_3.length : Int))))) (want_none) rfl (q_pickK true rfl c_1 rfl) ?_
        refine HO.nil (thenQ_normal (?_))
        exact ⟨F_2, decide (0 < ((16 - (r0_2.length : Int)) - (r0_3.length : Int))), rfl, rfl, rfl, rfl, rfl, rfl, rfl, rfl, hK, hS, hG_0, hG_1, hE_gvS, hG_2, hE_gvR, hM⟩
      · replace hM := hM.2 c_1
        refine HO.past (past_by rfl rfl c_1) rfl ?_
        refine HO.past (past_by rfl rfl c_1) rfl ?_
        refine HO.val (v := .bool false) (want_none) rfl (q_pickK false rfl c_1 rfl) ?_
        refine HO.nil (thenQ_normal (?_))
        exact ⟨F_2, false, rfl, rfl, rfl, rfl, rfl, rfl, rfl, rfl, hK, hS, hG_0, hG_1, hE_gvS, hG_2, hE_gvR, hM⟩
    · rintro f_1 h_4 ⟨F_3, b_1, e2, e3, e7, e8, e9, e10, e11, e38, hK, hS, hG_0, hG_1, hE_gvS, hG_2, hE_gvR, hM⟩
      unfold addr_parse6_j2 at hM
      refine HW.fr [(2, .string (bs [])), (3, .bool false), (7, .string (bs r0_2)), (8, .bool r1_2), (9, .string (bs r0_3)), (10, .bool r1_3), (11, .int .i64 ((16 - (r0_2.length : Int)) - (r0_3.length : Int))), (38, .bool b_1)] ⟨e2, e3, e7, e8, e9, e10, e11, e38, trivial⟩ ?_
      refine HW.cond b_1 rfl (fun c_2 => ?_) (fun c_2 => ?_)
      · replace hM := hM.1 c_2
        refine HW.region ?_
        refine HO.val (v := .string (bs r0_2)) (want_none) rfl (q_move rfl) ?_
        refine HO.val (v := .int .i64 ((16 - (r0_2.length : Int)) - (r0_3.length : Int))) (want_none) rfl (q_move rfl) ?_
        obtain ⟨ho_4, hM⟩ := hM
        refine HO.call (want_none) rfl (ec en_44 rfl rfl) (strRepeat_hc hD Tryz.rep Tryz.repX  hS ([0] : Str) ((16 - (r0_2.length : Int)) - (r0_3.length : Int)) ho_4) ?_
        rintro _ h_5 ⟨rfl, hS, hk⟩
        replace hK := hK.trans hk
        replace hG_0 := hG_0.kp hk
        replace hG_1 := hG_1.kp hk
        replace hE_gvS := hE_gvS.kp hk
        replace hG_2 := hG_2.kp hk
        replace hE_gvR := hE_gvR.kp hk
        obtain ⟨ho_5, hM⟩ := hM
        refine HO.val (v := .string (bs (r0_2 ++ (repS ([0] : Str) ((16 - (r0_2.length : Int)) - (r0_3.length : Int)))))) (want_none) rfl (q_addT rfl rfl ho_5) ?_
        refine HO.val (v := .string (bs (r0_2 ++ (repS ([0] : Str) ((16 - (r0_2.length : Int)) - (r0_3.length : Int)))))) (want_none) rfl (q_assign rfl) ?_
        refine HO.nil (thenQ_normal (?_))
        exact ⟨F_3, r0_2 ++ (repS ([0] : Str) ((16 - (r0_2.length : Int)) - (r0_3.length : Int))), rfl, rfl, rfl, rfl, rfl, rfl, hK, hS, hG_0, hG_1, hE_gvS, hG_2, hE_gvR, hM⟩
      · replace hM := hM.2 c_2
        refine HW.skip (thenQ_normal (?_))
        exact ⟨F_3, r0_2, rfl, rfl, rfl, rfl, rfl, rfl, hK, hS, hG_0, hG_1, hE_gvS, hG_2, hE_gvR, hM⟩
  · rintro f_2 h_6 ⟨F_4, a_1, e2, e3, e7, e8, e9, e10, hK, hS, hG_0, hG_1, hE_gvS, hG_2, hE_gvR, hM⟩
    unfold addr_parse6_j1 at hM
    refine HW.fr [(2, .string (bs [])), (3, .bool false), (7, .string (bs a_1)), (8, .bool r1_2), (9, .string (bs r0_3)), (10, .bool r1_3)] ⟨e2, e3, e7, e8, e9, e10, trivial⟩ ?_
    refine HW.seq ?_
    refine HW.region ?_
    refine HO.val (v := .string (bs a_1)) (want_none) rfl (q_move rfl) ?_
    refine HO.val (v := .string (bs r0_3)) (want_none) rfl (q_move rfl) ?_
    obtain ⟨ho_6, hM⟩ := hM
    refine HO.val (v := .string (bs (a_1 ++ r0_3))) (want_none) rfl (q_addT rfl rfl ho_6) ?_
    refine HO.val (v := .bool r1_2) (want_none) rfl (q_move rfl) ?_
    refine HO.val (v := .bool r1_2) (want_none) rfl (q_move rfl) ?_
    rcases Bool.eq_false_or_eq_true r1_2 with c_3 | c_3
    · replace hM := hM.1 c_3
      refine HO.val (v := .bool r1_3) (want_by rfl rfl c_3) rfl (q_move rfl) ?_
      refine HO.val (v := .bool r1_3) (want_none) rfl (q_pickK true rfl c_3 rfl) ?_
      refine HO.val (v := .string (bs (a_1 ++ r0_3))) (want_none) rfl (q_assign rfl) ?_
      refine HO.val (v := .bool r1_3) (want_none) rfl (q_assign rfl) ?_
      refine HO.nil (thenQ_normal (?_))
      refine HW.ret (?_)
      refine ⟨.inr rfl, .tuple #[.string (bs (a_1 ++ r0_3)), .bool r1_3], res2 rfl (rt rfl) (rt rfl), ?_⟩
      exact ⟨F_4, a_1 ++ r0_3, r1_3, rfl, hK, hS, hG_0, hG_1, hE_gvS, hG_2, hE_gvR, hM⟩
    · replace hM := hM.2 c_3
      refine HO.past (past_by rfl rfl c_3) rfl ?_
      refine HO.val (v := .bool false) (want_none) rfl (q_pickK false rfl c_3 rfl) ?_
      refine HO.val (v := .string (bs (a_1 ++ r0_3))) (want_none) rfl (q_assign rfl) ?_
      refine HO.val (v := .bool false) (want_none) rfl (q_assign rfl) ?_
      refine HO.nil (thenQ_normal (?_))
      refine HW.ret (?_)
      refine ⟨.inr rfl, .tuple #[.string (bs (a_1 ++ r0_3)), .bool false], res2 rfl (rt rfl) (rt rfl), ?_⟩
      exact ⟨F_4, a_1 ++ r0_3, false, rfl, hK, hS, hG_0, hG_1, hE_gvS, hG_2, hE_gvR, hM⟩

def addr_Read_j1 (s1 : Str) (Q : T_api_Addr → Int → Prop) : Prop :=
  Q (decide ((s1.length : Int) = 16), (cpyB (default : Ba 16) s1)) 0
def addr_Read_W (s1 : Str) (Q : T_api_Addr → Int → Prop) : Prop :=
  (¬ ((s1.length : Int) = 4) → (¬ ((s1.length : Int) = 16) → Q (false, (default : Ba 16)) 2) ∧ ((s1.length : Int) = 16 → addr_Read_j1 s1 Q)) ∧ ((s1.length : Int) = 4 → addr_Read_j1 s1 Q)
set_option maxHeartbeats 40000000 in
set_option maxRecDepth 100000 in
theorem addr_Read_walk {F : Fz} {fr : List Ow} {h0 : Heap} (s1 : Str) (hS : St F (fr) h0)  {Q : T_api_Addr → Int → Prop} (hM : addr_Read_W s1 Q) :
    HC Tryz.prog 34 #[.string (bs s1)] h0 fun u h' => ∃ (F' : Fz) (r0_1 : T_api_Addr) (r1_1 : Int), u = .tuple #[.agg (e_api_Addr r0_1).toArray, .int .i64 r1_1] ∧ Kp F h0 F' h' ∧ St F' (fr) h' ∧ Q r0_1 r1_1 := by
  unfold addr_Read_W at hM
  have hK := Kp.refl F h0
  refine HC.of_HW (n := 23) Tryz.func34 rfl rfl (Nat.le_of_ble_eq_true rfl) ?_
  refine HW.seq ?_
  refine HW.region ?_
  refine HO.eff (want_none) rfl (st_alloc (c := (e_api_Addr (false, (default : Ba 16))).toArray) hS tz_24 rfl) ?_
  rintro _ h_1 ⟨b_1, rfl, hS, hk⟩
  replace hK := hK.trans hk
  refine HO.val (v := .int .i64 0) (want_none) rfl (q_assign rfl) ?_
  refine HO.nil (thenQ_normal (?_))
  refine HW.seq ?_
  refine HW.region ?_
  refine HO.eff (want_none) rfl (st_alloc (c := (e_api_Addr (false, (default : Ba 16))).toArray) hS tz_24 rfl) ?_
  rintro _ h_2 ⟨b_2, rfl, hS, hk⟩
  replace hK := hK.trans hk
  refine HO.nil (thenQ_normal (?_))
  refine HW.seq_mid (fun f h => ∃ (F' : Fz), f 0 = .string (bs s1) ∧ f 2 = .pointer (some ⟨b_1, 0, none⟩) ∧ f 3 = .int .i64 0 ∧ f 4 = .pointer (some ⟨b_2, 0, none⟩) ∧ Kp F h0 F' h ∧ St F' (Ow.box b_1 24 (e_api_Addr (false, (default : Ba 16))).toArray :: Ow.box b_2 24 (e_api_Addr (false, (default : Ba 16))).toArray :: fr) h ∧ addr_Read_j1 s1 Q) ?_ ?_
  · refine HW.seq ?_
    refine HW.region ?_
    refine HO.val (v := .string (bs s1)) (want_none) rfl (q_move rfl) ?_
    refine HO.val (v := .int .i64 (s1.length : Int)) (want_none) rfl (q_lenT Tryz.underlying9 rfl rfl) ?_
    refine HO.val (v := .bool (!decide ((s1.length : Int) = 4))) (want_none) rfl (q_neq rfl rfl) ?_
    refine HO.val (v := .bool (!decide ((s1.length : Int) = 4))) (want_none) rfl (q_move rfl) ?_
    rcases Bool.eq_false_or_eq_true (!decide ((s1.length : Int) = 4)) with c_1 | c_1
    · replace hM := hM.1 (nd_true c_1)
      refine HO.val (v := .string (bs s1)) (want_by rfl rfl c_1) rfl (q_move rfl) ?_
      refine HO.val (v := .int .i64 (s1.length : Int)) (want_by rfl rfl c_1) rfl (q_lenT Tryz.underlying9 rfl rfl) ?_
      refine HO.val (v := .bool (!decide ((s1.length : Int) = 16))) (want_by rfl rfl c_1) rfl (q_neq rfl rfl) ?_
      refine HO.val (v := .bool (!decide ((s1.length : Int) = 16))) (want_none) rfl (q_pickK true rfl c_1 rfl) ?_
      refine HO.nil (thenQ_normal (?_))
      refine HW.cond (!decide ((s1.length : Int) = 16)) rfl (fun c_2 => ?_) (fun c_2 => ?_)
      · replace hM := hM.1 (nd_true c_2)
        refine HW.seq ?_
        refine HW.region ?_
        refine HO.val (v := .agg (e_api_Addr (false, (default : Ba 16))).toArray) (want_none) rfl (q_loadAgg (cs := (e_api_Addr (false, (default : Ba 16)))) ta_24 rfl rfl (Blk.cells (k := 17) (hS.box 0 rfl) rfl)) ?_
        refine HO.sto (want_none) rfl (st_storeAgg (c' := (e_api_Addr (false, (default : Ba 16))).toArray) hS (i := 1) rfl ta_24 rfl rfl rfl (one_e_api_Addr _) (Nat.le_of_ble_eq_true rfl) rfl) ?_
        rintro h_3 ⟨hS, hk⟩
        replace hS : St F (Ow.box b_2 24 (e_api_Addr (false, (default : Ba 16))).toArray :: Ow.box b_1 24 (e_api_Addr (false, (default : Ba 16))).toArray :: fr) h_3 := hS
        replace hK := hK.trans hk
        refine HO.val (v := .int .i64 2) (want_none) rfl (q_assign rfl) ?_
        refine HO.nil (thenQ_normal (?_))
        refine HW.ret (thenQ_ret (?_))
        refine ⟨.inr rfl, .tuple #[.agg (e_api_Addr (false, (default : Ba 16))).toArray, .int .i64 2], res2 rfl (rca (cs := (e_api_Addr (false, (default : Ba 16)))) ta_24 rfl rfl (Blk.cells (k := 17) (hS.box 1 rfl) rfl)) (rt rfl), ?_⟩
        replace hS : St F (fr) h_3 := hS.perm2 [] 2 rfl rfl
        exact ⟨F, (false, (default : Ba 16)), 2, rfl, hK, hS, hM⟩
      · replace hM := hM.2 (nd_false c_2)
        refine HW.skip (thenQ_normal (?_))
        replace hS : St F (Ow.box b_1 24 (e_api_Addr (false, (default : Ba 16))).toArray :: Ow.box b_2 24 (e_api_Addr (false, (default : Ba 16))).toArray :: fr) h_2 := hS.perm2 [1, 0] 2 rfl rfl
        exact ⟨F, rfl, rfl, rfl, rfl, hK, hS, hM⟩
    · replace hM := hM.2 (nd_false c_1)
      refine HO.past (past_by rfl rfl c_1) rfl ?_
      refine HO.past (past_by rfl rfl c_1) rfl ?_
      refine HO.past (past_by rfl rfl c_1) rfl ?_
      refine HO.val (v := .bool false) (want_none) rfl (q_pickK false rfl c_1 rfl) ?_
      refine HO.nil (thenQ_normal (?_))
      refine HW.condF rfl ?_
      refine HW.skip (thenQ_normal (?_))
      replace hS : St F (Ow.box b_1 24 (e_api_Addr (false, (default : Ba 16))).toArray :: Ow.box b_2 24 (e_api_Addr (false, (default : Ba 16))).toArray :: fr) h_2 := hS.perm2 [1, 0] 2 rfl rfl
      exact ⟨F, rfl, rfl, rfl, rfl, hK, hS, hM⟩
  · rintro f_1 h_4 ⟨F_1, e0, e2, e3, e4, hK, hS, hM⟩
    unfold addr_Read_j1 at hM
    refine HW.fr [(0, .string (bs s1)), (2, .pointer (some ⟨b_1, 0, none⟩)), (3, .int .i64 0), (4, .pointer (some ⟨b_2, 0, none⟩))] ⟨e0, e2, e3, e4, trivial⟩ ?_
    refine HW.seq ?_
    refine HW.region ?_
    refine HO.val (v := .string (bs s1)) (want_none) rfl (q_move rfl) ?_
    refine HO.val (v := .int .i64 (s1.length : Int)) (want_none) rfl (q_lenT Tryz.underlying9 rfl rfl) ?_
    refine HO.val (v := .bool (decide ((s1.length : Int) = 16))) (want_none) rfl (q_eql rfl rfl) ?_
    refine HO.val (v := .pointer (some ⟨b_2, 0, none⟩)) (want_none) rfl (q_fieldAddr fa_24_0 rfl rfl) ?_
    refine HO.sto (want_none) rfl (st_store (c' := (e_api_Addr (decide ((s1.length : Int) = 16), (default : Ba 16))).toArray) hS (i := 1) rfl to_4 rfl rfl rfl rfl (Nat.le_of_ble_eq_true rfl) rfl) ?_
    rintro h_5 ⟨hS, hk⟩
    replace hS : St F_1 (Ow.box b_1 24 (e_api_Addr (false, (default : Ba 16))).toArray :: Ow.box b_2 24 (e_api_Addr (decide ((s1.length : Int) = 16), (default : Ba 16))).toArray :: fr) h_5 := hS
    replace hK := hK.trans hk
    refine HO.nil (thenQ_normal (?_))
    refine HW.seq ?_
    refine HW.region ?_
    refine HO.val (v := .pointer (some ⟨b_2, 1, none⟩)) (want_none) rfl (q_fieldAddr fa_24_1 rfl rfl) ?_
    refine HO.val (v := arrV b_2 1 16 0 16) (want_none) rfl (q_sliceA (o := 1) (lo := 0) (hi := 16) (kl := .i64) (kh := .i64) tr_22 rfl (.inl ⟨rfl, rfl⟩) (.inl ⟨rfl, rfl⟩) ⟨by decide, by decide, by decide⟩) ?_
    refine HO.val (v := .string (bs s1)) (want_none) rfl (q_move rfl) ?_
    refine HO.eff (want_none) rfl (st_copyA (n := 16) (o := 1) (X := (default : Ba 16)) (s := s1) (c' := (e_api_Addr (decide ((s1.length : Int) = 16), (cpyB (default : Ba 16) s1))).toArray) hS (i := 1) rfl ts_36 rfl rfl rfl rfl rfl (by decide)) ?_
    rintro _ h_6 ⟨rfl, hS, hk⟩
    replace hS : St F_1 (Ow.box b_1 24 (e_api_Addr (false, (default : Ba 16))).toArray :: Ow.box b_2 24 (e_api_Addr (decide ((s1.length : Int) = 16), (cpyB (default : Ba 16) s1))).toArray :: fr) h_6 := hS
    replace hK := hK.trans hk
    refine HO.nil (thenQ_normal (?_))
    refine HW.seq ?_
    refine HW.region ?_
    refine HO.val (v := .agg (e_api_Addr (decide ((s1.length : Int) = 16), (cpyB (default : Ba 16) s1))).toArray) (want_none) rfl (q_loadAgg (cs := (e_api_Addr (decide ((s1.length : Int) = 16), (cpyB (default : Ba 16) s1)))) ta_24 rfl rfl (Blk.cells (k := 17) (hS.box 1 rfl) rfl)) ?_
    refine HO.sto (want_none) rfl (st_storeAgg (c' := (e_api_Addr (decide ((s1.length : Int) = 16), (cpyB (default : Ba 16) s1))).toArray) hS (i := 0) rfl ta_24 rfl rfl rfl (one_e_api_Addr _) (Nat.le_of_ble_eq_true rfl) rfl) ?_
    rintro h_7 ⟨hS, hk⟩
    replace hS : St F_1 (Ow.box b_1 24 (e_api_Addr (decide ((s1.length : Int) = 16), (cpyB (default : Ba 16) s1))).toArray :: Ow.box b_2 24 (e_api_Addr (decide ((s1.length : Int) = 16), (cpyB (default : Ba 16) s1))).toArray :: fr) h_7 := hS
    replace hK := hK.trans hk
    refine HO.val (v := .int .i64 0) (want_none) rfl (q_assign rfl) ?_
    refine HO.nil (thenQ_normal (?_))
    refine HW.ret (?_)
    refine ⟨.inr rfl, .tuple #[.agg (e_api_Addr (decide ((s1.length : Int) = 16), (cpyB (default : Ba 16) s1))).toArray, .int .i64 0], res2 rfl (rca (cs := (e_api_Addr (decide ((s1.length : Int) = 16), (cpyB (default : Ba 16) s1)))) ta_24 rfl rfl (Blk.cells (k := 17) (hS.box 0 rfl) rfl)) (rt rfl), ?_⟩
    replace hS : St F_1 (fr) h_7 := hS.perm2 [] 2 rfl rfl
    exact ⟨F_1, (decide ((s1.length : Int) = 16), (cpyB (default : Ba 16) s1)), 0, rfl, hK, hS, hM⟩

def addr_word_W (a : T_api_Addr) (i : Int) (Q : Int → Prop) : Prop :=
  (I64 (2 * i)) ∧ (((0 : Int) ≤ 2 * i ∧ 2 * i < 16) ∧ ((I64 ((2 * i) + 1)) ∧ (((0 : Int) ≤ (2 * i) + 1 ∧ (2 * i) + 1 < 16) ∧ (Q (bits .or .u64 (IntKind.u64.wrap ((IntKind.u64.wrap (b8 a.2 (2 * i))) * 2 ^ (min (8 : Int).toNat IntKind.u64.bits))) (IntKind.u64.wrap (b8 a.2 ((2 * i) + 1))))))))
set_option maxHeartbeats 40000000 in
set_option maxRecDepth 100000 in
theorem addr_word_walk {F : Fz} {fr : List Ow} {h0 : Heap} (a : T_api_Addr) (i : Int) (hS : St F (fr) h0)  {Q : Int → Prop} (hM : addr_word_W a i Q) :
    HC Tryz.prog 61 #[.agg (e_api_Addr a).toArray, .int .i64 i] h0 fun u h' => ∃ (F' : Fz) (r_1 : Int), u = .int .u64 r_1 ∧ Kp F h0 F' h' ∧ St F' (fr) h' ∧ Q r_1 := by
  unfold addr_word_W at hM
  have hK := Kp.refl F h0
  refine HC.of_HW (n := 20) Tryz.func61 rfl rfl (Nat.le_of_ble_eq_true rfl) ?_
  refine HW.seq ?_
  refine HW.region ?_
  refine HO.eff (want_none) rfl (st_box (c := (e_api_Addr a).toArray) (k' := 17) hS rfl rfl) ?_
  rintro _ h_1 ⟨b_1, rfl, hS, hk⟩
  replace hK := hK.trans hk
  refine HO.val (v := .int .u64 0) (want_none) rfl (q_assign rfl) ?_
  refine HO.nil (thenQ_normal (?_))
  refine HW.seq ?_
  refine HW.regionA 16 mixed (fun h => (Blk h b_1 (.cells (e_api_Addr a).toArray 24 (0, 0)))) [] (by kernel_rfl) ?_
  refine HA.val (k := 0) (v := .int .i64 i) rfl rfl (by kernel_rfl) (by kernel_rfl) (want_none) rfl (fun _ c201 => q_move rfl) ?_
  obtain ⟨ho_1, hM⟩ := hM
  refine HA.val (k := 1) (v := .int .i64 (2 * i)) rfl rfl (by kernel_rfl) (by kernel_rfl) (want_none) rfl (fun _ c201 => q_mulN _ rfl rfl rfl ho_1.1 ho_1.2) ?_
  refine HA.val (k := 2) (v := .pointer (some ⟨b_1, 1, none⟩)) rfl rfl (by kernel_rfl) (by kernel_rfl) (want_none) rfl (fun _ c201 => q_fieldAddr fa_24_1 rfl rfl) ?_
  obtain ⟨ho_2, hM⟩ := hM
  refine HA.val (k := 3) (v := .pointer (some ⟨b_1, 1 + (2 * i).toNat, none⟩)) rfl rfl (by kernel_rfl) (by kernel_rfl) (want_none) rfl (fun _ c201 => q_idxA (o := 1) (t := 2 * i) tr_22 rfl rfl ho_2) ?_
  refine HA.val (k := 4) (v := .int .u8 (b8 a.2 (2 * i))) rfl rfl (by kernel_rfl) (by kernel_rfl) (want_none) rfl (fun _ c201 => q_ldArr (o := 1) (t := 2 * i) (X := a.2) to_5 rfl c201 rfl ho_2) ?_
  refine HA.val (k := 5) (v := .int .u64 (IntKind.u64.wrap (b8 a.2 (2 * i)))) rfl rfl (by kernel_rfl) (by kernel_rfl) (want_none) rfl (fun _ c201 => q_convInt (n := b8 a.2 (2 * i)) Tryz.underlying5 Tryz.underlying51 rfl rfl) ?_
  refine HA.val (k := 6) (v := .int .u64 (IntKind.u64.wrap ((IntKind.u64.wrap (b8 a.2 (2 * i))) * 2 ^ (min (8 : Int).toNat IntKind.u64.bits)))) rfl rfl (by kernel_rfl) (by kernel_rfl) (want_none) rfl (fun _ c201 => q_shl rfl rfl (by decide) rfl) ?_
  refine HA.val (k := 7) (v := .int .i64 i) rfl rfl (by kernel_rfl) (by kernel_rfl) (want_none) rfl (fun _ c201 => q_move rfl) ?_
  refine HA.val (k := 8) (v := .int .i64 (2 * i)) rfl rfl (by kernel_rfl) (by kernel_rfl) (want_none) rfl (fun _ c201 => q_mulN _ rfl rfl rfl ho_1.1 ho_1.2) ?_
  obtain ⟨ho_3, hM⟩ := hM
  refine HA.val (k := 9) (v := .int .i64 ((2 * i) + 1)) rfl rfl (by kernel_rfl) (by kernel_rfl) (want_none) rfl (fun _ c201 => q_addN _ rfl rfl rfl ho_3.1 ho_3.2) ?_
  refine HA.val (k := 10) (v := .pointer (some ⟨b_1, 1, none⟩)) rfl rfl (by kernel_rfl) (by kernel_rfl) (want_none) rfl (fun _ c201 => q_fieldAddr fa_24_1 rfl rfl) ?_
  obtain ⟨ho_4, hM⟩ := hM
  refine HA.val (k := 11) (v := .pointer (some ⟨b_1, 1 + ((2 * i) + 1).toNat, none⟩)) rfl rfl (by kernel_rfl) (by kernel_rfl) (want_none) rfl (fun _ c201 => q_idxA (o := 1) (t := (2 * i) + 1) tr_22 rfl rfl ho_4) ?_
  refine HA.val (k := 12) (v := .int .u8 (b8 a.2 ((2 * i) + 1))) rfl rfl (by kernel_rfl) (by kernel_rfl) (want_none) rfl (fun _ c201 => q_ldArr (o := 1) (t := (2 * i) + 1) (X := a.2) to_5 rfl c201 rfl ho_4) ?_
  refine HA.val (k := 13) (v := .int .u64 (IntKind.u64.wrap (b8 a.2 ((2 * i) + 1)))) rfl rfl (by kernel_rfl) (by kernel_rfl) (want_none) rfl (fun _ c201 => q_convInt (n := b8 a.2 ((2 * i) + 1)) Tryz.underlying5 Tryz.underlying51 rfl rfl) ?_
  refine HA.val (k := 14) (v := .int .u64 (bits .or .u64 (IntKind.u64.wrap ((IntKind.u64.wrap (b8 a.2 (2 * i))) * 2 ^ (min (8 : Int).toNat IntKind.u64.bits))) (IntKind.u64.wrap (b8 a.2 ((2 * i) + 1))))) rfl rfl (by kernel_rfl) (by kernel_rfl) (want_none) rfl (fun _ c201 => q_bits (by simp) rfl rfl) ?_
  refine HA.val (k := 15) (v := .int .u64 (bits .or .u64 (IntKind.u64.wrap ((IntKind.u64.wrap (b8 a.2 (2 * i))) * 2 ^ (min (8 : Int).toNat IntKind.u64.bits))) (IntKind.u64.wrap (b8 a.2 ((2 * i) + 1))))) rfl rfl (by kernel_rfl) (by kernel_rfl) (want_none) rfl (fun _ c201 => q_assign rfl) ?_
  refine HA.nil ⟨(hS.box 0 rfl), (Go.Wk.at_nil _ _)⟩ (by kernel_rfl) (thenQ_normal (?_))
  refine HW.ret (?_)
  refine ⟨.inr rfl, .int .u64 (bits .or .u64 (IntKind.u64.wrap ((IntKind.u64.wrap (b8 a.2 (2 * i))) * 2 ^ (min (8 : Int).toNat IntKind.u64.bits))) (IntKind.u64.wrap (b8 a.2 ((2 * i) + 1)))), res1 rfl (rt rfl), ?_⟩
  replace hS : St F (fr) h_1 := hS.perm2 [] 1 rfl rfl
  exact ⟨F, bits .or .u64 (IntKind.u64.wrap ((IntKind.u64.wrap (b8 a.2 (2 * i))) * 2 ^ (min (8 : Int).toNat IntKind.u64.bits))) (IntKind.u64.wrap (b8 a.2 ((2 * i) + 1))), rfl, hK, hS, hM⟩

def addr_row_j1 (n_1 : Int) (most_1 : Int) (i_1 : Int) (K_1 : Int → Int → Int → Prop) (n_2 : Int) : Prop :=
  (most_1 < n_2 → (I64 (n_2 + 1)) ∧ ((I64 (i_1 + (n_2 + 1))) ∧ (K_1 i_1 n_2 (i_1 + (n_2 + 1))))) ∧ (¬ (most_1 < n_2) → (I64 (n_2 + 1)) ∧ ((I64 (i_1 + (n_2 + 1))) ∧ (K_1 n_1 most_1 (i_1 + (n_2 + 1)))))
def addr_row_l2 (a : T_api_Addr) (n_1 : Int) (most_1 : Int) (i_1 : Int) (K_1 : Int → Int → Int → Prop) (K_2 : Int → Prop) (n_3 : Int) : Prop :=
  (I64 (i_1 + n_3)) ∧ (((i_1 + n_3) < 8 → addr_word_W a (i_1 + n_3) (fun r_1 => (r_1 = 0 → (I64 (n_3 + 1)) ∧ (K_2 (n_3 + 1))) ∧ (¬ (r_1 = 0) → addr_row_j1 n_1 most_1 i_1 K_1 n_3))) ∧ (¬ ((i_1 + n_3) < 8) → addr_row_j1 n_1 most_1 i_1 K_1 n_3))
def addr_row_l1 (a : T_api_Addr) (Q : Int → Int → Prop) (K_1 : Int → Int → Int → Prop) (n_1 : Int) (most_1 : Int) (i_1 : Int) : Prop :=
  (i_1 < 8 → loopW (fun (K_2 : Int → Prop) (s : Int) => addr_row_l2 a n_1 most_1 i_1 K_1 K_2 s) 0) ∧ (¬ (i_1 < 8) → Q n_1 most_1)
def addr_row_W (a : T_api_Addr) (Q : Int → Int → Prop) : Prop :=
  loopW (fun (K_1 : (Int × Int × Int) → Prop) (s : Int × Int × Int) => addr_row_l1 a Q (fun n_1 most_1 i_1 => K_1 (n_1, most_1, i_1)) s.1 s.2.1 s.2.2) (0, 1, 0)
set_option maxHeartbeats 40000000 in
set_option maxRecDepth 100000 in
theorem addr_row_walk {F : Fz} {fr : List Ow} {h0 : Heap} (a : T_api_Addr) (hS : St F (fr) h0)  {Q : Int → Int → Prop} (hM : addr_row_W a Q) :
    HC Tryz.prog 46 #[.agg (e_api_Addr a).toArray] h0 fun u h' => ∃ (F' : Fz) (r0_1 : Int) (r1_1 : Int), u = .tuple #[.int .i64 r0_1, .int .i64 r1_1] ∧ Kp F h0 F' h' ∧ St F' (fr) h' ∧ Q r0_1 r1_1 := by
  unfold addr_row_W at hM
  have hK := Kp.refl F h0
  refine HC.of_HW (n := 35) Tryz.func46 rfl rfl (Nat.le_of_ble_eq_true rfl) ?_
  refine HW.seq ?_
  refine HW.region ?_
  refine HO.eff (want_none) rfl (st_box (c := (e_api_Addr a).toArray) (k' := 17) hS rfl rfl) ?_
  rintro _ h_1 ⟨b_1, rfl, hS, hk⟩
  replace hK := hK.trans hk
  refine HO.val (v := .int .i64 0) (want_none) rfl (q_assign rfl) ?_
  refine HO.val (v := .int .i64 0) (want_none) rfl (q_assign rfl) ?_
  refine HO.nil (thenQ_normal (?_))
  refine HW.seq ?_
  refine HW.region ?_
  refine HO.val (v := .int .i64 0) (want_none) rfl (q_assign rfl) ?_
  refine HO.val (v := .int .i64 1) (want_none) rfl (q_assign rfl) ?_
  refine HO.nil (thenQ_normal (?_))
  refine HW.seq ?_
  refine HW.seq ?_
  refine HW.region ?_
  refine HO.val (v := .int .i64 0) (want_none) rfl (q_assign rfl) ?_
  refine HO.nil (thenQ_normal (?_))
  refine HW.block ?_
  obtain ⟨I_1, m_1, hI_1, hR_1⟩ := hM
  refine HW.loop (S := Int × Int × Int) (fun s f h => match s with | (n_1, most_1, i_1) => ∃ (F' : Fz), f 1 = .pointer (some ⟨b_1, 0, none⟩) ∧ f 2 = .int .i64 0 ∧ f 3 = .int .i64 0 ∧ f 4 = .int .i64 n_1 ∧ f 5 = .int .i64 most_1 ∧ f 6 = .int .i64 i_1 ∧ Kp F h0 F' h ∧ St F' (Ow.box b_1 24 (e_api_Addr a).toArray :: fr) h ∧ I_1 (n_1, most_1, i_1)) m_1 (0, 1, 0) ⟨F, rfl, rfl, rfl, rfl, rfl, rfl, hK, hS, hI_1⟩ ?_
  rintro ⟨n_1, most_1, i_1⟩ f_1 h_2 ⟨F_1, e1, e2, e3, e4, e5, e6, hK, hS, hI0⟩
  obtain ⟨K_1, hKe_1⟩ : ∃ K : Int → Int → Int → Prop, K = fun n_1' most_1' i_1' => I_1 (n_1', most_1', i_1') ∧ m_1 (n_1', most_1', i_1') < m_1 (n_1, most_1, i_1) := ⟨_, rfl⟩
  have hM : addr_row_l1 a Q K_1 n_1 most_1 i_1 := by rw [hKe_1]; exact hR_1 (n_1, most_1, i_1) hI0
  unfold addr_row_l1 at hM
  refine HW.fr [(1, .pointer (some ⟨b_1, 0, none⟩)), (2, .int .i64 0), (3, .int .i64 0), (4, .int .i64 n_1), (5, .int .i64 most_1), (6, .int .i64 i_1)] ⟨e1, e2, e3, e4, e5, e6, trivial⟩ ?_
  refine HW.seq ?_
  refine HW.seq ?_
  refine HW.region ?_
  refine HO.val (v := .int .i64 i_1) (want_none) rfl (q_move rfl) ?_
  refine HO.val (v := .bool (decide (i_1 < 8))) (want_none) rfl (q_lss rfl rfl) ?_
  refine HO.nil (thenQ_normal (?_))
  refine HW.cond (decide (i_1 < 8)) rfl (fun c_1 => ?_) (fun c_1 => ?_)
  · replace hM := hM.1 (of_decide_eq_true c_1)
    refine HW.skip (thenQ_normal (?_))
    refine HW.block ?_
    refine HW.seq ?_
    refine HW.region ?_
    refine HO.val (v := .int .i64 0) (want_none) rfl (q_assign rfl) ?_
    refine HO.nil (thenQ_normal (?_))
    refine HW.seq_mid (fun f h => ∃ (F' : Fz) (n_2 : Int), f 1 = .pointer (some ⟨b_1, 0, none⟩) ∧ f 2 = .int .i64 0 ∧ f 3 = .int .i64 0 ∧ f 4 = .int .i64 n_1 ∧ f 5 = .int .i64 most_1 ∧ f 6 = .int .i64 i_1 ∧ f 7 = .int .i64 n_2 ∧ Kp F h0 F' h ∧ St F' (Ow.box b_1 24 (e_api_Addr a).toArray :: fr) h ∧ addr_row_j1 n_1 most_1 i_1 K_1 n_2) ?_ ?_
    · refine HW.block ?_
      obtain ⟨I_2, m_2, hI_2, hR_2⟩ := hM
      refine HW.loop (S := Int) (fun n_3 f h => ∃ (F' : Fz), f 1 = .pointer (some ⟨b_1, 0, none⟩) ∧ f 2 = .int .i64 0 ∧ f 3 = .int .i64 0 ∧ f 4 = .int .i64 n_1 ∧ f 5 = .int .i64 most_1 ∧ f 6 = .int .i64 i_1 ∧ f 7 = .int .i64 n_3 ∧ Kp F h0 F' h ∧ St F' (Ow.box b_1 24 (e_api_Addr a).toArray :: fr) h ∧ I_2 n_3) m_2 0 ⟨F_1, rfl, rfl, rfl, rfl, rfl, rfl, rfl, hK, hS, hI_2⟩ ?_
      rintro n_3 f_2 h_3 ⟨F_2, e1, e2, e3, e4, e5, e6, e7, hK, hS, hI0⟩
      obtain ⟨K_2, hKe_2⟩ : ∃ K : Int → Prop, K = fun n_3' => I_2 n_3' ∧ m_2 n_3' < m_2 n_3 := ⟨_, rfl⟩
      have hM : addr_row_l2 a n_1 most_1 i_1 K_1 K_2 n_3 := by rw [hKe_2]; exact hR_2 n_3 hI0
      unfold addr_row_l2 at hM
      refine HW.fr [(1, .pointer (some ⟨b_1, 0, none⟩)), (2, .int .i64 0), (3, .int .i64 0), (4, .int .i64 n_1), (5, .int .i64 most_1), (6, .int .i64 i_1), (7, .int .i64 n_3)] ⟨e1, e2, e3, e4, e5, e6, e7, trivial⟩ ?_
      refine HW.seq ?_
      refine HW.seq ?_
      refine HW.region ?_
      refine HO.val (v := .int .i64 i_1) (want_none) rfl (q_move rfl) ?_
      refine HO.val (v := .int .i64 n_3) (want_none) rfl (q_move rfl) ?_
      obtain ⟨ho_1, hM⟩ := hM
      refine HO.val (v := .int .i64 (i_1 + n_3)) (want_none) rfl (q_addN _ rfl rfl rfl ho_1.1 ho_1.2) ?_
      refine HO.val (v := .bool (decide ((i_1 + n_3) < 8))) (want_none) rfl (q_lss rfl rfl) ?_
      refine HO.val (v := .bool (decide ((i_1 + n_3) < 8))) (want_none) rfl (q_move rfl) ?_
      rcases Bool.eq_false_or_eq_true (decide ((i_1 + n_3) < 8)) with c_2 | c_2
      · replace hM := hM.1 (of_decide_eq_true c_2)
        refine HO.val (v := .agg (e_api_Addr a).toArray) (want_by rfl rfl c_2) rfl (q_loadAgg (cs := (e_api_Addr a)) ta_24 rfl rfl (Blk.cells (k := 17) (hS.box 0 rfl) rfl)) ?_
        refine HO.val (v := .int .i64 i_1) (want_by rfl rfl c_2) rfl (q_move rfl) ?_
        refine HO.val (v := .int .i64 n_3) (want_by rfl rfl c_2) rfl (q_move rfl) ?_
        refine HO.val (v := .int .i64 (i_1 + n_3)) (want_by rfl rfl c_2) rfl (q_addN _ rfl rfl rfl ho_1.1 ho_1.2) ?_
        refine HO.call (want_by rfl rfl c_2) rfl (ec en_61 rfl rfl) (addr_word_walk (fr := (Ow.box b_1 24 (e_api_Addr a).toArray :: fr)) a (i_1 + n_3) hS hM) ?_
        rintro _ h_4 ⟨F_3, r_1, rfl, hk, hS, hM⟩
        replace hK := hK.trans hk
        refine HO.val (v := .bool (decide (r_1 = 0))) (want_by rfl rfl c_2) rfl (q_eql rfl rfl) ?_
        refine HO.val (v := .bool (decide (r_1 = 0))) (want_none) rfl (q_pickK true rfl c_2 rfl) ?_
        refine HO.nil (thenQ_normal (?_))
        refine HW.cond (decide (r_1 = 0)) rfl (fun c_3 => ?_) (fun c_3 => ?_)
        · replace hM := hM.1 (of_decide_eq_true c_3)
          refine HW.skip (thenQ_normal (?_))
          refine HW.block ?_
          refine HW.region ?_
          refine HO.val (v := .int .i64 n_3) (want_none) rfl (q_move rfl) ?_
          obtain ⟨ho_2, hM⟩ := hM
          refine HO.val (v := .int .i64 (n_3 + 1)) (want_none) rfl (q_addN _ rfl rfl rfl ho_2.1 ho_2.2) ?_
          refine HO.val (v := .int .i64 (n_3 + 1)) (want_none) rfl (q_assign rfl) ?_
          refine HO.nil (blockQ_normal (thenQ_normal (?_)))
          rw [hKe_2] at hM
          exact ⟨n_3 + 1, ⟨F_3, rfl, rfl, rfl, rfl, rfl, rfl, rfl, hK, hS, hM.1⟩, hM.2⟩
        · replace hM := hM.2 (of_decide_eq_false c_3)
          refine HW.exit (thenQ_exit (thenQ_exit (blockQ_exit (thenQ_normal (?_)))))
          exact ⟨F_3, n_3, rfl, rfl, rfl, rfl, rfl, rfl, rfl, hK, hS, hM⟩
      · replace hM := hM.2 (of_decide_eq_false c_2)
        refine HO.past (past_by rfl rfl c_2) rfl ?_
        refine HO.past (past_by rfl rfl c_2) rfl ?_
        refine HO.past (past_by rfl rfl c_2) rfl ?_
        refine HO.past (past_by rfl rfl c_2) rfl ?_
        refine HO.past (past_by rfl rfl c_2) rfl ?_
        refine HO.past (past_by rfl rfl c_2) rfl ?_
        refine HO.val (v := .bool false) (want_none) rfl (q_pickK false rfl c_2 rfl) ?_
        refine HO.nil (thenQ_normal (?_))
        refine HW.condF rfl ?_
        refine HW.exit (thenQ_exit (thenQ_exit (blockQ_exit (thenQ_normal (?_)))))
        exact ⟨F_2, n_3, rfl, rfl, rfl, rfl, rfl, rfl, rfl, hK, hS, hM⟩
    · rintro f_3 h_5 ⟨F_4, n_2, e1, e2, e3, e4, e5, e6, e7, hK, hS, hM⟩
      unfold addr_row_j1 at hM
      refine HW.fr [(1, .pointer (some ⟨b_1, 0, none⟩)), (2, .int .i64 0), (3, .int .i64 0), (4, .int .i64 n_1), (5, .int .i64 most_1), (6, .int .i64 i_1), (7, .int .i64 n_2)] ⟨e1, e2, e3, e4, e5, e6, e7, trivial⟩ ?_
      refine HW.seq ?_
      refine HW.seq ?_
      refine HW.region ?_
      refine HO.val (v := .int .i64 n_2) (want_none) rfl (q_move rfl) ?_
      refine HO.val (v := .int .i64 most_1) (want_none) rfl (q_move rfl) ?_
      refine HO.val (v := .bool (decide (most_1 < n_2))) (want_none) rfl (q_gtr rfl rfl) ?_
      refine HO.nil (thenQ_normal (?_))
      refine HW.cond (decide (most_1 < n_2)) rfl (fun c_4 => ?_) (fun c_4 => ?_)
      · replace hM := hM.1 (of_decide_eq_true c_4)
        refine HW.region ?_
        refine HO.val (v := .int .i64 i_1) (want_none) rfl (q_move rfl) ?_
        refine HO.val (v := .int .i64 n_2) (want_none) rfl (q_move rfl) ?_
        refine HO.val (v := .int .i64 i_1) (want_none) rfl (q_assign rfl) ?_
        refine HO.val (v := .int .i64 n_2) (want_none) rfl (q_assign rfl) ?_
        refine HO.nil (thenQ_normal (?_))
        refine HW.region ?_
        refine HO.val (v := .int .i64 i_1) (want_none) rfl (q_move rfl) ?_
        refine HO.val (v := .int .i64 n_2) (want_none) rfl (q_move rfl) ?_
        obtain ⟨ho_3, hM⟩ := hM
        refine HO.val (v := .int .i64 (n_2 + 1)) (want_none) rfl (q_addN _ rfl rfl rfl ho_3.1 ho_3.2) ?_
        obtain ⟨ho_4, hM⟩ := hM
        refine HO.val (v := .int .i64 (i_1 + (n_2 + 1))) (want_none) rfl (q_addN _ rfl rfl rfl ho_4.1 ho_4.2) ?_
        refine HO.val (v := .int .i64 (i_1 + (n_2 + 1))) (want_none) rfl (q_assign rfl) ?_
        refine HO.nil (blockQ_normal (thenQ_normal (?_)))
        rw [hKe_1] at hM
        exact ⟨(i_1, n_2, i_1 + (n_2 + 1)), ⟨F_4, rfl, rfl, rfl, rfl, rfl, rfl, hK, hS, hM.1⟩, hM.2⟩
      · replace hM := hM.2 (of_decide_eq_false c_4)
        refine HW.skip (thenQ_normal (?_))
        refine HW.region ?_
        refine HO.val (v := .int .i64 i_1) (want_none) rfl (q_move rfl) ?_
        refine HO.val (v := .int .i64 n_2) (want_none) rfl (q_move rfl) ?_
        obtain ⟨ho_5, hM⟩ := hM
        refine HO.val (v := .int .i64 (n_2 + 1)) (want_none) rfl (q_addN _ rfl rfl rfl ho_5.1 ho_5.2) ?_
        obtain ⟨ho_6, hM⟩ := hM
        refine HO.val (v := .int .i64 (i_1 + (n_2 + 1))) (want_none) rfl (q_addN _ rfl rfl rfl ho_6.1 ho_6.2) ?_
        refine HO.val (v := .int .i64 (i_1 + (n_2 + 1))) (want_none) rfl (q_assign rfl) ?_
        refine HO.nil (blockQ_normal (thenQ_normal (?_)))
        rw [hKe_1] at hM
        exact ⟨(n_1, most_1, i_1 + (n_2 + 1)), ⟨F_4, rfl, rfl, rfl, rfl, rfl, rfl, hK, hS, hM.1⟩, hM.2⟩
  · replace hM := hM.2 (of_decide_eq_false c_1)
    refine HW.exit (thenQ_exit (thenQ_exit (blockQ_exit (thenQ_normal (?_)))))
    refine HW.seq ?_
    refine HW.region ?_
    refine HO.val (v := .int .i64 n_1) (want_none) rfl (q_move rfl) ?_
    refine HO.val (v := .int .i64 most_1) (want_none) rfl (q_move rfl) ?_
    refine HO.val (v := .int .i64 n_1) (want_none) rfl (q_assign rfl) ?_
    refine HO.val (v := .int .i64 most_1) (want_none) rfl (q_assign rfl) ?_
    refine HO.nil (thenQ_normal (?_))
    refine HW.ret (?_)
    refine ⟨.inr rfl, .tuple #[.int .i64 n_1, .int .i64 most_1], res2 rfl (rt rfl) (rt rfl), ?_⟩
    replace hS : St F_1 (fr) h_2 := hS.perm2 [] 1 rfl rfl
    exact ⟨F_1, n_1, most_1, rfl, hK, hS, hM⟩

def internal_strconv_small_W (i : Int) (Q : Str → Prop) : Prop :=
  (i < 10 → (I64 (i + 1)) ∧ (((0 : Int) ≤ i ∧ i ≤ i + 1 ∧ i + 1 ≤ ((([48, 49, 50, 51, 52, 53, 54, 55, 56, 57, 97, 98, 99, 100, 101, 102, 103, 104, 105, 106, 107, 108, 109, 110, 111, 112, 113, 114, 115, 116, 117, 118, 119, 120, 121, 122] : Str)).length : Int)) ∧ (Q (cut ([48, 49, 50, 51, 52, 53, 54, 55, 56, 57, 97, 98, 99, 100, 101, 102, 103, 104, 105, 106, 107, 108, 109, 110, 111, 112, 113, 114, 115, 116, 117, 118, 119, 120, 121, 122] : Str) i (i + 1))))) ∧ (¬ (i < 10) → (I64 (i * 2)) ∧ ((I64 ((i * 2) + 2)) ∧ (((0 : Int) ≤ i * 2 ∧ i * 2 ≤ (i * 2) + 2 ∧ (i * 2) + 2 ≤ ((([48, 48, 48, 49, 48, 50, 48, 51, 48, 52, 48, 53, 48, 54, 48, 55, 48, 56, 48, 57, 49, 48, 49, 49, 49, 50, 49, 51, 49, 52, 49, 53, 49, 54, 49, 55, 49, 56, 49, 57, 50, 48, 50, 49, 50, 50, 50, 51, 50, 52, 50, 53, 50, 54, 50, 55, 50, 56, 50, 57, 51, 48, 51, 49, 51, 50, 51, 51, 51, 52, 51, 53, 51, 54, 51, 55, 51, 56, 51, 57, 52, 48, 52, 49, 52, 50, 52, 51, 52, 52, 52, 53, 52, 54, 52, 55, 52, 56, 52, 57, 53, 48, 53, 49, 53, 50, 53, 51, 53, 52, 53, 53, 53, 54, 53, 55, 53, 56, 53, 57, 54, 48, 54, 49, 54, 50, 54, 51, 54, 52, 54, 53, 54, 54, 54, 55, 54, 56, 54, 57, 55, 48, 55, 49, 55, 50, 55, 51, 55, 52, 55, 53, 55, 54, 55, 55, 55, 56, 55, 57, 56, 48, 56, 49, 56, 50, 56, 51, 56, 52, 56, 53, 56, 54, 56, 55, 56, 56, 56, 57, 57, 48, 57, 49, 57, 50, 57, 51, 57, 52, 57, 53, 57, 54, 57, 55, 57, 56, 57, 57] : Str)).length : Int)) ∧ (Q (cut ([48, 48, 48, 49, 48, 50, 48, 51, 48, 52, 48, 53, 48, 54, 48, 55, 48, 56, 48, 57, 49, 48, 49, 49, 49, 50, 49, 51, 49, 52, 49, 53, 49, 54, 49, 55, 49, 56, 49, 57, 50, 48, 50, 49, 50, 50, 50, 51, 50, 52, 50, 53, 50, 54, 50, 55, 50, 56, 50, 57, 51, 48, 51, 49, 51, 50, 51, 51, 51, 52, 51, 53, 51, 54, 51, 55, 51, 56, 51, 57, 52, 48, 52, 49, 52, 50, 52, 51, 52, 52, 52, 53, 52, 54, 52, 55, 52, 56, 52, 57, 53, 48, 53, 49, 53, 50, 53, 51, 53, 52, 53, 53, 53, 54, 53, 55, 53, 56, 53, 57, 54, 48, 54, 49, 54, 50, 54, 51, 54, 52, 54, 53, 54, 54, 54, 55, 54, 56, 54, 57, 55, 48, 55, 49, 55, 50, 55, 51, 55, 52, 55, 53, 55, 54, 55, 55, 55, 56, 55, 57, 56, 48, 56, 49, 56, 50, 56, 51, 56, 52, 56, 53, 56, 54, 56, 55, 56, 56, 56, 57, 57, 48, 57, 49, 57, 50, 57, 51, 57, 52, 57, 53, 57, 54, 57, 55, 57, 56, 57, 57] : Str) (i * 2) ((i * 2) + 2))))))
set_option maxHeartbeats 40000000 in
set_option maxRecDepth 100000 in
theorem internal_strconv_small_walk {F : Fz} {fr : List Ow} {h0 : Heap} (i : Int) (hS : St F (fr) h0)  {Q : Str → Prop} (hM : internal_strconv_small_W i Q) :
    HC Tryz.prog 91 #[.int .i64 i] h0 fun u h' => ∃ (F' : Fz) (r_1 : Str), u = .string (bs r_1) ∧ Kp F h0 F' h' ∧ St F' (fr) h' ∧ Q r_1 := by
  unfold internal_strconv_small_W at hM
  have hK := Kp.refl F h0
  refine HC.of_HW (n := 15) Tryz.func91 rfl rfl (Nat.le_of_ble_eq_true rfl) ?_
  refine HW.seq ?_
  refine HW.region ?_
  refine HO.val (v := .string (bs [])) (want_none) rfl (q_assign rfl) ?_
  refine HO.nil (thenQ_normal (?_))
  refine HW.seq ?_
  refine HW.seq ?_
  refine HW.region ?_
  refine HO.val (v := .int .i64 i) (want_none) rfl (q_move rfl) ?_
  refine HO.val (v := .bool (decide (i < 10))) (want_none) rfl (q_lss rfl rfl) ?_
  refine HO.nil (thenQ_normal (?_))
  refine HW.cond (decide (i < 10)) rfl (fun c_1 => ?_) (fun c_1 => ?_)
  · replace hM := hM.1 (of_decide_eq_true c_1)
    refine HW.seq ?_
    refine HW.region ?_
    refine HO.val (v := .int .i64 i) (want_none) rfl (q_move rfl) ?_
    refine HO.val (v := .int .i64 i) (want_none) rfl (q_move rfl) ?_
    obtain ⟨ho_1, hM⟩ := hM
    refine HO.val (v := .int .i64 (i + 1)) (want_none) rfl (q_addN _ rfl rfl rfl ho_1.1 ho_1.2) ?_
    obtain ⟨ho_2, hM⟩ := hM
    refine HO.val (v := .string (bs (cut ([48, 49, 50, 51, 52, 53, 54, 55, 56, 57, 97, 98, 99, 100, 101, 102, 103, 104, 105, 106, 107, 108, 109, 110, 111, 112, 113, 114, 115, 116, 117, 118, 119, 120, 121, 122] : Str) i (i + 1)))) (want_none) rfl (q_strLH Tryz.underlying9 rfl rfl rfl ho_2) ?_
    refine HO.val (v := .string (bs (cut ([48, 49, 50, 51, 52, 53, 54, 55, 56, 57, 97, 98, 99, 100, 101, 102, 103, 104, 105, 106, 107, 108, 109, 110, 111, 112, 113, 114, 115, 116, 117, 118, 119, 120, 121, 122] : Str) i (i + 1)))) (want_none) rfl (q_assign rfl) ?_
    refine HO.nil (thenQ_normal (?_))
    refine HW.ret (thenQ_ret (?_))
    refine ⟨.inr rfl, .string (bs (cut ([48, 49, 50, 51, 52, 53, 54, 55, 56, 57, 97, 98, 99, 100, 101, 102, 103, 104, 105, 106, 107, 108, 109, 110, 111, 112, 113, 114, 115, 116, 117, 118, 119, 120, 121, 122] : Str) i (i + 1))), res1 rfl (rt rfl), ?_⟩
    exact ⟨F, cut ([48, 49, 50, 51, 52, 53, 54, 55, 56, 57, 97, 98, 99, 100, 101, 102, 103, 104, 105, 106, 107, 108, 109, 110, 111, 112, 113, 114, 115, 116, 117, 118, 119, 120, 121, 122] : Str) i (i + 1), rfl, hK, hS, hM⟩
  · replace hM := hM.2 (of_decide_eq_false c_1)
    refine HW.skip (thenQ_normal (?_))
    refine HW.seq ?_
    refine HW.region ?_
    refine HO.val (v := .int .i64 i) (want_none) rfl (q_move rfl) ?_
    obtain ⟨ho_3, hM⟩ := hM
    refine HO.val (v := .int .i64 (i * 2)) (want_none) rfl (q_mulN _ rfl rfl rfl ho_3.1 ho_3.2) ?_
    refine HO.val (v := .int .i64 i) (want_none) rfl (q_move rfl) ?_
    refine HO.val (v := .int .i64 (i * 2)) (want_none) rfl (q_mulN _ rfl rfl rfl ho_3.1 ho_3.2) ?_
    obtain ⟨ho_4, hM⟩ := hM
    refine HO.val (v := .int .i64 ((i * 2) + 2)) (want_none) rfl (q_addN _ rfl rfl rfl ho_4.1 ho_4.2) ?_
    obtain ⟨ho_5, hM⟩ := hM
    refine HO.val (v := .string (bs (cut ([48, 48, 48, 49, 48, 50, 48, 51, 48, 52, 48, 53, 48, 54, 48, 55, 48, 56, 48, 57, 49, 48, 49, 49, 49, 50, 49, 51, 49, 52, 49, 53, 49, 54, 49, 55, 49, 56, 49, 57, 50, 48, 50, 49, 50, 50, 50, 51, 50, 52, 50, 53, 50, 54, 50, 55, 50, 56, 50, 57, 51, 48, 51, 49, 51, 50, 51, 51, 51, 52, 51, 53, 51, 54, 51, 55, 51, 56, 51, 57, 52, 48, 52, 49, 52, 50, 52, 51, 52, 52, 52, 53, 52, 54, 52, 55, 52, 56, 52, 57, 53, 48, 53, 49, 53, 50, 53, 51, 53, 52, 53, 53, 53, 54, 53, 55, 53, 56, 53, 57, 54, 48, 54, 49, 54, 50, 54, 51, 54, 52, 54, 53, 54, 54, 54, 55, 54, 56, 54, 57, 55, 48, 55, 49, 55, 50, 55, 51, 55, 52, 55, 53, 55, 54, 55, 55, 55, 56, 55, 57, 56, 48, 56, 49, 56, 50, 56, 51, 56, 52, 56, 53, 56, 54, 56, 55, 56, 56, 56, 57, 57, 48, 57, 49, 57, 50, 57, 51, 57, 52, 57, 53, 57, 54, 57, 55, 57, 56, 57, 57] : Str) (i * 2) ((i * 2) + 2)))) (want_none) rfl (q_strLH Tryz.underlying9 rfl rfl rfl ho_5) ?_
    refine HO.val (v := .string (bs (cut ([48, 48, 48, 49, 48, 50, 48, 51, 48, 52, 48, 53, 48, 54, 48, 55, 48, 56, 48, 57, 49, 48, 49, 49, 49, 50, 49, 51, 49, 52, 49, 53, 49, 54, 49, 55, 49, 56, 49, 57, 50, 48, 50, 49, 50, 50, 50, 51, 50, 52, 50, 53, 50, 54, 50, 55, 50, 56, 50, 57, 51, 48, 51, 49, 51, 50, 51, 51, 51, 52, 51, 53, 51, 54, 51, 55, 51, 56, 51, 57, 52, 48, 52, 49, 52, 50, 52, 51, 52, 52, 52, 53, 52, 54, 52, 55, 52, 56, 52, 57, 53, 48, 53, 49, 53, 50, 53, 51, 53, 52, 53, 53, 53, 54, 53, 55, 53, 56, 53, 57, 54, 48, 54, 49, 54, 50, 54, 51, 54, 52, 54, 53, 54, 54, 54, 55, 54, 56, 54, 57, 55, 48, 55, 49, 55, 50, 55, 51, 55, 52, 55, 53, 55, 54, 55, 55, 55, 56, 55, 57, 56, 48, 56, 49, 56, 50, 56, 51, 56, 52, 56, 53, 56, 54, 56, 55, 56, 56, 56, 57, 57, 48, 57, 49, 57, 50, 57, 51, 57, 52, 57, 53, 57, 54, 57, 55, 57, 56, 57, 57] : Str) (i * 2) ((i * 2) + 2)))) (want_none) rfl (q_assign rfl) ?_
    refine HO.nil (thenQ_normal (?_))
    refine HW.ret (?_)
    refine ⟨.inr rfl, .string (bs (cut ([48, 48, 48, 49, 48, 50, 48, 51, 48, 52, 48, 53, 48, 54, 48, 55, 48, 56, 48, 57, 49, 48, 49, 49, 49, 50, 49, 51, 49, 52, 49, 53, 49, 54, 49, 55, 49, 56, 49, 57, 50, 48, 50, 49, 50, 50, 50, 51, 50, 52, 50, 53, 50, 54, 50, 55, 50, 56, 50, 57, 51, 48, 51, 49, 51, 50, 51, 51, 51, 52, 51, 53, 51, 54, 51, 55, 51, 56, 51, 57, 52, 48, 52, 49, 52, 50, 52, 51, 52, 52, 52, 53, 52, 54, 52, 55, 52, 56, 52, 57, 53, 48, 53, 49, 53, 50, 53, 51, 53, 52, 53, 53, 53, 54, 53, 55, 53, 56, 53, 57, 54, 48, 54, 49, 54, 50, 54, 51, 54, 52, 54, 53, 54, 54, 54, 55, 54, 56, 54, 57, 55, 48, 55, 49, 55, 50, 55, 51, 55, 52, 55, 53, 55, 54, 55, 55, 55, 56, 55, 57, 56, 48, 56, 49, 56, 50, 56, 51, 56, 52, 56, 53, 56, 54, 56, 55, 56, 56, 56, 57, 57, 48, 57, 49, 57, 50, 57, 51, 57, 52, 57, 53, 57, 54, 57, 55, 57, 56, 57, 57] : Str) (i * 2) ((i * 2) + 2))), res1 rfl (rt rfl), ?_⟩
    exact ⟨F, cut ([48, 48, 48, 49, 48, 50, 48, 51, 48, 52, 48, 53, 48, 54, 48, 55, 48, 56, 48, 57, 49, 48, 49, 49, 49, 50, 49, 51, 49, 52, 49, 53, 49, 54, 49, 55, 49, 56, 49, 57, 50, 48, 50, 49, 50, 50, 50, 51, 50, 52, 50, 53, 50, 54, 50, 55, 50, 56, 50, 57, 51, 48, 51, 49, 51, 50, 51, 51, 51, 52, 51, 53, 51, 54, 51, 55, 51, 56, 51, 57, 52, 48, 52, 49, 52, 50, 52, 51, 52, 52, 52, 53, 52, 54, 52, 55, 52, 56, 52, 57, 53, 48, 53, 49, 53, 50, 53, 51, 53, 52, 53, 53, 53, 54, 53, 55, 53, 56, 53, 57, 54, 48, 54, 49, 54, 50, 54, 51, 54, 52, 54, 53, 54, 54, 54, 55, 54, 56, 54, 57, 55, 48, 55, 49, 55, 50, 55, 51, 55, 52, 55, 53, 55, 54, 55, 55, 55, 56, 55, 57, 56, 48, 56, 49, 56, 50, 56, 51, 56, 52, 56, 53, 56, 54, 56, 55, 56, 56, 56, 57, 57, 48, 57, 49, 57, 50, 57, 51, 57, 52, 57, 53, 57, 54, 57, 55, 57, 56, 57, 57] : Str) (i * 2) ((i * 2) + 2), rfl, hK, hS, hM⟩

def internal_strconv_isPowerOfTwo_W (x : Int) (Q : Bool → Prop) : Prop :=
  (I64 (x - 1)) ∧ (Q (decide ((bits .and .i64 x (x - 1)) = 0)))
set_option maxHeartbeats 40000000 in
set_option maxRecDepth 100000 in
theorem internal_strconv_isPowerOfTwo_walk {F : Fz} {fr : List Ow} {h0 : Heap} (x : Int) (hS : St F (fr) h0)  {Q : Bool → Prop} (hM : internal_strconv_isPowerOfTwo_W x Q) :
    HC Tryz.prog 99 #[.int .i64 x] h0 fun u h' => ∃ (F' : Fz) (r_1 : Bool), u = .bool r_1 ∧ Kp F h0 F' h' ∧ St F' (fr) h' ∧ Q r_1 := by
  unfold internal_strconv_isPowerOfTwo_W at hM
  have hK := Kp.refl F h0
  refine HC.of_HW (n := 8) Tryz.func99 rfl rfl (Nat.le_of_ble_eq_true rfl) ?_
  refine HW.seq ?_
  refine HW.region ?_
  refine HO.val (v := .bool false) (want_none) rfl (q_assign rfl) ?_
  refine HO.nil (thenQ_normal (?_))
  refine HW.seq ?_
  refine HW.region ?_
  refine HO.val (v := .int .i64 x) (want_none) rfl (q_move rfl) ?_
  refine HO.val (v := .int .i64 x) (want_none) rfl (q_move rfl) ?_
  obtain ⟨ho_1, hM⟩ := hM
  refine HO.val (v := .int .i64 (x - 1)) (want_none) rfl (q_subN _ rfl rfl rfl ho_1.1 ho_1.2) ?_
  refine HO.val (v := .int .i64 (bits .and .i64 x (x - 1))) (want_none) rfl (q_bits (by simp) rfl rfl) ?_
  refine HO.val (v := .bool (decide ((bits .and .i64 x (x - 1)) = 0))) (want_none) rfl (q_eql rfl rfl) ?_
  refine HO.val (v := .bool (decide ((bits .and .i64 x (x - 1)) = 0))) (want_none) rfl (q_assign rfl) ?_
  refine HO.nil (thenQ_normal (?_))
  refine HW.ret (?_)
  refine ⟨.inr rfl, .bool (decide ((bits .and .i64 x (x - 1)) = 0)), res1 rfl (rt rfl), ?_⟩
  exact ⟨F, decide ((bits .and .i64 x (x - 1)) = 0), rfl, hK, hS, hM⟩

def math_bits_TrailingZeros64_W (x : Int) (Q : Int → Prop) : Prop :=
  (x = 0 → Q 64) ∧ (¬ (x = 0) → ((0 : Int) ≤ (IntKind.u64.wrap ((bits .and .u64 x (IntKind.u64.wrap (0 - x))) * 285870213051353865)).fdiv (2 ^ (min (58 : Int).toNat IntKind.u64.bits)) ∧ (IntKind.u64.wrap ((bits .and .u64 x (IntKind.u64.wrap (0 - x))) * 285870213051353865)).fdiv (2 ^ (min (58 : Int).toNat IntKind.u64.bits)) < 64) ∧ ((I64 (b8 tab64 ((IntKind.u64.wrap ((bits .and .u64 x (IntKind.u64.wrap (0 - x))) * 285870213051353865)).fdiv (2 ^ (min (58 : Int).toNat IntKind.u64.bits))))) ∧ (Q (b8 tab64 ((IntKind.u64.wrap ((bits .and .u64 x (IntKind.u64.wrap (0 - x))) * 285870213051353865)).fdiv (2 ^ (min (58 : Int).toNat IntKind.u64.bits)))))))
set_option maxHeartbeats 40000000 in
set_option maxRecDepth 100000 in
theorem math_bits_TrailingZeros64_walk {F : Fz} {fr : List Ow} {h0 : Heap} (x : Int) (hS : St F (fr) h0) (hG_7 : RoF (Ow.box 7 124 (arrCells tab64).toArray) F h0) {Q : Int → Prop} (hM : math_bits_TrailingZeros64_W x Q) :
    HC Tryz.prog 102 #[.int .u64 x] h0 fun u h' => ∃ (F' : Fz) (r_1 : Int), u = .int .i64 r_1 ∧ Kp F h0 F' h' ∧ St F' (fr) h' ∧ (RoF (Ow.box 7 124 (arrCells tab64).toArray) F' h') ∧ Q r_1 := by
  unfold math_bits_TrailingZeros64_W at hM
  have hK := Kp.refl F h0
  refine HC.of_HW (n := 14) Tryz.func102 rfl rfl (Nat.le_of_ble_eq_true rfl) ?_
  refine HW.seq ?_
  refine HW.region ?_
  refine HO.val (v := .int .i64 0) (want_none) rfl (q_assign rfl) ?_
  refine HO.nil (thenQ_normal (?_))
  refine HW.seq ?_
  refine HW.seq ?_
  refine HW.region ?_
  refine HO.val (v := .int .u64 x) (want_none) rfl (q_move rfl) ?_
  refine HO.val (v := .bool (decide (x = 0))) (want_none) rfl (q_eql rfl rfl) ?_
  refine HO.nil (thenQ_normal (?_))
  refine HW.cond (decide (x = 0)) rfl (fun c_1 => ?_) (fun c_1 => ?_)
  · replace hM := hM.1 (of_decide_eq_true c_1)
    refine HW.seq ?_
    refine HW.region ?_
    refine HO.val (v := .int .i64 64) (want_none) rfl (q_assign rfl) ?_
    refine HO.nil (thenQ_normal (?_))
    refine HW.ret (thenQ_ret (?_))
    refine ⟨.inr rfl, .int .i64 64, res1 rfl (rt rfl), ?_⟩
    exact ⟨F, 64, rfl, hK, hS, hG_7, hM⟩
  · replace hM := hM.2 (of_decide_eq_false c_1)
    refine HW.skip (thenQ_normal (?_))
    refine HW.seq ?_
    refine HW.region ?_
    refine HO.val (v := .int .u64 x) (want_none) rfl (q_move rfl) ?_
    refine HO.val (v := .int .u64 x) (want_none) rfl (q_move rfl) ?_
    refine HO.val (v := .int .u64 (IntKind.u64.wrap (0 - x))) (want_none) rfl (q_neg rfl) ?_
    refine HO.val (v := .int .u64 (bits .and .u64 x (IntKind.u64.wrap (0 - x)))) (want_none) rfl (q_bits (by simp) rfl rfl) ?_
    refine HO.val (v := .int .u64 (IntKind.u64.wrap ((bits .and .u64 x (IntKind.u64.wrap (0 - x))) * 285870213051353865))) (want_none) rfl (q_mul rfl rfl) ?_
    refine HO.val (v := .int .u64 ((IntKind.u64.wrap ((bits .and .u64 x (IntKind.u64.wrap (0 - x))) * 285870213051353865)).fdiv (2 ^ (min (58 : Int).toNat IntKind.u64.bits)))) (want_none) rfl (q_shr rfl rfl (by decide) rfl) ?_
    obtain ⟨ho_1, hM⟩ := hM
    refine HO.val (v := .pointer (some ⟨7, 0 + ((IntKind.u64.wrap ((bits .and .u64 x (IntKind.u64.wrap (0 - x))) * 285870213051353865)).fdiv (2 ^ (min (58 : Int).toNat IntKind.u64.bits))).toNat, none⟩)) (want_none) rfl (q_idxA (o := 0) (t := (IntKind.u64.wrap ((bits .and .u64 x (IntKind.u64.wrap (0 - x))) * 285870213051353865)).fdiv (2 ^ (min (58 : Int).toNat IntKind.u64.bits))) tr_124 rfl rfl ho_1) ?_
    refine HO.val (v := .int .u8 (b8 tab64 ((IntKind.u64.wrap ((bits .and .u64 x (IntKind.u64.wrap (0 - x))) * 285870213051353865)).fdiv (2 ^ (min (58 : Int).toNat IntKind.u64.bits))))) (want_none) rfl (q_ldArr (o := 0) (t := (IntKind.u64.wrap ((bits .and .u64 x (IntKind.u64.wrap (0 - x))) * 285870213051353865)).fdiv (2 ^ (min (58 : Int).toNat IntKind.u64.bits))) (X := tab64) to_5 rfl hG_7.box rfl ho_1) ?_
    obtain ⟨ho_2, hM⟩ := hM
    refine HO.val (v := .int .i64 (b8 tab64 ((IntKind.u64.wrap ((bits .and .u64 x (IntKind.u64.wrap (0 - x))) * 285870213051353865)).fdiv (2 ^ (min (58 : Int).toNat IntKind.u64.bits))))) (want_none) rfl (q_convInt Tryz.underlying5 Tryz.underlying3 rfl (wrap_i64 ho_2.1 ho_2.2)) ?_
    refine HO.val (v := .int .i64 (b8 tab64 ((IntKind.u64.wrap ((bits .and .u64 x (IntKind.u64.wrap (0 - x))) * 285870213051353865)).fdiv (2 ^ (min (58 : Int).toNat IntKind.u64.bits))))) (want_none) rfl (q_assign rfl) ?_
    refine HO.nil (thenQ_normal (?_))
    refine HW.ret (?_)
    refine ⟨.inr rfl, .int .i64 (b8 tab64 ((IntKind.u64.wrap ((bits .and .u64 x (IntKind.u64.wrap (0 - x))) * 285870213051353865)).fdiv (2 ^ (min (58 : Int).toNat IntKind.u64.bits)))), res1 rfl (rt rfl), ?_⟩
    exact ⟨F, b8 tab64 ((IntKind.u64.wrap ((bits .and .u64 x (IntKind.u64.wrap (0 - x))) * 285870213051353865)).fdiv (2 ^ (min (58 : Int).toNat IntKind.u64.bits))), rfl, hK, hS, hG_7, hM⟩

def math_bits_TrailingZeros_W (x : Int) (Q : Int → Prop) : Prop :=
  math_bits_TrailingZeros64_W x (fun r_2 => Q r_2)
set_option maxHeartbeats 40000000 in
set_option maxRecDepth 100000 in
theorem math_bits_TrailingZeros_walk {F : Fz} {fr : List Ow} {h0 : Heap} (x : Int) (hS : St F (fr) h0) (hG_7 : RoF (Ow.box 7 124 (arrCells tab64).toArray) F h0) {Q : Int → Prop} (hM : math_bits_TrailingZeros_W x Q) :
    HC Tryz.prog 100 #[.int .u64 x] h0 fun u h' => ∃ (F' : Fz) (r_1 : Int), u = .int .i64 r_1 ∧ Kp F h0 F' h' ∧ St F' (fr) h' ∧ (RoF (Ow.box 7 124 (arrCells tab64).toArray) F' h') ∧ Q r_1 := by
  unfold math_bits_TrailingZeros_W at hM
  have hK := Kp.refl F h0
  refine HC.of_HW (n := 8) Tryz.func100 rfl rfl (Nat.le_of_ble_eq_true rfl) ?_
  refine HW.seq ?_
  refine HW.region ?_
  refine HO.val (v := .int .i64 0) (want_none) rfl (q_assign rfl) ?_
  refine HO.nil (thenQ_normal (?_))
  refine HW.seq ?_
  refine HW.condF rfl ?_
  refine HW.skip (thenQ_normal (?_))
  refine HW.seq ?_
  refine HW.region ?_
  refine HO.val (v := .int .u64 x) (want_none) rfl (q_move rfl) ?_
  refine HO.call (want_none) rfl (ec en_102 rfl rfl) (math_bits_TrailingZeros64_walk (fr := (fr)) x hS hG_7 hM) ?_
  rintro _ h_1 ⟨F_1, r_2, rfl, hk, hS, _, hM⟩
  replace hK := hK.trans hk
  replace hG_7 := hG_7.kp hk
  refine HO.val (v := .int .i64 r_2) (want_none) rfl (q_assign rfl) ?_
  refine HO.nil (thenQ_normal (?_))
  refine HW.ret (?_)
  refine ⟨.inr rfl, .int .i64 r_2, res1 rfl (rt rfl), ?_⟩
  exact ⟨F_1, r_2, rfl, hK, hS, hG_7, hM⟩

def internal_strconv_formatBits_j2 (Q : (List UInt8) → Str → Prop) (a_0_1 : Ba 65) (i_1 : Int) : Prop :=
  ((0 : Int) ≤ i_1 ∧ i_1 ≤ 65 ∧ 65 ≤ (65 : Int)) ∧ (Q [] (cut a_0_1.1 i_1 65))
def internal_strconv_formatBits_l1 (base : Int) (Q : (List UInt8) → Str → Prop) (r_2 : Int) (K_1 : Int → (Ba 65) → Int → Prop) (u_1 : Int) (a_0_2 : Ba 65) (i_2 : Int) : Prop :=
  ((IntKind.u64.wrap base) ≤ u_1 → (I64 (i_2 - 1)) ∧ (((0 : Int) ≤ bits .and .u64 u_1 (IntKind.u64.wrap ((IntKind.u64.wrap base) - 1)) ∧ bits .and .u64 u_1 (IntKind.u64.wrap ((IntKind.u64.wrap base) - 1)) < ((([48, 49, 50, 51, 52, 53, 54, 55, 56, 57, 97, 98, 99, 100, 101, 102, 103, 104, 105, 106, 107, 108, 109, 110, 111, 112, 113, 114, 115, 116, 117, 118, 119, 120, 121, 122] : Str)).length : Int)) ∧ (((0 : Int) ≤ i_2 - 1 ∧ i_2 - 1 < 65) ∧ (((0 : Int) ≤ IntKind.u64.wrap r_2) ∧ (K_1 (u_1.fdiv (2 ^ (min (IntKind.u64.wrap r_2).toNat IntKind.u64.bits))) (setB a_0_2 (i_2 - 1) ((gi ([48, 49, 50, 51, 52, 53, 54, 55, 56, 57, 97, 98, 99, 100, 101, 102, 103, 104, 105, 106, 107, 108, 109, 110, 111, 112, 113, 114, 115, 116, 117, 118, 119, 120, 121, 122] : Str) (bits .and .u64 u_1 (IntKind.u64.wrap ((IntKind.u64.wrap base) - 1)))).toNat : Int)) (i_2 - 1)))))) ∧ (¬ ((IntKind.u64.wrap base) ≤ u_1) → (I64 (i_2 - 1)) ∧ (((0 : Int) ≤ u_1 ∧ u_1 < ((([48, 49, 50, 51, 52, 53, 54, 55, 56, 57, 97, 98, 99, 100, 101, 102, 103, 104, 105, 106, 107, 108, 109, 110, 111, 112, 113, 114, 115, 116, 117, 118, 119, 120, 121, 122] : Str)).length : Int)) ∧ (((0 : Int) ≤ i_2 - 1 ∧ i_2 - 1 < 65) ∧ (internal_strconv_formatBits_j2 Q (setB a_0_2 (i_2 - 1) ((gi ([48, 49, 50, 51, 52, 53, 54, 55, 56, 57, 97, 98, 99, 100, 101, 102, 103, 104, 105, 106, 107, 108, 109, 110, 111, 112, 113, 114, 115, 116, 117, 118, 119, 120, 121, 122] : Str) u_1).toNat : Int)) (i_2 - 1)))))
def internal_strconv_formatBits_l2 (base : Int) (Q : (List UInt8) → Str → Prop) (K_2 : Int → (Ba 65) → Int → Prop) (u_2 : Int) (a_0_3 : Ba 65) (i_3 : Int) : Prop :=
  ((IntKind.u64.wrap base) ≤ u_2 → (I64 (i_3 - 1)) ∧ ((IntKind.u64.wrap base ≠ 0) ∧ (((0 : Int) ≤ IntKind.u64.wrap (u_2 - (IntKind.u64.wrap ((IntKind.u64.wrap (u_2.tdiv (IntKind.u64.wrap base))) * (IntKind.u64.wrap base)))) ∧ IntKind.u64.wrap (u_2 - (IntKind.u64.wrap ((IntKind.u64.wrap (u_2.tdiv (IntKind.u64.wrap base))) * (IntKind.u64.wrap base)))) < ((([48, 49, 50, 51, 52, 53, 54, 55, 56, 57, 97, 98, 99, 100, 101, 102, 103, 104, 105, 106, 107, 108, 109, 110, 111, 112, 113, 114, 115, 116, 117, 118, 119, 120, 121, 122] : Str)).length : Int)) ∧ (((0 : Int) ≤ i_3 - 1 ∧ i_3 - 1 < 65) ∧ (K_2 (IntKind.u64.wrap (u_2.tdiv (IntKind.u64.wrap base))) (setB a_0_3 (i_3 - 1) ((gi ([48, 49, 50, 51, 52, 53, 54, 55, 56, 57, 97, 98, 99, 100, 101, 102, 103, 104, 105, 106, 107, 108, 109, 110, 111, 112, 113, 114, 115, 116, 117, 118, 119, 120, 121, 122] : Str) (IntKind.u64.wrap (u_2 - (IntKind.u64.wrap ((IntKind.u64.wrap (u_2.tdiv (IntKind.u64.wrap base))) * (IntKind.u64.wrap base)))))).toNat : Int)) (i_3 - 1)))))) ∧ (¬ ((IntKind.u64.wrap base) ≤ u_2) → (I64 (i_3 - 1)) ∧ (((0 : Int) ≤ u_2 ∧ u_2 < ((([48, 49, 50, 51, 52, 53, 54, 55, 56, 57, 97, 98, 99, 100, 101, 102, 103, 104, 105, 106, 107, 108, 109, 110, 111, 112, 113, 114, 115, 116, 117, 118, 119, 120, 121, 122] : Str)).length : Int)) ∧ (((0 : Int) ≤ i_3 - 1 ∧ i_3 - 1 < 65) ∧ (internal_strconv_formatBits_j2 Q (setB a_0_3 (i_3 - 1) ((gi ([48, 49, 50, 51, 52, 53, 54, 55, 56, 57, 97, 98, 99, 100, 101, 102, 103, 104, 105, 106, 107, 108, 109, 110, 111, 112, 113, 114, 115, 116, 117, 118, 119, 120, 121, 122] : Str) u_2).toNat : Int)) (i_3 - 1)))))
def internal_strconv_formatBits_j1 (u : Int) (base : Int) (Q : (List UInt8) → Str → Prop) (b_1 : Bool) : Prop :=
  (b_1 = true → False) ∧ (b_1 = false → internal_strconv_isPowerOfTwo_W base (fun r_1 => (r_1 = true → math_bits_TrailingZeros_W (IntKind.u64.wrap base) (fun r_2 => loopW (fun (K_1 : (Int × Ba 65 × Int) → Prop) (s : Int × Ba 65 × Int) => internal_strconv_formatBits_l1 base Q r_2 (fun u_1 a_0_2 i_2 => K_1 (u_1, a_0_2, i_2)) s.1 s.2.1 s.2.2) (u, (default : Ba 65), 65))) ∧ (r_1 = false → loopW (fun (K_2 : (Int × Ba 65 × Int) → Prop) (s : Int × Ba 65 × Int) => internal_strconv_formatBits_l2 base Q (fun u_2 a_0_3 i_3 => K_2 (u_2, a_0_3, i_3)) s.1 s.2.1 s.2.2) (u, (default : Ba 65), 65))))
def internal_strconv_formatBits_W (u : Int) (base : Int) (Q : (List UInt8) → Str → Prop) : Prop :=
  (base < 2 → internal_strconv_formatBits_j1 u base Q true) ∧ (¬ (base < 2) → (base = 10 → internal_strconv_formatBits_j1 u base Q true) ∧ (¬ (base = 10) → internal_strconv_formatBits_j1 u base Q (decide (36 < base))))
set_option maxHeartbeats 40000000 in
set_option maxRecDepth 100000 in
theorem internal_strconv_formatBits_walk {F : Fz} {fr : List Ow} {h0 : Heap} (u : Int) (base : Int) (hS : St F (fr) h0) (hG_7 : RoF (Ow.box 7 124 (arrCells tab64).toArray) F h0) {Q : (List UInt8) → Str → Prop} (hM : internal_strconv_formatBits_W u base Q) :
    HC Tryz.prog 94 #[.slice none 0 0, .int .u64 u, .int .i64 base, .bool false, .bool false] h0 fun u h' => ∃ (F' : Fz) (r0_1 : List UInt8) (r1_1 : Str) (vr0_1 : Value), u = .tuple #[vr0_1, .string (bs r1_1)] ∧ Kp F h0 F' h' ∧ St F' (Ow.own 5 1 enc8 vr0_1 r0_1 :: fr) h' ∧ (RoF (Ow.box 7 124 (arrCells tab64).toArray) F' h') ∧ Q r0_1 r1_1 := by
  unfold internal_strconv_formatBits_W at hM
  have hK := Kp.refl F h0
  refine HC.of_HW (n := 102) Tryz.func94 rfl rfl (Nat.le_of_ble_eq_true rfl) ?_
  refine HW.seq ?_
  refine HW.region ?_
  refine HO.val (v := .slice none 0 0) (want_none) rfl (q_assign rfl) ?_
  refine HO.val (v := .string (bs [])) (want_none) rfl (q_assign rfl) ?_
  refine HO.nil (thenQ_normal (?_))
  refine HW.seq ?_
  refine HW.seq_mid (fun f h => ∃ (F' : Fz) (b_1 : Bool), f 0 = .slice none 0 0 ∧ f 1 = .int .u64 u ∧ f 2 = .int .i64 base ∧ f 3 = .bool false ∧ f 4 = .bool false ∧ f 10 = .slice none 0 0 ∧ f 11 = .string (bs []) ∧ f 28 = .bool b_1 ∧ Kp F h0 F' h ∧ St F' (fr) h ∧ (RoF (Ow.box 7 124 (arrCells tab64).toArray) F' h) ∧ internal_strconv_formatBits_j1 u base Q b_1) ?_ ?_
  · refine HW.region ?_
    refine HO.val (v := .int .i64 base) (want_none) rfl (q_move rfl) ?_
    refine HO.val (v := .bool (decide (base < 2))) (want_none) rfl (q_lss rfl rfl) ?_
    refine HO.val (v := .bool (decide (base < 2))) (want_none) rfl (q_move rfl) ?_
    rcases Bool.eq_false_or_eq_true (decide (base < 2)) with c_1 | c_1
    · replace hM := hM.1 (of_decide_eq_true c_1)
      refine HO.past (past_by rfl rfl c_1) rfl ?_
      refine HO.past (past_by rfl rfl c_1) rfl ?_
      refine HO.val (v := .bool true) (want_none) rfl (q_pickK true rfl c_1 rfl) ?_
      refine HO.val (v := .bool true) (want_none) rfl (q_move rfl) ?_
      refine HO.past (past_some rfl rfl) rfl ?_
      refine HO.past (past_some rfl rfl) rfl ?_
      refine HO.val (v := .bool true) (want_none) rfl (q_pick rfl rfl) ?_
      refine HO.nil (thenQ_normal (?_))
      exact ⟨F, true, rfl, rfl, rfl, rfl, rfl, rfl, rfl, rfl, hK, hS, hG_7, hM⟩
    · replace hM := hM.2 (of_decide_eq_false c_1)
      refine HO.val (v := .int .i64 base) (want_by rfl rfl c_1) rfl (q_move rfl) ?_
      refine HO.val (v := .bool (decide (base = 10))) (want_by rfl rfl c_1) rfl (q_eql rfl rfl) ?_
      refine HO.val (v := .bool (decide (base = 10))) (want_none) rfl (q_pickK false rfl c_1 rfl) ?_
      refine HO.val (v := .bool (decide (base = 10))) (want_none) rfl (q_move rfl) ?_
      rcases Bool.eq_false_or_eq_true (decide (base = 10)) with c_2 | c_2
      · replace hM := hM.1 (of_decide_eq_true c_2)
        refine HO.past (past_by rfl rfl c_2) rfl ?_
        refine HO.past (past_by rfl rfl c_2) rfl ?_
        refine HO.val (v := .bool true) (want_none) rfl (q_pickK true rfl c_2 rfl) ?_
        refine HO.nil (thenQ_normal (?_))
        exact ⟨F, true, rfl, rfl, rfl, rfl, rfl, rfl, rfl, rfl, hK, hS, hG_7, hM⟩
      · replace hM := hM.2 (of_decide_eq_false c_2)
        refine HO.val (v := .int .i64 base) (want_by rfl rfl c_2) rfl (q_move rfl) ?_
        refine HO.val (v := .bool (decide (36 < base))) (want_by rfl rfl c_2) rfl (q_gtr rfl rfl) ?_
        refine HO.val (v := .bool (decide (36 < base))) (want_none) rfl (q_pickK false rfl c_2 rfl) ?_
        refine HO.nil (thenQ_normal (?_))
        exact ⟨F, decide (36 < base), rfl, rfl, rfl, rfl, rfl, rfl, rfl, rfl, hK, hS, hG_7, hM⟩
  · rintro f_1 h_1 ⟨F_1, b_1, e0, e1, e2, e3, e4, e10, e11, e28, hK, hS, hG_7, hM⟩
    unfold internal_strconv_formatBits_j1 at hM
    refine HW.fr [(0, .slice none 0 0), (1, .int .u64 u), (2, .int .i64 base), (3, .bool false), (4, .bool false), (10, .slice none 0 0), (11, .string (bs [])), (28, .bool b_1)] ⟨e0, e1, e2, e3, e4, e10, e11, e28, trivial⟩ ?_
    refine HW.cond b_1 rfl (fun c_3 => ?_) (fun c_3 => ?_)
    · replace hM := hM.1 c_3
      refine HW.region ?_
      refine HO.val (v := .iface 9 (.string (bs [115, 116, 114, 99, 111, 110, 118, 58, 32, 105, 108, 108, 101, 103, 97, 108, 32, 65, 112, 112, 101, 110, 100, 73, 110, 116, 47, 70, 111, 114, 109, 97, 116, 73, 110, 116, 32, 98, 97, 115, 101]))) (want_none) rfl (q_mkIfaceS Tryz.underlying9 rfl) ?_
      exact hM.elim
    · replace hM := hM.2 c_3
      refine HW.skip (thenQ_normal (?_))
      refine HW.seq ?_
      refine HW.region ?_
      refine HO.eff (want_none) rfl (st_alloc (c := (arrCells (default : Ba 65)).toArray) hS tz_115 rfl) ?_
      rintro _ h_2 ⟨b_2, rfl, hS, hk⟩
      replace hK := hK.trans hk
      replace hG_7 := hG_7.kp hk
      refine HO.nil (thenQ_normal (?_))
      refine HW.seq ?_
      refine HW.region ?_
      refine HO.val (v := .int .i64 65) (want_none) rfl (q_assign rfl) ?_
      refine HO.nil (thenQ_normal (?_))
      refine HW.seq ?_
      refine HW.seq ?_
      refine HW.region ?_
      refine HO.val (v := .bool false) (want_none) rfl (q_move rfl) ?_
      refine HO.nil (thenQ_normal (?_))
      refine HW.condF rfl ?_
      refine HW.skip (thenQ_normal (?_))
      refine HW.seq_mid (fun f h => ∃ (F' : Fz) (a_0_1 : Ba 65) (i_1 : Int), f 0 = .slice none 0 0 ∧ f 3 = .bool false ∧ f 4 = .bool false ∧ f 10 = .slice none 0 0 ∧ f 11 = .string (bs []) ∧ f 12 = .pointer (some ⟨b_2, 0, none⟩) ∧ f 13 = .int .i64 i_1 ∧ Kp F h0 F' h ∧ St F' (Ow.box b_2 115 (arrCells a_0_1).toArray :: fr) h ∧ (RoF (Ow.box 7 124 (arrCells tab64).toArray) F' h) ∧ internal_strconv_formatBits_j2 Q a_0_1 i_1) ?_ ?_
      · refine HW.seq ?_
        refine HW.region ?_
        refine HO.val (v := .int .i64 base) (want_none) rfl (q_move rfl) ?_
        refine HO.call (want_none) rfl (ec en_99 rfl rfl) (internal_strconv_isPowerOfTwo_walk (fr := (Ow.box b_2 115 (arrCells (default : Ba 65)).toArray :: fr)) base hS hM) ?_
        rintro _ h_3 ⟨F_2, r_1, rfl, hk, hS, hM⟩
        replace hK := hK.trans hk
        replace hG_7 := hG_7.kp hk
        refine HO.nil (thenQ_normal (?_))
        refine HW.cond r_1 rfl (fun c_4 => ?_) (fun c_4 => ?_)
        · replace hM := hM.1 c_4
          refine HW.seq ?_
          refine HW.region ?_
          refine HO.val (v := .int .i64 base) (want_none) rfl (q_move rfl) ?_
          refine HO.val (v := .int .u64 (IntKind.u64.wrap base)) (want_none) rfl (q_convInt (n := base) Tryz.underlying3 Tryz.underlying37 rfl rfl) ?_
          refine HO.call (want_none) rfl (ec en_100 rfl rfl) (math_bits_TrailingZeros_walk (fr := (Ow.box b_2 115 (arrCells (default : Ba 65)).toArray :: fr)) (IntKind.u64.wrap base) hS hG_7 hM) ?_
          rintro _ h_4 ⟨F_3, r_2, rfl, hk, hS, _, hM⟩
          replace hK := hK.trans hk
          replace hG_7 := hG_7.kp hk
          refine HO.val (v := .int .u64 (IntKind.u64.wrap r_2)) (want_none) rfl (q_convInt (n := r_2) Tryz.underlying3 Tryz.underlying37 rfl rfl) ?_
          refine HO.val (v := .int .u64 (IntKind.u64.wrap r_2)) (want_none) rfl (q_assign rfl) ?_
          refine HO.nil (thenQ_normal (?_))
          refine HW.seq ?_
          refine HW.region ?_
          refine HO.val (v := .int .i64 base) (want_none) rfl (q_move rfl) ?_
          refine HO.val (v := .int .u64 (IntKind.u64.wrap base)) (want_none) rfl (q_convInt (n := base) Tryz.underlying3 Tryz.underlying51 rfl rfl) ?_
          refine HO.val (v := .int .u64 (IntKind.u64.wrap base)) (want_none) rfl (q_assign rfl) ?_
          refine HO.nil (thenQ_normal (?_))
          refine HW.seq ?_
          refine HW.region ?_
          refine HO.val (v := .int .i64 base) (want_none) rfl (q_move rfl) ?_
          refine HO.val (v := .int .u64 (IntKind.u64.wrap base)) (want_none) rfl (q_convInt (n := base) Tryz.underlying3 Tryz.underlying37 rfl rfl) ?_
          refine HO.val (v := .int .u64 (IntKind.u64.wrap ((IntKind.u64.wrap base) - 1))) (want_none) rfl (q_sub rfl rfl) ?_
          refine HO.val (v := .int .u64 (IntKind.u64.wrap ((IntKind.u64.wrap base) - 1))) (want_none) rfl (q_assign rfl) ?_
          refine HO.nil (thenQ_normal (?_))
          refine HW.seq ?_
          refine HW.block ?_
          obtain ⟨I_1, m_1, hI_1, hR_1⟩ := hM
          refine HW.loop (S := Int × Ba 65 × Int) (fun s f h => match s with | (u_1, a_0_2, i_2) => ∃ (F' : Fz), f 0 = .slice none 0 0 ∧ f 1 = .int .u64 u_1 ∧ f 3 = .bool false ∧ f 4 = .bool false ∧ f 10 = .slice none 0 0 ∧ f 11 = .string (bs []) ∧ f 12 = .pointer (some ⟨b_2, 0, none⟩) ∧ f 13 = .int .i64 i_2 ∧ f 14 = .int .u64 (IntKind.u64.wrap r_2) ∧ f 15 = .int .u64 (IntKind.u64.wrap base) ∧ f 16 = .int .u64 (IntKind.u64.wrap ((IntKind.u64.wrap base) - 1)) ∧ Kp F h0 F' h ∧ St F' (Ow.box b_2 115 (arrCells a_0_2).toArray :: fr) h ∧ (RoF (Ow.box 7 124 (arrCells tab64).toArray) F' h) ∧ I_1 (u_1, a_0_2, i_2)) m_1 (u, (default : Ba 65), 65) ⟨F_3, rfl, rfl, rfl, rfl, rfl, rfl, rfl, rfl, rfl, rfl, rfl, hK, hS, hG_7, hI_1⟩ ?_
          rintro ⟨u_1, a_0_2, i_2⟩ f_2 h_5 ⟨F_4, e0, e1, e3, e4, e10, e11, e12, e13, e14, e15, e16, hK, hS, hG_7, hI0⟩
          obtain ⟨K_1, hKe_1⟩ : ∃ K : Int → (Ba 65) → Int → Prop, K = fun u_1' a_0_2' i_2' => I_1 (u_1', a_0_2', i_2') ∧ m_1 (u_1', a_0_2', i_2') < m_1 (u_1, a_0_2, i_2) := ⟨_, rfl⟩
          have hM : internal_strconv_formatBits_l1 base Q r_2 K_1 u_1 a_0_2 i_2 := by rw [hKe_1]; exact hR_1 (u_1, a_0_2, i_2) hI0
          unfold internal_strconv_formatBits_l1 at hM
          refine HW.fr [(0, .slice none 0 0), (1, .int .u64 u_1), (3, .bool false), (4, .bool false), (10, .slice none 0 0), (11, .string (bs [])), (12, .pointer (some ⟨b_2, 0, none⟩)), (13, .int .i64 i_2), (14, .int .u64 (IntKind.u64.wrap r_2)), (15, .int .u64 (IntKind.u64.wrap base)), (16, .int .u64 (IntKind.u64.wrap ((IntKind.u64.wrap base) - 1)))] ⟨e0, e1, e3, e4, e10, e11, e12, e13, e14, e15, e16, trivial⟩ ?_
          refine HW.seq ?_
          refine HW.seq ?_
          refine HW.region ?_
          refine HO.val (v := .int .u64 u_1) (want_none) rfl (q_move rfl) ?_
          refine HO.val (v := .int .u64 (IntKind.u64.wrap base)) (want_none) rfl (q_move rfl) ?_
          refine HO.val (v := .bool (decide ((IntKind.u64.wrap base) ≤ u_1))) (want_none) rfl (q_geq rfl rfl) ?_
          refine HO.nil (thenQ_normal (?_))
          refine HW.cond (decide ((IntKind.u64.wrap base) ≤ u_1)) rfl (fun c_5 => ?_) (fun c_5 => ?_)
          · replace hM := hM.1 (of_decide_eq_true c_5)
            refine HW.skip (thenQ_normal (?_))
            refine HW.block ?_
            refine HW.seq ?_
            refine HW.region ?_
            refine HO.val (v := .int .i64 i_2) (want_none) rfl (q_move rfl) ?_
            obtain ⟨ho_1, hM⟩ := hM
            refine HO.val (v := .int .i64 (i_2 - 1)) (want_none) rfl (q_subN _ rfl rfl rfl ho_1.1 ho_1.2) ?_
            refine HO.val (v := .int .i64 (i_2 - 1)) (want_none) rfl (q_assign rfl) ?_
            refine HO.nil (thenQ_normal (?_))
            refine HW.seq ?_
            refine HW.region ?_
            refine HO.val (v := .int .i64 (i_2 - 1)) (want_none) rfl (q_move rfl) ?_
            refine HO.val (v := .int .u64 u_1) (want_none) rfl (q_move rfl) ?_
            refine HO.val (v := .int .u64 (IntKind.u64.wrap ((IntKind.u64.wrap base) - 1))) (want_none) rfl (q_move rfl) ?_
            refine HO.val (v := .int .u64 (bits .and .u64 u_1 (IntKind.u64.wrap ((IntKind.u64.wrap base) - 1)))) (want_none) rfl (q_bits (by simp) rfl rfl) ?_
            obtain ⟨ho_2, hM⟩ := hM
            refine HO.val (v := .int .u8 ((gi ([48, 49, 50, 51, 52, 53, 54, 55, 56, 57, 97, 98, 99, 100, 101, 102, 103, 104, 105, 106, 107, 108, 109, 110, 111, 112, 113, 114, 115, 116, 117, 118, 119, 120, 121, 122] : Str) (bits .and .u64 u_1 (IntKind.u64.wrap ((IntKind.u64.wrap base) - 1)))).toNat : Int)) (want_none) rfl (q_idxT Tryz.underlying9 rfl rfl ho_2) ?_
            obtain ⟨ho_3, hM⟩ := hM
            refine HO.val (v := .pointer (some ⟨b_2, 0 + (i_2 - 1).toNat, none⟩)) (want_none) rfl (q_idxA (o := 0) (t := i_2 - 1) tr_115 rfl rfl ho_3) ?_
            refine HO.sto (want_none) rfl (st_storeSeg (n := 65) (o := 0) (X := a_0_2) (t := i_2 - 1) (u := ((gi ([48, 49, 50, 51, 52, 53, 54, 55, 56, 57, 97, 98, 99, 100, 101, 102, 103, 104, 105, 106, 107, 108, 109, 110, 111, 112, 113, 114, 115, 116, 117, 118, 119, 120, 121, 122] : Str) (bits .and .u64 u_1 (IntKind.u64.wrap ((IntKind.u64.wrap base) - 1)))).toNat : Int)) (c' := (arrCells (setB a_0_2 (i_2 - 1) ((gi ([48, 49, 50, 51, 52, 53, 54, 55, 56, 57, 97, 98, 99, 100, 101, 102, 103, 104, 105, 106, 107, 108, 109, 110, 111, 112, 113, 114, 115, 116, 117, 118, 119, 120, 121, 122] : Str) (bits .and .u64 u_1 (IntKind.u64.wrap ((IntKind.u64.wrap base) - 1)))).toNat : Int))).toArray) hS (i := 0) rfl to_5 rfl rfl ho_3 (u8_rng _) rfl rfl) ?_
            rintro h_6 ⟨hS, hk⟩
            replace hS : St F_4 (Ow.box b_2 115 (arrCells (setB a_0_2 (i_2 - 1) ((gi ([48, 49, 50, 51, 52, 53, 54, 55, 56, 57, 97, 98, 99, 100, 101, 102, 103, 104, 105, 106, 107, 108, 109, 110, 111, 112, 113, 114, 115, 116, 117, 118, 119, 120, 121, 122] : Str) (bits .and .u64 u_1 (IntKind.u64.wrap ((IntKind.u64.wrap base) - 1)))).toNat : Int))).toArray :: fr) h_6 := hS
            replace hK := hK.trans hk
            replace hG_7 := hG_7.kp hk
            refine HO.nil (thenQ_normal (?_))
            refine HW.region ?_
            refine HO.val (v := .int .u64 u_1) (want_none) rfl (q_move rfl) ?_
            refine HO.val (v := .int .u64 (IntKind.u64.wrap r_2)) (want_none) rfl (q_move rfl) ?_
            obtain ⟨ho_4, hM⟩ := hM
            refine HO.val (v := .int .u64 (u_1.fdiv (2 ^ (min (IntKind.u64.wrap r_2).toNat IntKind.u64.bits)))) (want_none) rfl (q_shr rfl rfl ho_4 rfl) ?_
            refine HO.val (v := .int .u64 (u_1.fdiv (2 ^ (min (IntKind.u64.wrap r_2).toNat IntKind.u64.bits)))) (want_none) rfl (q_assign rfl) ?_
            refine HO.nil (blockQ_normal (thenQ_normal (?_)))
            rw [hKe_1] at hM
            exact ⟨(u_1.fdiv (2 ^ (min (IntKind.u64.wrap r_2).toNat IntKind.u64.bits)), (setB a_0_2 (i_2 - 1) ((gi ([48, 49, 50, 51, 52, 53, 54, 55, 56, 57, 97, 98, 99, 100, 101, 102, 103, 104, 105, 106, 107, 108, 109, 110, 111, 112, 113, 114, 115, 116, 117, 118, 119, 120, 121, 122] : Str) (bits .and .u64 u_1 (IntKind.u64.wrap ((IntKind.u64.wrap base) - 1)))).toNat : Int)), i_2 - 1), ⟨F_4, rfl, rfl, rfl, rfl, rfl, rfl, rfl, rfl, rfl, rfl, rfl, hK, hS, hG_7, hM.1⟩, hM.2⟩
          · replace hM := hM.2 (of_decide_eq_false c_5)
            refine HW.exit (thenQ_exit (thenQ_exit (blockQ_exit (thenQ_normal (?_)))))
            refine HW.seq ?_
            refine HW.region ?_
            refine HO.val (v := .int .i64 i_2) (want_none) rfl (q_move rfl) ?_
            obtain ⟨ho_5, hM⟩ := hM
            refine HO.val (v := .int .i64 (i_2 - 1)) (want_none) rfl (q_subN _ rfl rfl rfl ho_5.1 ho_5.2) ?_
            refine HO.val (v := .int .i64 (i_2 - 1)) (want_none) rfl (q_assign rfl) ?_
            refine HO.nil (thenQ_normal (?_))
            refine HW.region ?_
            refine HO.val (v := .int .i64 (i_2 - 1)) (want_none) rfl (q_move rfl) ?_
            refine HO.val (v := .int .u64 u_1) (want_none) rfl (q_move rfl) ?_
            obtain ⟨ho_6, hM⟩ := hM
            refine HO.val (v := .int .u8 ((gi ([48, 49, 50, 51, 52, 53, 54, 55, 56, 57, 97, 98, 99, 100, 101, 102, 103, 104, 105, 106, 107, 108, 109, 110, 111, 112, 113, 114, 115, 116, 117, 118, 119, 120, 121, 122] : Str) u_1).toNat : Int)) (want_none) rfl (q_idxT Tryz.underlying9 rfl rfl ho_6) ?_
            obtain ⟨ho_7, hM⟩ := hM
            refine HO.val (v := .pointer (some ⟨b_2, 0 + (i_2 - 1).toNat, none⟩)) (want_none) rfl (q_idxA (o := 0) (t := i_2 - 1) tr_115 rfl rfl ho_7) ?_
            refine HO.sto (want_none) rfl (st_storeSeg (n := 65) (o := 0) (X := a_0_2) (t := i_2 - 1) (u := ((gi ([48, 49, 50, 51, 52, 53, 54, 55, 56, 57, 97, 98, 99, 100, 101, 102, 103, 104, 105, 106, 107, 108, 109, 110, 111, 112, 113, 114, 115, 116, 117, 118, 119, 120, 121, 122] : Str) u_1).toNat : Int)) (c' := (arrCells (setB a_0_2 (i_2 - 1) ((gi ([48, 49, 50, 51, 52, 53, 54, 55, 56, 57, 97, 98, 99, 100, 101, 102, 103, 104, 105, 106, 107, 108, 109, 110, 111, 112, 113, 114, 115, 116, 117, 118, 119, 120, 121, 122] : Str) u_1).toNat : Int))).toArray) hS (i := 0) rfl to_5 rfl rfl ho_7 (u8_rng _) rfl rfl) ?_
            rintro h_7 ⟨hS, hk⟩
            replace hS : St F_4 (Ow.box b_2 115 (arrCells (setB a_0_2 (i_2 - 1) ((gi ([48, 49, 50, 51, 52, 53, 54, 55, 56, 57, 97, 98, 99, 100, 101, 102, 103, 104, 105, 106, 107, 108, 109, 110, 111, 112, 113, 114, 115, 116, 117, 118, 119, 120, 121, 122] : Str) u_1).toNat : Int))).toArray :: fr) h_7 := hS
            replace hK := hK.trans hk
            replace hG_7 := hG_7.kp hk
            refine HO.nil (thenQ_normal (?_))
            exact ⟨F_4, (setB a_0_2 (i_2 - 1) ((gi ([48, 49, 50, 51, 52, 53, 54, 55, 56, 57, 97, 98, 99, 100, 101, 102, 103, 104, 105, 106, 107, 108, 109, 110, 111, 112, 113, 114, 115, 116, 117, 118, 119, 120, 121, 122] : Str) u_1).toNat : Int)), i_2 - 1, rfl, rfl, rfl, rfl, rfl, rfl, rfl, hK, hS, hG_7, hM⟩
        · replace hM := hM.2 c_4
          refine HW.seq ?_
          refine HW.region ?_
          refine HO.val (v := .int .i64 base) (want_none) rfl (q_move rfl) ?_
          refine HO.val (v := .int .u64 (IntKind.u64.wrap base)) (want_none) rfl (q_convInt (n := base) Tryz.underlying3 Tryz.underlying51 rfl rfl) ?_
          refine HO.val (v := .int .u64 (IntKind.u64.wrap base)) (want_none) rfl (q_assign rfl) ?_
          refine HO.nil (thenQ_normal (?_))
          refine HW.seq ?_
          refine HW.block ?_
          obtain ⟨I_2, m_2, hI_2, hR_2⟩ := hM
          refine HW.loop (S := Int × Ba 65 × Int) (fun s f h => match s with | (u_2, a_0_3, i_3) => ∃ (F' : Fz), f 0 = .slice none 0 0 ∧ f 1 = .int .u64 u_2 ∧ f 3 = .bool false ∧ f 4 = .bool false ∧ f 10 = .slice none 0 0 ∧ f 11 = .string (bs []) ∧ f 12 = .pointer (some ⟨b_2, 0, none⟩) ∧ f 13 = .int .i64 i_3 ∧ f 17 = .int .u64 (IntKind.u64.wrap base) ∧ Kp F h0 F' h ∧ St F' (Ow.box b_2 115 (arrCells a_0_3).toArray :: fr) h ∧ (RoF (Ow.box 7 124 (arrCells tab64).toArray) F' h) ∧ I_2 (u_2, a_0_3, i_3)) m_2 (u, (default : Ba 65), 65) ⟨F_2, rfl, rfl, rfl, rfl, rfl, rfl, rfl, rfl, rfl, hK, hS, hG_7, hI_2⟩ ?_
          rintro ⟨u_2, a_0_3, i_3⟩ f_3 h_8 ⟨F_5, e0, e1, e3, e4, e10, e11, e12, e13, e17, hK, hS, hG_7, hI0⟩
          obtain ⟨K_2, hKe_2⟩ : ∃ K : Int → (Ba 65) → Int → Prop, K = fun u_2' a_0_3' i_3' => I_2 (u_2', a_0_3', i_3') ∧ m_2 (u_2', a_0_3', i_3') < m_2 (u_2, a_0_3, i_3) := ⟨_, rfl⟩
          have hM : internal_strconv_formatBits_l2 base Q K_2 u_2 a_0_3 i_3 := by rw [hKe_2]; exact hR_2 (u_2, a_0_3, i_3) hI0
          unfold internal_strconv_formatBits_l2 at hM
          refine HW.fr [(0, .slice none 0 0), (1, .int .u64 u_2), (3, .bool false), (4, .bool false), (10, .slice none 0 0), (11, .string (bs [])), (12, .pointer (some ⟨b_2, 0, none⟩)), (13, .int .i64 i_3), (17, .int .u64 (IntKind.u64.wrap base))] ⟨e0, e1, e3, e4, e10, e11, e12, e13, e17, trivial⟩ ?_
          refine HW.seq ?_
          refine HW.seq ?_
          refine HW.region ?_
          refine HO.val (v := .int .u64 u_2) (want_none) rfl (q_move rfl) ?_
          refine HO.val (v := .int .u64 (IntKind.u64.wrap base)) (want_none) rfl (q_move rfl) ?_
          refine HO.val (v := .bool (decide ((IntKind.u64.wrap base) ≤ u_2))) (want_none) rfl (q_geq rfl rfl) ?_
          refine HO.nil (thenQ_normal (?_))
          refine HW.cond (decide ((IntKind.u64.wrap base) ≤ u_2)) rfl (fun c_6 => ?_) (fun c_6 => ?_)
          · replace hM := hM.1 (of_decide_eq_true c_6)
            refine HW.skip (thenQ_normal (?_))
            refine HW.block ?_
            refine HW.seq ?_
            refine HW.region ?_
            refine HO.val (v := .int .i64 i_3) (want_none) rfl (q_move rfl) ?_
            obtain ⟨ho_8, hM⟩ := hM
            refine HO.val (v := .int .i64 (i_3 - 1)) (want_none) rfl (q_subN _ rfl rfl rfl ho_8.1 ho_8.2) ?_
            refine HO.val (v := .int .i64 (i_3 - 1)) (want_none) rfl (q_assign rfl) ?_
            refine HO.nil (thenQ_normal (?_))
            refine HW.seq ?_
            refine HW.region ?_
            refine HO.val (v := .int .u64 u_2) (want_none) rfl (q_move rfl) ?_
            refine HO.val (v := .int .u64 (IntKind.u64.wrap base)) (want_none) rfl (q_move rfl) ?_
            obtain ⟨ho_9, hM⟩ := hM
            refine HO.val (v := .int .u64 (IntKind.u64.wrap (u_2.tdiv (IntKind.u64.wrap base)))) (want_none) rfl (q_quo rfl rfl ho_9) ?_
            refine HO.val (v := .int .u64 (IntKind.u64.wrap (u_2.tdiv (IntKind.u64.wrap base)))) (want_none) rfl (q_assign rfl) ?_
            refine HO.nil (thenQ_normal (?_))
            refine HW.seq ?_
            refine HW.region ?_
            refine HO.val (v := .int .i64 (i_3 - 1)) (want_none) rfl (q_move rfl) ?_
            refine HO.val (v := .int .u64 u_2) (want_none) rfl (q_move rfl) ?_
            refine HO.val (v := .int .u64 (IntKind.u64.wrap (u_2.tdiv (IntKind.u64.wrap base)))) (want_none) rfl (q_move rfl) ?_
            refine HO.val (v := .int .u64 (IntKind.u64.wrap base)) (want_none) rfl (q_move rfl) ?_
            refine HO.val (v := .int .u64 (IntKind.u64.wrap ((IntKind.u64.wrap (u_2.tdiv (IntKind.u64.wrap base))) * (IntKind.u64.wrap base)))) (want_none) rfl (q_mul rfl rfl) ?_
            refine HO.val (v := .int .u64 (IntKind.u64.wrap (u_2 - (IntKind.u64.wrap ((IntKind.u64.wrap (u_2.tdiv (IntKind.u64.wrap base))) * (IntKind.u64.wrap base)))))) (want_none) rfl (q_sub rfl rfl) ?_
            obtain ⟨ho_10, hM⟩ := hM
            refine HO.val (v := .int .u8 ((gi ([48, 49, 50, 51, 52, 53, 54, 55, 56, 57, 97, 98, 99, 100, 101, 102, 103, 104, 105, 106, 107, 108, 109, 110, 111, 112, 113, 114, 115, 116, 117, 118, 119, 120, 121, 122] : Str) (IntKind.u64.wrap (u_2 - (IntKind.u64.wrap ((IntKind.u64.wrap (u_2.tdiv (IntKind.u64.wrap base))) * (IntKind.u64.wrap base)))))).toNat : Int)) (want_none) rfl (q_idxT Tryz.underlying9 rfl rfl ho_10) ?_
            obtain ⟨ho_11, hM⟩ := hM
            refine HO.val (v := .pointer (some ⟨b_2, 0 + (i_3 - 1).toNat, none⟩)) (want_none) rfl (q_idxA (o := 0) (t := i_3 - 1) tr_115 rfl rfl ho_11) ?_
            refine HO.sto (want_none) rfl (st_storeSeg (n := 65) (o := 0) (X := a_0_3) (t := i_3 - 1) (u := ((gi ([48, 49, 50, 51, 52, 53, 54, 55, 56, 57, 97, 98, 99, 100, 101, 102, 103, 104, 105, 106, 107, 108, 109, 110, 111, 112, 113, 114, 115, 116, 117, 118, 119, 120, 121, 122] : Str) (IntKind.u64.wrap (u_2 - (IntKind.u64.wrap ((IntKind.u64.wrap (u_2.tdiv (IntKind.u64.wrap base))) * (IntKind.u64.wrap base)))))).toNat : Int)) (c' := (arrCells (setB a_0_3 (i_3 - 1) ((gi ([48, 49, 50, 51, 52, 53, 54, 55, 56, 57, 97, 98, 99, 100, 101, 102, 103, 104, 105, 106, 107, 108, 109, 110, 111, 112, 113, 114, 115, 116, 117, 118, 119, 120, 121, 122] : Str) (IntKind.u64.wrap (u_2 - (IntKind.u64.wrap ((IntKind.u64.wrap (u_2.tdiv (IntKind.u64.wrap base))) * (IntKind.u64.wrap base)))))).toNat : Int))).toArray) hS (i := 0) rfl to_5 rfl rfl ho_11 (u8_rng _) rfl rfl) ?_
            rintro h_9 ⟨hS, hk⟩
            replace hS : St F_5 (Ow.box b_2 115 (arrCells (setB a_0_3 (i_3 - 1) ((gi ([48, 49, 50, 51, 52, 53, 54, 55, 56, 57, 97, 98, 99, 100, 101, 102, 103, 104, 105, 106, 107, 108, 109, 110, 111, 112, 113, 114, 115, 116, 117, 118, 119, 120, 121, 122] : Str) (IntKind.u64.wrap (u_2 - (IntKind.u64.wrap ((IntKind.u64.wrap (u_2.tdiv (IntKind.u64.wrap base))) * (IntKind.u64.wrap base)))))).toNat : Int))).toArray :: fr) h_9 := hS
            replace hK := hK.trans hk
            replace hG_7 := hG_7.kp hk
            refine HO.nil (thenQ_normal (?_))
            refine HW.region ?_
            refine HO.val (v := .int .u64 (IntKind.u64.wrap (u_2.tdiv (IntKind.u64.wrap base)))) (want_none) rfl (q_move rfl) ?_
            refine HO.val (v := .int .u64 (IntKind.u64.wrap (u_2.tdiv (IntKind.u64.wrap base)))) (want_none) rfl (q_assign rfl) ?_
            refine HO.nil (blockQ_normal (thenQ_normal (?_)))
            rw [hKe_2] at hM
            exact ⟨(IntKind.u64.wrap (u_2.tdiv (IntKind.u64.wrap base)), (setB a_0_3 (i_3 - 1) ((gi ([48, 49, 50, 51, 52, 53, 54, 55, 56, 57, 97, 98, 99, 100, 101, 102, 103, 104, 105, 106, 107, 108, 109, 110, 111, 112, 113, 114, 115, 116, 117, 118, 119, 120, 121, 122] : Str) (IntKind.u64.wrap (u_2 - (IntKind.u64.wrap ((IntKind.u64.wrap (u_2.tdiv (IntKind.u64.wrap base))) * (IntKind.u64.wrap base)))))).toNat : Int)), i_3 - 1), ⟨F_5, rfl, rfl, rfl, rfl, rfl, rfl, rfl, rfl, rfl, hK, hS, hG_7, hM.1⟩, hM.2⟩
          · replace hM := hM.2 (of_decide_eq_false c_6)
            refine HW.exit (thenQ_exit (thenQ_exit (blockQ_exit (thenQ_normal (?_)))))
            refine HW.seq ?_
            refine HW.region ?_
            refine HO.val (v := .int .i64 i_3) (want_none) rfl (q_move rfl) ?_
            obtain ⟨ho_12, hM⟩ := hM
            refine HO.val (v := .int .i64 (i_3 - 1)) (want_none) rfl (q_subN _ rfl rfl rfl ho_12.1 ho_12.2) ?_
            refine HO.val (v := .int .i64 (i_3 - 1)) (want_none) rfl (q_assign rfl) ?_
            refine HO.nil (thenQ_normal (?_))
            refine HW.region ?_
            refine HO.val (v := .int .i64 (i_3 - 1)) (want_none) rfl (q_move rfl) ?_
            refine HO.val (v := .int .u64 u_2) (want_none) rfl (q_move rfl) ?_
            obtain ⟨ho_13, hM⟩ := hM
            refine HO.val (v := .int .u8 ((gi ([48, 49, 50, 51, 52, 53, 54, 55, 56, 57, 97, 98, 99, 100, 101, 102, 103, 104, 105, 106, 107, 108, 109, 110, 111, 112, 113, 114, 115, 116, 117, 118, 119, 120, 121, 122] : Str) u_2).toNat : Int)) (want_none) rfl (q_idxT Tryz.underlying9 rfl rfl ho_13) ?_
            obtain ⟨ho_14, hM⟩ := hM
            refine HO.val (v := .pointer (some ⟨b_2, 0 + (i_3 - 1).toNat, none⟩)) (want_none) rfl (q_idxA (o := 0) (t := i_3 - 1) tr_115 rfl rfl ho_14) ?_
            refine HO.sto (want_none) rfl (st_storeSeg (n := 65) (o := 0) (X := a_0_3) (t := i_3 - 1) (u := ((gi ([48, 49, 50, 51, 52, 53, 54, 55, 56, 57, 97, 98, 99, 100, 101, 102, 103, 104, 105, 106, 107, 108, 109, 110, 111, 112, 113, 114, 115, 116, 117, 118, 119, 120, 121, 122] : Str) u_2).toNat : Int)) (c' := (arrCells (setB a_0_3 (i_3 - 1) ((gi ([48, 49, 50, 51, 52, 53, 54, 55, 56, 57, 97, 98, 99, 100, 101, 102, 103, 104, 105, 106, 107, 108, 109, 110, 111, 112, 113, 114, 115, 116, 117, 118, 119, 120, 121, 122] : Str) u_2).toNat : Int))).toArray) hS (i := 0) rfl to_5 rfl rfl ho_14 (u8_rng _) rfl rfl) ?_
            rintro h_10 ⟨hS, hk⟩
            replace hS : St F_5 (Ow.box b_2 115 (arrCells (setB a_0_3 (i_3 - 1) ((gi ([48, 49, 50, 51, 52, 53, 54, 55, 56, 57, 97, 98, 99, 100, 101, 102, 103, 104, 105, 106, 107, 108, 109, 110, 111, 112, 113, 114, 115, 116, 117, 118, 119, 120, 121, 122] : Str) u_2).toNat : Int))).toArray :: fr) h_10 := hS
            replace hK := hK.trans hk
            replace hG_7 := hG_7.kp hk
            refine HO.nil (thenQ_normal (?_))
            exact ⟨F_5, (setB a_0_3 (i_3 - 1) ((gi ([48, 49, 50, 51, 52, 53, 54, 55, 56, 57, 97, 98, 99, 100, 101, 102, 103, 104, 105, 106, 107, 108, 109, 110, 111, 112, 113, 114, 115, 116, 117, 118, 119, 120, 121, 122] : Str) u_2).toNat : Int)), i_3 - 1, rfl, rfl, rfl, rfl, rfl, rfl, rfl, hK, hS, hG_7, hM⟩
      · rintro f_4 h_11 ⟨F_6, a_0_1, i_1, e0, e3, e4, e10, e11, e12, e13, hK, hS, hG_7, hM⟩
        unfold internal_strconv_formatBits_j2 at hM
        refine HW.fr [(0, .slice none 0 0), (3, .bool false), (4, .bool false), (10, .slice none 0 0), (11, .string (bs [])), (12, .pointer (some ⟨b_2, 0, none⟩)), (13, .int .i64 i_1)] ⟨e0, e3, e4, e10, e11, e12, e13, trivial⟩ ?_
        refine HW.seq ?_
        refine HW.seq ?_
        refine HW.region ?_
        refine HO.val (v := .bool false) (want_none) rfl (q_move rfl) ?_
        refine HO.nil (thenQ_normal (?_))
        refine HW.condF rfl ?_
        refine HW.skip (thenQ_normal (?_))
        refine HW.seq ?_
        refine HW.seq ?_
        refine HW.region ?_
        refine HO.val (v := .bool false) (want_none) rfl (q_move rfl) ?_
        refine HO.nil (thenQ_normal (?_))
        refine HW.condF rfl ?_
        refine HW.skip (thenQ_normal (?_))
        refine HW.seq ?_
        refine HW.region ?_
        refine HO.val (v := .int .i64 i_1) (want_none) rfl (q_move rfl) ?_
        obtain ⟨ho_15, hM⟩ := hM
        refine HO.val (v := arrV b_2 0 65 i_1 65) (want_none) rfl (q_sliceA (o := 0) (lo := i_1) (hi := 65) (kh := .i64) tr_115 rfl (.inr ⟨_, rfl, rfl⟩) (.inl ⟨rfl, rfl⟩) ho_15) ?_
        refine HO.val (v := .string (bs (cut a_0_1.1 i_1 65))) (want_none) rfl (q_bytesStr ts_36 Tryz.underlying5 Tryz.underlying9 (arrSl (o := 0) (n := 65) (X := a_0_1) (lo := i_1) (hi := 65) (hS.box 0 rfl) rfl ho_15 (by decide)) rfl) ?_
        refine HO.val (v := .string (bs (cut a_0_1.1 i_1 65))) (want_none) rfl (q_assign rfl) ?_
        refine HO.nil (thenQ_normal (?_))
        refine HW.ret (?_)
        refine ⟨.inr rfl, .tuple #[.slice none 0 0, .string (bs (cut a_0_1.1 i_1 65))], res2 rfl (rt rfl) (rt rfl), ?_⟩
        replace hS := hS.nilOwn 5 1 enc8
        replace hS : St F_6 (Ow.own 5 1 enc8 (.slice none 0 0) ([] : List UInt8) :: fr) h_11 := hS.perm2 [0] 2 rfl rfl
        exact ⟨F_6, [], cut a_0_1.1 i_1 65, .slice none 0 0, rfl, hK, hS, hG_7, hM⟩

def internal_strconv_FormatUint_W (i : Int) (base : Int) (Q : Str → Prop) : Prop :=
  (base = 10 → (i < 100 → (I64 i) ∧ (internal_strconv_small_W i (fun r_2 => Q r_2))) ∧ (¬ (i < 100) → False)) ∧ (¬ (base = 10) → internal_strconv_formatBits_W i base (fun r0_1 r1_1 => Q r1_1))
set_option maxHeartbeats 40000000 in
set_option maxRecDepth 100000 in
theorem internal_strconv_FormatUint_walk {F : Fz} {fr : List Ow} {h0 : Heap} (i : Int) (base : Int) (hS : St F (fr) h0) (hG_7 : RoF (Ow.box 7 124 (arrCells tab64).toArray) F h0) {Q : Str → Prop} (hM : internal_strconv_FormatUint_W i base Q) :
    HC Tryz.prog 81 #[.int .u64 i, .int .i64 base] h0 fun u h' => ∃ (F' : Fz) (r_1 : Str), u = .string (bs r_1) ∧ Kp F h0 F' h' ∧ St F' (fr) h' ∧ (RoF (Ow.box 7 124 (arrCells tab64).toArray) F' h') ∧ Q r_1 := by
  unfold internal_strconv_FormatUint_W at hM
  have hK := Kp.refl F h0
  refine HC.of_HW (n := 32) Tryz.func81 rfl rfl (Nat.le_of_ble_eq_true rfl) ?_
  refine HW.seq ?_
  refine HW.region ?_
  refine HO.val (v := .string (bs [])) (want_none) rfl (q_assign rfl) ?_
  refine HO.nil (thenQ_normal (?_))
  refine HW.seq ?_
  refine HW.seq ?_
  refine HW.region ?_
  refine HO.val (v := .int .i64 base) (want_none) rfl (q_move rfl) ?_
  refine HO.val (v := .bool (decide (base = 10))) (want_none) rfl (q_eql rfl rfl) ?_
  refine HO.nil (thenQ_normal (?_))
  refine HW.cond (decide (base = 10)) rfl (fun c_1 => ?_) (fun c_1 => ?_)
  · replace hM := hM.1 (of_decide_eq_true c_1)
    refine HW.seq ?_
    refine HW.seq ?_
    refine HW.region ?_
    refine HO.val (v := .int .u64 i) (want_none) rfl (q_move rfl) ?_
    refine HO.val (v := .bool (decide (i < 100))) (want_none) rfl (q_lss rfl rfl) ?_
    refine HO.nil (thenQ_normal (?_))
    refine HW.cond (decide (i < 100)) rfl (fun c_2 => ?_) (fun c_2 => ?_)
    · replace hM := hM.1 (of_decide_eq_true c_2)
      refine HW.seq ?_
      refine HW.region ?_
      refine HO.val (v := .int .u64 i) (want_none) rfl (q_move rfl) ?_
      obtain ⟨ho_1, hM⟩ := hM
      refine HO.val (v := .int .i64 i) (want_none) rfl (q_convInt Tryz.underlying51 Tryz.underlying3 rfl (wrap_i64 ho_1.1 ho_1.2)) ?_
      refine HO.call (want_none) rfl (ec en_91 rfl rfl) (internal_strconv_small_walk (fr := (fr)) i hS hM) ?_
      rintro _ h_1 ⟨F_1, r_2, rfl, hk, hS, hM⟩
      replace hK := hK.trans hk
      replace hG_7 := hG_7.kp hk
      refine HO.val (v := .string (bs r_2)) (want_none) rfl (q_assign rfl) ?_
      refine HO.nil (thenQ_normal (?_))
      refine HW.ret (thenQ_ret (thenQ_ret (?_)))
      refine ⟨.inr rfl, .string (bs r_2), res1 rfl (rt rfl), ?_⟩
      exact ⟨F_1, r_2, rfl, hK, hS, hG_7, hM⟩
    · replace hM := hM.2 (of_decide_eq_false c_2)
      refine HW.skip (thenQ_normal (?_))
      refine HW.seq ?_
      refine HW.region ?_
      refine HO.eff (want_none) rfl (st_alloc (c := (arrCells (default : Ba 24)).toArray) hS tz_105 rfl) ?_
      rintro _ h_2 ⟨b_1, rfl, hS, hk⟩
      replace hK := hK.trans hk
      refine HO.nil (thenQ_normal (?_))
      refine HW.seq ?_
      refine HW.region ?_
      refine HO.val (v := .int .u64 i) (want_none) rfl (q_move rfl) ?_
      exact hM.elim
  · replace hM := hM.2 (of_decide_eq_false c_1)
    refine HW.skip (thenQ_normal (?_))
    refine HW.seq ?_
    refine HW.region ?_
    refine HO.val (v := .int .u64 i) (want_none) rfl (q_move rfl) ?_
    refine HO.val (v := .int .i64 base) (want_none) rfl (q_move rfl) ?_
    refine HO.call (want_none) rfl (ec en_94 rfl rfl) (internal_strconv_formatBits_walk (fr := (fr)) i base hS hG_7 hM) ?_
    rintro _ h_3 ⟨F_2, r0_1, r1_1, vr0_1, rfl, hk, hS, _, hM⟩
    replace hK := hK.trans hk
    replace hG_7 := hG_7.kp hk
    refine HO.val (v := .tuple #[vr0_1, .string (bs r1_1)]) (want_none) rfl (q_move rfl) ?_
    refine HO.val (v := vr0_1) (want_none) rfl (q_extract rfl rfl) ?_
    refine HO.val (v := .string (bs r1_1)) (want_none) rfl (q_extract rfl rfl) ?_
    refine HO.val (v := vr0_1) (want_none) rfl (q_assign rfl) ?_
    refine HO.val (v := .string (bs r1_1)) (want_none) rfl (q_assign rfl) ?_
    refine HO.nil (thenQ_normal (?_))
    refine HW.seq ?_
    refine HW.region ?_
    refine HO.val (v := .string (bs r1_1)) (want_none) rfl (q_move rfl) ?_
    refine HO.val (v := .string (bs r1_1)) (want_none) rfl (q_assign rfl) ?_
    refine HO.nil (thenQ_normal (?_))
    refine HW.ret (?_)
    refine ⟨.inr rfl, .string (bs r1_1), res1 rfl (rt rfl), ?_⟩
    replace hS : St F_2 (fr) h_3 := hS.perm2 [] 1 rfl rfl
    exact ⟨F_2, r1_1, rfl, hK, hS, hG_7, hM⟩

def strconv_FormatUint_W (i : Int) (base : Int) (Q : Str → Prop) : Prop :=
  internal_strconv_FormatUint_W i base (fun r_2 => Q r_2)
set_option maxHeartbeats 40000000 in
set_option maxRecDepth 100000 in
theorem strconv_FormatUint_walk {F : Fz} {fr : List Ow} {h0 : Heap} (i : Int) (base : Int) (hS : St F (fr) h0) (hG_7 : RoF (Ow.box 7 124 (arrCells tab64).toArray) F h0) {Q : Str → Prop} (hM : strconv_FormatUint_W i base Q) :
    HC Tryz.prog 62 #[.int .u64 i, .int .i64 base] h0 fun u h' => ∃ (F' : Fz) (r_1 : Str), u = .string (bs r_1) ∧ Kp F h0 F' h' ∧ St F' (fr) h' ∧ (RoF (Ow.box 7 124 (arrCells tab64).toArray) F' h') ∧ Q r_1 := by
  unfold strconv_FormatUint_W at hM
  have hK := Kp.refl F h0
  refine HC.of_HW (n := 8) Tryz.func62 rfl rfl (Nat.le_of_ble_eq_true rfl) ?_
  refine HW.seq ?_
  refine HW.region ?_
  refine HO.val (v := .string (bs [])) (want_none) rfl (q_assign rfl) ?_
  refine HO.nil (thenQ_normal (?_))
  refine HW.seq ?_
  refine HW.region ?_
  refine HO.val (v := .int .u64 i) (want_none) rfl (q_move rfl) ?_
  refine HO.val (v := .int .i64 base) (want_none) rfl (q_move rfl) ?_
  refine HO.call (want_none) rfl (ec en_81 rfl rfl) (internal_strconv_FormatUint_walk (fr := (fr)) i base hS hG_7 hM) ?_
  rintro _ h_1 ⟨F_1, r_2, rfl, hk, hS, _, hM⟩
  replace hK := hK.trans hk
  replace hG_7 := hG_7.kp hk
  refine HO.val (v := .string (bs r_2)) (want_none) rfl (q_assign rfl) ?_
  refine HO.nil (thenQ_normal (?_))
  refine HW.ret (?_)
  refine ⟨.inr rfl, .string (bs r_2), res1 rfl (rt rfl), ?_⟩
  exact ⟨F_1, r_2, rfl, hK, hS, hG_7, hM⟩

def addr_list_l2 (a : T_api_Addr) (to1 : Int) (Q : Str → Prop) (K_1 : (List Str) → Int → Prop) (l_1 : List Str) (i_1 : Int) : Prop :=
  (i_1 < to1 → addr_word_W a i_1 (fun r_2 => strconv_FormatUint_W r_2 16 (fun r_3 => ((l_1.length + ([r_3] : List Str).length) * 16 ≤ 140737488355328) ∧ ((I64 (i_1 + 1)) ∧ (K_1 (l_1 ++ ([r_3] : List Str)) (i_1 + 1)))))) ∧ (¬ (i_1 < to1) → ((l_1).length ≤ 140737488355328 ∧ (joinS l_1 ([58] : Str)).length ≤ 140737488355328) ∧ (Q (joinS l_1 ([58] : Str))))
def addr_list_W (a : T_api_Addr) (from1 : Int) (to1 : Int) (Q : Str → Prop) : Prop :=
  loopW (fun (K_1 : (List Str × Int) → Prop) (s : List Str × Int) => addr_list_l2 a to1 Q (fun l_1 i_1 => K_1 (l_1, i_1)) s.1 s.2) ([], from1)
set_option maxHeartbeats 40000000 in
set_option maxRecDepth 100000 in
theorem addr_list_walk {F : Fz} {fr : List Ow} {h0 : Heap} (a : T_api_Addr) (from1 : Int) (to1 : Int) (hS : St F (fr) h0) (hG_7 : RoF (Ow.box 7 124 (arrCells tab64).toArray) F h0) (hD : DM.on = false) {Q : Str → Prop} (hM : addr_list_W a from1 to1 Q) :
    HC Tryz.prog 47 #[.agg (e_api_Addr a).toArray, .int .i64 from1, .int .i64 to1] h0 fun u h' => ∃ (F' : Fz) (r_1 : Str), u = .string (bs r_1) ∧ Kp F h0 F' h' ∧ St F' (fr) h' ∧ (RoF (Ow.box 7 124 (arrCells tab64).toArray) F' h') ∧ Q r_1 := by
  unfold addr_list_W at hM
  have hK := Kp.refl F h0
  refine HC.of_HW (n := 24) Tryz.func47 rfl rfl (Nat.le_of_ble_eq_true rfl) ?_
  refine HW.seq ?_
  refine HW.region ?_
  refine HO.eff (want_none) rfl (st_box (c := (e_api_Addr a).toArray) (k' := 17) hS rfl rfl) ?_
  rintro _ h_1 ⟨b_1, rfl, hS, hk⟩
  replace hK := hK.trans hk
  replace hG_7 := hG_7.kp hk
  refine HO.val (v := .string (bs [])) (want_none) rfl (q_assign rfl) ?_
  refine HO.nil (thenQ_normal (?_))
  refine HW.seq ?_
  refine HW.region ?_
  refine HO.val (v := .slice none 0 0) (want_none) rfl (q_assign rfl) ?_
  refine HO.nil (thenQ_normal (?_))
  refine HW.seq ?_
  refine HW.seq ?_
  refine HW.region ?_
  refine HO.val (v := .int .i64 from1) (want_none) rfl (q_move rfl) ?_
  refine HO.val (v := .int .i64 from1) (want_none) rfl (q_assign rfl) ?_
  refine HO.nil (thenQ_normal (?_))
  refine HW.block ?_
  obtain ⟨I_1, m_1, hI_1, hR_1⟩ := hM
  replace hS := hS.nilOwn 9 1 encT
  replace hS : St F (Ow.box b_1 24 (e_api_Addr a).toArray :: Ow.own 9 1 encT (.slice none 0 0) ([] : List Str) :: fr) h_1 := hS.perm2 [1, 0] 2 rfl rfl
  refine HW.loop (S := List Str × Int) (fun s f h => match s with | (l_1, i_1) => ∃ (F' : Fz) (vl_1 : Value), f 2 = .int .i64 to1 ∧ f 3 = .pointer (some ⟨b_1, 0, none⟩) ∧ f 6 = .string (bs []) ∧ f 7 = vl_1 ∧ f 8 = .int .i64 i_1 ∧ Kp F h0 F' h ∧ St F' (Ow.box b_1 24 (e_api_Addr a).toArray :: Ow.own 9 1 encT vl_1 l_1 :: fr) h ∧ (RoF (Ow.box 7 124 (arrCells tab64).toArray) F' h) ∧ I_1 (l_1, i_1)) m_1 ([], from1) ⟨F, .slice none 0 0, rfl, rfl, rfl, rfl, rfl, hK, hS, hG_7, hI_1⟩ ?_
  rintro ⟨l_1, i_1⟩ f_1 h_2 ⟨F_1, vl_1, e2, e3, e6, e7, e8, hK, hS, hG_7, hI0⟩
  obtain ⟨K_1, hKe_1⟩ : ∃ K : (List Str) → Int → Prop, K = fun l_1' i_1' => I_1 (l_1', i_1') ∧ m_1 (l_1', i_1') < m_1 (l_1, i_1) := ⟨_, rfl⟩
  have hM : addr_list_l2 a to1 Q K_1 l_1 i_1 := by rw [hKe_1]; exact hR_1 (l_1, i_1) hI0
  unfold addr_list_l2 at hM
  refine HW.fr [(2, .int .i64 to1), (3, .pointer (some ⟨b_1, 0, none⟩)), (6, .string (bs [])), (7, vl_1), (8, .int .i64 i_1)] ⟨e2, e3, e6, e7, e8, trivial⟩ ?_
  refine HW.seq ?_
  refine HW.seq ?_
  refine HW.region ?_
  refine HO.val (v := .int .i64 i_1) (want_none) rfl (q_move rfl) ?_
  refine HO.val (v := .int .i64 to1) (want_none) rfl (q_move rfl) ?_
  refine HO.val (v := .bool (decide (i_1 < to1))) (want_none) rfl (q_lss rfl rfl) ?_
  refine HO.nil (thenQ_normal (?_))
  refine HW.cond (decide (i_1 < to1)) rfl (fun c_1 => ?_) (fun c_1 => ?_)
  · replace hM := hM.1 (of_decide_eq_true c_1)
    refine HW.skip (thenQ_normal (?_))
    refine HW.seq ?_
    refine HW.block ?_
    refine HW.region ?_
    refine HO.val (v := vl_1) (want_none) rfl (q_move rfl) ?_
    refine HO.val (v := .agg (e_api_Addr a).toArray) (want_none) rfl (q_loadAgg (cs := (e_api_Addr a)) ta_24 rfl rfl (Blk.cells (k := 17) (hS.box 0 rfl) rfl)) ?_
    refine HO.val (v := .int .i64 i_1) (want_none) rfl (q_move rfl) ?_
    refine HO.call (want_none) rfl (ec en_61 rfl rfl) (addr_word_walk (fr := (Ow.box b_1 24 (e_api_Addr a).toArray :: Ow.own 9 1 encT vl_1 l_1 :: fr)) a i_1 hS hM) ?_
    rintro _ h_3 ⟨F_2, r_2, rfl, hk, hS, hM⟩
    replace hK := hK.trans hk
    replace hG_7 := hG_7.kp hk
    refine HO.call (want_none) rfl (ec en_62 rfl rfl) (strconv_FormatUint_walk (fr := (Ow.box b_1 24 (e_api_Addr a).toArray :: Ow.own 9 1 encT vl_1 l_1 :: fr)) r_2 16 hS hG_7 hM) ?_
    rintro _ h_4 ⟨F_3, r_3, rfl, hk, hS, _, hM⟩
    replace hK := hK.trans hk
    replace hG_7 := hG_7.kp hk
    refine HO.eff (want_none) rfl (st_lit (enc := encT) (cells := #[.string (bs r_3)]) #[.string (bs [])] ([r_3] : List Str) hS tl_47 (by decide) (by decide) (by kernel_rfl) (by kernel_rfl) rfl (by intro x hx; rfl) rfl) ?_
    rintro _ h_5 ⟨b_2, rfl, hS, hk⟩
    replace hK := hK.trans hk
    replace hG_7 := hG_7.kp hk
    obtain ⟨ho_1, hM⟩ := hM
    refine HO.eff (want_none) rfl (st_append te_47 hS (i := 2) rfl (hS.own 0 rfl).slice rfl rfl rfl (by intro a _ u hu; simp [encT, encI, encN, encB, encT] at hu; subst hu; rfl) ho_1 (by omega)) ?_
    rintro v_1 h_6 ⟨hS, hk⟩
    replace hS : St F_3 (Ow.own 9 1 encT (.slice (some ⟨b_2, 0, none⟩) 1 1) ([r_3] : List Str) :: Ow.box b_1 24 (e_api_Addr a).toArray :: Ow.own 9 1 encT v_1 (l_1 ++ ([r_3] : List Str)) :: fr) h_6 := hS
    replace hK := hK.trans hk
    replace hG_7 := hG_7.kp hk
    refine HO.val (v := v_1) (want_none) rfl (q_assign rfl) ?_
    refine HO.nil (blockQ_normal (thenQ_normal (?_)))
    refine HW.region ?_
    refine HO.val (v := .int .i64 i_1) (want_none) rfl (q_move rfl) ?_
    obtain ⟨ho_2, hM⟩ := hM
    refine HO.val (v := .int .i64 (i_1 + 1)) (want_none) rfl (q_addN _ rfl rfl rfl ho_2.1 ho_2.2) ?_
    refine HO.val (v := .int .i64 (i_1 + 1)) (want_none) rfl (q_assign rfl) ?_
    refine HO.nil (thenQ_normal (?_))
    replace hS : St F_3 (Ow.box b_1 24 (e_api_Addr a).toArray :: Ow.own 9 1 encT v_1 (l_1 ++ ([r_3] : List Str)) :: fr) h_6 := hS.perm2 [1, 2] 3 rfl rfl
    rw [hKe_1] at hM
    exact ⟨(l_1 ++ ([r_3] : List Str), i_1 + 1), ⟨F_3, v_1, rfl, rfl, rfl, rfl, rfl, hK, hS, hG_7, hM.1⟩, hM.2⟩
  · replace hM := hM.2 (of_decide_eq_false c_1)
    refine HW.exit (thenQ_exit (thenQ_exit (blockQ_exit (thenQ_normal (?_)))))
    refine HW.seq ?_
    refine HW.region ?_
    refine HO.val (v := vl_1) (want_none) rfl (q_move rfl) ?_
    obtain ⟨ho_3, hM⟩ := hM
    refine HO.call (want_none) rfl (ec en_37 rfl rfl) (strJoin_hc hD Tryz.join Tryz.joinX ([58] : Str) hS (hS.own 1 rfl).slice ho_3.1 ho_3.2) ?_
    rintro _ h_7 ⟨rfl, hS, hk⟩
    replace hK := hK.trans hk
    replace hG_7 := hG_7.kp hk
    refine HO.val (v := .string (bs (joinS l_1 ([58] : Str)))) (want_none) rfl (q_assign rfl) ?_
    refine HO.nil (thenQ_normal (?_))
    refine HW.ret (?_)
    refine ⟨.inr rfl, .string (bs (joinS l_1 ([58] : Str))), res1 rfl (rt rfl), ?_⟩
    replace hS : St F_1 (fr) h_7 := hS.perm2 [] 2 rfl rfl
    exact ⟨F_1, joinS l_1 ([58] : Str), rfl, hK, hS, hG_7, hM⟩

def addr_text_l2 (a : T_api_Addr) (Q : Str → Prop) (K_1 : (List Str) → Int → Prop) (l_1 : List Str) (n_1 : Int) : Prop :=
  (n_1 < ((cut a.2.1 0 4).length : Int) → ((0 : Int) ≤ n_1 ∧ n_1 < ((cut a.2.1 0 4).length : Int)) ∧ ((I64 ((gi (cut a.2.1 0 4) n_1).toNat : Int)) ∧ (((l_1.length + ([itoaS ((gi (cut a.2.1 0 4) n_1).toNat : Int)] : List Str).length) * 16 ≤ 140737488355328) ∧ ((I64 (n_1 + 1)) ∧ (K_1 (l_1 ++ ([itoaS ((gi (cut a.2.1 0 4) n_1).toNat : Int)] : List Str)) (n_1 + 1)))))) ∧ (¬ (n_1 < ((cut a.2.1 0 4).length : Int)) → ((l_1).length ≤ 140737488355328 ∧ (joinS l_1 ([46] : Str)).length ≤ 140737488355328) ∧ (Q (joinS l_1 ([46] : Str))))
def addr_text_W (a : T_api_Addr) (Q : Str → Prop) : Prop :=
  ((!a.1) = true → loopW (fun (K_1 : (List Str × Int) → Prop) (s : List Str × Int) => addr_text_l2 a Q (fun l_1 n_1 => K_1 (l_1, n_1)) s.1 s.2) ([], 0)) ∧ ((!a.1) = false → addr_row_W a (fun r0_1 r1_1 => (r1_1 < 2 → addr_list_W a 0 8 (fun r_2 => Q r_2)) ∧ (¬ (r1_1 < 2) → (I64 (r0_1 + r1_1)) ∧ (addr_list_W a 0 r0_1 (fun r_3 => ((r_3.length : Int) + ((([58, 58] : Str)).length : Int) ≤ 9223372036854775807) ∧ (addr_list_W a (r0_1 + r1_1) 8 (fun r_4 => (((r_3 ++ ([58, 58] : Str)).length : Int) + (r_4.length : Int) ≤ 9223372036854775807) ∧ (Q ((r_3 ++ ([58, 58] : Str)) ++ r_4)))))))))
set_option maxHeartbeats 40000000 in
set_option maxRecDepth 100000 in
theorem addr_text_walk {F : Fz} {fr : List Ow} {h0 : Heap} (a : T_api_Addr) (hS : St F (fr) h0) (hG_3 : RoF (Ow.box 3 114 (tab10 ()).toArray) F h0) (hG_7 : RoF (Ow.box 7 124 (arrCells tab64).toArray) F h0) (hD : DM.on = false) {Q : Str → Prop} (hM : addr_text_W a Q) :
    HC Tryz.prog 35 #[.agg (e_api_Addr a).toArray] h0 fun u h' => ∃ (F' : Fz) (r_1 : Str), u = .string (bs r_1) ∧ Kp F h0 F' h' ∧ St F' (fr) h' ∧ (RoF (Ow.box 3 114 (tab10 ()).toArray) F' h') ∧ (RoF (Ow.box 7 124 (arrCells tab64).toArray) F' h') ∧ Q r_1 := by
  unfold addr_text_W at hM
  have hK := Kp.refl F h0
  refine HC.of_HW (n := 46) Tryz.func35 rfl rfl (Nat.le_of_ble_eq_true rfl) ?_
  refine HW.seq ?_
  refine HW.region ?_
  refine HO.eff (want_none) rfl (st_box (c := (e_api_Addr a).toArray) (k' := 17) hS rfl rfl) ?_
  rintro _ h_1 ⟨b_1, rfl, hS, hk⟩
  replace hK := hK.trans hk
  replace hG_3 := hG_3.kp hk
  replace hG_7 := hG_7.kp hk
  refine HO.val (v := .string (bs [])) (want_none) rfl (q_assign rfl) ?_
  refine HO.nil (thenQ_normal (?_))
  refine HW.seq ?_
  refine HW.seq ?_
  refine HW.region ?_
  refine HO.val (v := .pointer (some ⟨b_1, 0, none⟩)) (want_none) rfl (q_fieldAddr fa_24_0 rfl rfl) ?_
  refine HO.val (v := .bool a.1) (want_none) rfl (q_load to_4 rfl (Blk.cell (hS.box 0 rfl) rfl)) ?_
  refine HO.val (v := .bool (!a.1)) (want_none) rfl (q_not rfl) ?_
  refine HO.nil (thenQ_normal (?_))
  refine HW.cond (!a.1) rfl (fun c_1 => ?_) (fun c_1 => ?_)
  · replace hM := hM.1 c_1
    refine HW.seq ?_
    refine HW.region ?_
    refine HO.val (v := .slice none 0 0) (want_none) rfl (q_assign rfl) ?_
    refine HO.nil (thenQ_normal (?_))
    refine HW.seq ?_
    refine HW.seq ?_
    refine HW.region ?_
    refine HO.val (v := .pointer (some ⟨b_1, 1, none⟩)) (want_none) rfl (q_fieldAddr fa_24_1 rfl rfl) ?_
    refine HO.val (v := arrV b_1 1 16 0 4) (want_none) rfl (q_sliceA (o := 1) (lo := 0) (hi := 4) (kl := .i64) tr_22 rfl (.inl ⟨rfl, rfl⟩) (.inr ⟨_, rfl, rfl⟩) ⟨by decide, by decide, by decide⟩) ?_
    refine HO.val (v := .int .i64 ((cut a.2.1 0 4).length : Int)) (want_none) rfl (q_len ts_36 (shp (arrSl (o := 1) (n := 16) (X := a.2) (lo := 0) (hi := 4) (hS.box 0 rfl) rfl ⟨by decide, by decide, by decide⟩ (by decide))) rfl rfl) ?_
    refine HO.val (v := .int .i64 0) (want_none) rfl (q_move rfl) ?_
    refine HO.nil (thenQ_normal (?_))
    refine HW.block ?_
    obtain ⟨I_1, m_1, hI_1, hR_1⟩ := hM
    replace hS := hS.nilOwn 9 1 encT
    replace hS : St F (Ow.box b_1 24 (e_api_Addr a).toArray :: Ow.own 9 1 encT (.slice none 0 0) ([] : List Str) :: fr) h_1 := hS.perm2 [1, 0] 2 rfl rfl
    refine HW.loop (S := List Str × Int) (fun s f h => match s with | (l_1, n_1) => ∃ (F' : Fz) (vl_1 : Value), f 1 = .pointer (some ⟨b_1, 0, none⟩) ∧ f 2 = .string (bs []) ∧ f 3 = vl_1 ∧ f 12 = arrV b_1 1 16 0 4 ∧ f 13 = .int .i64 ((cut a.2.1 0 4).length : Int) ∧ f 14 = .int .i64 n_1 ∧ Kp F h0 F' h ∧ St F' (Ow.box b_1 24 (e_api_Addr a).toArray :: Ow.own 9 1 encT vl_1 l_1 :: fr) h ∧ (RoF (Ow.box 3 114 (tab10 ()).toArray) F' h) ∧ (RoF (Ow.box 7 124 (arrCells tab64).toArray) F' h) ∧ I_1 (l_1, n_1)) m_1 ([], 0) ⟨F, .slice none 0 0, rfl, rfl, rfl, rfl, rfl, rfl, hK, hS, hG_3, hG_7, hI_1⟩ ?_
    rintro ⟨l_1, n_1⟩ f_1 h_2 ⟨F_1, vl_1, e1, e2, e3, e12, e13, e14, hK, hS, hG_3, hG_7, hI0⟩
    obtain ⟨K_1, hKe_1⟩ : ∃ K : (List Str) → Int → Prop, K = fun l_1' n_1' => I_1 (l_1', n_1') ∧ m_1 (l_1', n_1') < m_1 (l_1, n_1) := ⟨_, rfl⟩
    have hM : addr_text_l2 a Q K_1 l_1 n_1 := by rw [hKe_1]; exact hR_1 (l_1, n_1) hI0
    unfold addr_text_l2 at hM
    refine HW.fr [(1, .pointer (some ⟨b_1, 0, none⟩)), (2, .string (bs [])), (3, vl_1), (12, arrV b_1 1 16 0 4), (13, .int .i64 ((cut a.2.1 0 4).length : Int)), (14, .int .i64 n_1)] ⟨e1, e2, e3, e12, e13, e14, trivial⟩ ?_
    refine HW.seq ?_
    refine HW.region ?_
    refine HO.val (v := .bool (decide (n_1 < ((cut a.2.1 0 4).length : Int)))) (want_none) rfl (q_lss rfl rfl) ?_
    refine HO.nil (thenQ_normal (?_))
    refine HW.seq ?_
    refine HW.cond (decide (n_1 < ((cut a.2.1 0 4).length : Int))) rfl (fun c_2 => ?_) (fun c_2 => ?_)
    · replace hM := hM.1 (of_decide_eq_true c_2)
      refine HW.skip (thenQ_normal (?_))
      refine HW.seq ?_
      refine HW.block ?_
      refine HW.seq ?_
      refine HW.region ?_
      obtain ⟨ho_1, hM⟩ := hM
      refine HO.val (v := elemPtr 1 (arrV b_1 1 16 0 4) (n_1).toNat) (want_none) rfl (q_idx ts_36 (arrSl (o := 1) (n := 16) (X := a.2) (lo := 0) (hi := 4) (hS.box 0 rfl) rfl ⟨by decide, by decide, by decide⟩ (by decide)) rfl rfl ho_1) ?_
      refine HO.val (v := .int .u8 ((gi (cut a.2.1 0 4) n_1).toNat : Int)) (want_none) rfl (q_ldElem to_5 (arrSl (o := 1) (n := 16) (X := a.2) (lo := 0) (hi := 4) (hS.box 0 rfl) rfl ⟨by decide, by decide, by decide⟩ (by decide)) rfl ho_1 rfl) ?_
      refine HO.val (v := .int .u8 ((gi (cut a.2.1 0 4) n_1).toNat : Int)) (want_none) rfl (q_assign rfl) ?_
      refine HO.nil (thenQ_normal (?_))
      refine HW.region ?_
      refine HO.val (v := vl_1) (want_none) rfl (q_move rfl) ?_
      refine HO.val (v := .int .u8 ((gi (cut a.2.1 0 4) n_1).toNat : Int)) (want_none) rfl (q_move rfl) ?_
      obtain ⟨ho_2, hM⟩ := hM
      refine HO.val (v := .int .i64 ((gi (cut a.2.1 0 4) n_1).toNat : Int)) (want_none) rfl (q_convInt Tryz.underlying5 Tryz.underlying3 rfl (wrap_i64 ho_2.1 ho_2.2)) ?_
      refine HO.call (want_none) rfl (ec en_45 rfl rfl) (itoaF_hc hD Tryz.itoa (by kernel_rfl) hG_3 hS ((gi (cut a.2.1 0 4) n_1).toNat : Int) ho_2) ?_
      rintro _ h_3 ⟨rfl, hS, hk⟩
      replace hK := hK.trans hk
      replace hG_3 := hG_3.kp hk
      replace hG_7 := hG_7.kp hk
      refine HO.eff (want_none) rfl (st_lit (enc := encT) (cells := #[.string (bs (itoaS ((gi (cut a.2.1 0 4) n_1).toNat : Int)))]) #[.string (bs [])] ([itoaS ((gi (cut a.2.1 0 4) n_1).toNat : Int)] : List Str) hS tl_47 (by decide) (by decide) (by kernel_rfl) (by kernel_rfl) rfl (by intro x hx; rfl) rfl) ?_
      rintro _ h_4 ⟨b_2, rfl, hS, hk⟩
      replace hK := hK.trans hk
      replace hG_3 := hG_3.kp hk
      replace hG_7 := hG_7.kp hk
      obtain ⟨ho_3, hM⟩ := hM
      refine HO.eff (want_none) rfl (st_append te_47 hS (i := 2) rfl (hS.own 0 rfl).slice rfl rfl rfl (by intro a _ u hu; simp [encT, encI, encN, encB, encT] at hu; subst hu; rfl) ho_3 (by omega)) ?_
      rintro v_1 h_5 ⟨hS, hk⟩
      replace hS : St F_1 (Ow.own 9 1 encT (.slice (some ⟨b_2, 0, none⟩) 1 1) ([itoaS ((gi (cut a.2.1 0 4) n_1).toNat : Int)] : List Str) :: Ow.box b_1 24 (e_api_Addr a).toArray :: Ow.own 9 1 encT v_1 (l_1 ++ ([itoaS ((gi (cut a.2.1 0 4) n_1).toNat : Int)] : List Str)) :: fr) h_5 := hS
      replace hK := hK.trans hk
      replace hG_3 := hG_3.kp hk
      replace hG_7 := hG_7.kp hk
      refine HO.val (v := v_1) (want_none) rfl (q_assign rfl) ?_
      refine HO.nil (blockQ_normal (thenQ_normal (?_)))
      refine HW.region ?_
      obtain ⟨ho_4, hM⟩ := hM
      refine HO.val (v := .int .i64 (n_1 + 1)) (want_none) rfl (q_addN _ rfl rfl rfl ho_4.1 ho_4.2) ?_
      refine HO.val (v := .int .i64 (n_1 + 1)) (want_none) rfl (q_move rfl) ?_
      refine HO.nil (thenQ_normal (?_))
      replace hS : St F_1 (Ow.box b_1 24 (e_api_Addr a).toArray :: Ow.own 9 1 encT v_1 (l_1 ++ ([itoaS ((gi (cut a.2.1 0 4) n_1).toNat : Int)] : List Str)) :: fr) h_5 := hS.perm2 [1, 2] 3 rfl rfl
      rw [hKe_1] at hM
      exact ⟨(l_1 ++ ([itoaS ((gi (cut a.2.1 0 4) n_1).toNat : Int)] : List Str), n_1 + 1), ⟨F_1, v_1, rfl, rfl, rfl, rfl, rfl, rfl, hK, hS, hG_3, hG_7, hM.1⟩, hM.2⟩
    · replace hM := hM.2 (of_decide_eq_false c_2)
      refine HW.exit (thenQ_exit (thenQ_exit (blockQ_exit (thenQ_normal (?_)))))
      refine HW.seq ?_
      refine HW.region ?_
      refine HO.val (v := vl_1) (want_none) rfl (q_move rfl) ?_
      obtain ⟨ho_5, hM⟩ := hM
      refine HO.call (want_none) rfl (ec en_37 rfl rfl) (strJoin_hc hD Tryz.join Tryz.joinX ([46] : Str) hS (hS.own 1 rfl).slice ho_5.1 ho_5.2) ?_
      rintro _ h_6 ⟨rfl, hS, hk⟩
      replace hK := hK.trans hk
      replace hG_3 := hG_3.kp hk
      replace hG_7 := hG_7.kp hk
      refine HO.val (v := .string (bs (joinS l_1 ([46] : Str)))) (want_none) rfl (q_assign rfl) ?_
      refine HO.nil (thenQ_normal (?_))
      refine HW.ret (thenQ_ret (?_))
      refine ⟨.inr rfl, .string (bs (joinS l_1 ([46] : Str))), res1 rfl (rt rfl), ?_⟩
      replace hS : St F_1 (fr) h_6 := hS.perm2 [] 2 rfl rfl
      exact ⟨F_1, joinS l_1 ([46] : Str), rfl, hK, hS, hG_3, hG_7, hM⟩
  · replace hM := hM.2 c_1
    refine HW.skip (thenQ_normal (?_))
    refine HW.seq ?_
    refine HW.region ?_
    refine HO.val (v := .agg (e_api_Addr a).toArray) (want_none) rfl (q_loadAgg (cs := (e_api_Addr a)) ta_24 rfl rfl (Blk.cells (k := 17) (hS.box 0 rfl) rfl)) ?_
    refine HO.call (want_none) rfl (ec en_46 rfl rfl) (addr_row_walk (fr := (Ow.box b_1 24 (e_api_Addr a).toArray :: fr)) a hS hM) ?_
    rintro _ h_7 ⟨F_2, r0_1, r1_1, rfl, hk, hS, hM⟩
    replace hK := hK.trans hk
    replace hG_3 := hG_3.kp hk
    replace hG_7 := hG_7.kp hk
    refine HO.val (v := .tuple #[.int .i64 r0_1, .int .i64 r1_1]) (want_none) rfl (q_move rfl) ?_
    refine HO.val (v := .int .i64 r0_1) (want_none) rfl (q_extract rfl rfl) ?_
    refine HO.val (v := .int .i64 r1_1) (want_none) rfl (q_extract rfl rfl) ?_
    refine HO.val (v := .int .i64 r0_1) (want_none) rfl (q_assign rfl) ?_
    refine HO.val (v := .int .i64 r1_1) (want_none) rfl (q_assign rfl) ?_
    refine HO.nil (thenQ_normal (?_))
    refine HW.seq ?_
    refine HW.seq ?_
    refine HW.region ?_
    refine HO.val (v := .int .i64 r1_1) (want_none) rfl (q_move rfl) ?_
    refine HO.val (v := .bool (decide (r1_1 < 2))) (want_none) rfl (q_lss rfl rfl) ?_
    refine HO.nil (thenQ_normal (?_))
    refine HW.cond (decide (r1_1 < 2)) rfl (fun c_3 => ?_) (fun c_3 => ?_)
    · replace hM := hM.1 (of_decide_eq_true c_3)
      refine HW.seq ?_
      refine HW.region ?_
      refine HO.val (v := .agg (e_api_Addr a).toArray) (want_none) rfl (q_loadAgg (cs := (e_api_Addr a)) ta_24 rfl rfl (Blk.cells (k := 17) (hS.box 0 rfl) rfl)) ?_
      refine HO.call (want_none) rfl (ec en_47 rfl rfl) (addr_list_walk (fr := (Ow.box b_1 24 (e_api_Addr a).toArray :: fr)) a 0 8 hS hG_7 hD hM) ?_
      rintro _ h_8 ⟨F_3, r_2, rfl, hk, hS, _, hM⟩
      replace hK := hK.trans hk
      replace hG_3 := hG_3.kp hk
      replace hG_7 := hG_7.kp hk
      refine HO.val (v := .string (bs r_2)) (want_none) rfl (q_assign rfl) ?_
      refine HO.nil (thenQ_normal (?_))
      refine HW.ret (thenQ_ret (?_))
      refine ⟨.inr rfl, .string (bs r_2), res1 rfl (rt rfl), ?_⟩
      replace hS : St F_3 (fr) h_8 := hS.perm2 [] 1 rfl rfl
      exact ⟨F_3, r_2, rfl, hK, hS, hG_3, hG_7, hM⟩
    · replace hM := hM.2 (of_decide_eq_false c_3)
      refine HW.skip (thenQ_normal (?_))
      refine HW.seq ?_
      refine HW.regionA 11 mixed (fun h => (Blk h b_1 (.cells (e_api_Addr a).toArray 24 (0, 0)))) [] (by kernel_rfl) ?_
      refine HA.val (k := 0) (v := .agg (e_api_Addr a).toArray) rfl rfl (by kernel_rfl) (by kernel_rfl) (want_none) rfl (fun _ c201 => q_loadAgg (cs := (e_api_Addr a)) ta_24 rfl rfl (Blk.cells (k := 17) c201 rfl)) ?_
      refine HA.val (k := 1) (v := .int .i64 r0_1) rfl rfl (by kernel_rfl) (by kernel_rfl) (want_none) rfl (fun _ c201 => q_move rfl) ?_
      refine HA.val (k := 4) (v := .agg (e_api_Addr a).toArray) rfl rfl (by kernel_rfl) (by kernel_rfl) (want_none) rfl (fun _ c201 => q_loadAgg (cs := (e_api_Addr a)) ta_24 rfl rfl (Blk.cells (k := 17) c201 rfl)) ?_
      refine HA.val (k := 5) (v := .int .i64 r0_1) rfl rfl (by kernel_rfl) (by kernel_rfl) (want_none) rfl (fun _ c201 => q_move rfl) ?_
      refine HA.val (k := 6) (v := .int .i64 r1_1) rfl rfl (by kernel_rfl) (by kernel_rfl) (want_none) rfl (fun _ c201 => q_move rfl) ?_
      obtain ⟨ho_6, hM⟩ := hM
      refine HA.val (k := 7) (v := .int .i64 (r0_1 + r1_1)) rfl rfl (by kernel_rfl) (by kernel_rfl) (want_none) rfl (fun _ c201 => q_addN _ rfl rfl rfl ho_6.1 ho_6.2) ?_
      refine HA.one (k := 2) ⟨(hS.box 0 rfl), (Go.Wk.at_nil _ _)⟩ (by kernel_rfl) ?_
      refine HS.call rfl (want_none) rfl (ec en_47 rfl rfl) (addr_list_walk (fr := (Ow.box b_1 24 (e_api_Addr a).toArray :: fr)) a 0 r0_1 hS hG_7 hD hM) ?_
      rintro _ h_9 ⟨F_4, r_3, rfl, hk, hS, _, hM⟩
      replace hK := hK.trans hk
      replace hG_3 := hG_3.kp hk
      replace hG_7 := hG_7.kp hk
      obtain ⟨ho_7, hM⟩ := hM
      refine HA.val (k := 3) (v := .string (bs (r_3 ++ ([58, 58] : Str)))) rfl rfl (by kernel_rfl) (by kernel_rfl) (want_none) rfl (fun _ c201 => q_addT rfl rfl ho_7) ?_
      refine HA.one (k := 8) ⟨(hS.box 0 rfl), (Go.Wk.at_nil _ _)⟩ (by kernel_rfl) ?_
      refine HS.call rfl (want_none) rfl (ec en_47 rfl rfl) (addr_list_walk (fr := (Ow.box b_1 24 (e_api_Addr a).toArray :: fr)) a (r0_1 + r1_1) 8 hS hG_7 hD hM) ?_
      rintro _ h_10 ⟨F_5, r_4, rfl, hk, hS, _, hM⟩
      replace hK := hK.trans hk
      replace hG_3 := hG_3.kp hk
      replace hG_7 := hG_7.kp hk
      obtain ⟨ho_8, hM⟩ := hM
      refine HA.val (k := 9) (v := .string (bs ((r_3 ++ ([58, 58] : Str)) ++ r_4))) rfl rfl (by kernel_rfl) (by kernel_rfl) (want_none) rfl (fun _ c201 => q_addT rfl rfl ho_8) ?_
      refine HA.val (k := 10) (v := .string (bs ((r_3 ++ ([58, 58] : Str)) ++ r_4))) rfl rfl (by kernel_rfl) (by kernel_rfl) (want_none) rfl (fun _ c201 => q_assign rfl) ?_
      refine HA.nil ⟨(hS.box 0 rfl), (Go.Wk.at_nil _ _)⟩ (by kernel_rfl) (thenQ_normal (?_))
      refine HW.ret (?_)
      refine ⟨.inr rfl, .string (bs ((r_3 ++ ([58, 58] : Str)) ++ r_4)), res1 rfl (rt rfl), ?_⟩
      replace hS : St F_5 (fr) h_10 := hS.perm2 [] 1 rfl rfl
      exact ⟨F_5, (r_3 ++ ([58, 58] : Str)) ++ r_4, rfl, hK, hS, hG_3, hG_7, hM⟩

def addr_Parse_j2 (Q : T_api_Addr → Int → Prop) (r0_4 : T_api_Addr) (b_4 : Bool) : Prop :=
  (b_4 = true → Q (false, (default : Ba 16)) 2) ∧ (b_4 = false → Q r0_4 0)
def addr_Parse_j1 (s1 : Str) (Q : T_api_Addr → Int → Prop) (b_2 : Str) (ok_1 : Bool) : Prop :=
  addr_Read_W b_2 (fun r0_4 r1_4 => ((!ok_1) = true → addr_Parse_j2 Q r0_4 true) ∧ ((!ok_1) = false → (¬ (r1_4 = 0) → addr_Parse_j2 Q r0_4 true) ∧ (r1_4 = 0 → addr_text_W r0_4 (fun r_1 => addr_Parse_j2 Q r0_4 (!decide ((r_1 : Str) = s1))))))
def addr_Parse_W (s1 : Str) (Q : T_api_Addr → Int → Prop) : Prop :=
  addr_numbers_W s1 [46] 10 1 (fun r0_2 r1_2 => ((s1.length : Int) < 4294967281) ∧ (((hasS s1 ([58] : Str)) = true → addr_parse6_W s1 (fun r0_3 r1_3 => addr_Parse_j1 s1 Q r0_3 r1_3)) ∧ ((hasS s1 ([58] : Str)) = false → addr_Parse_j1 s1 Q r0_2 r1_2)))
set_option maxHeartbeats 40000000 in
set_option maxRecDepth 100000 in
theorem addr_Parse_walk {F : Fz} {fr : List Ow} {h0 : Heap} (s1 : Str) (gm : Int) (gvS : Value) (gbS : Bool) (gvR : Value) (gbR : Bool) (hS : St F (fr) h0) (hG_0 : RoF (Ow.box 0 3 #[.int .i64 gm]) F h0) (hG_1 : RoF (Ow.box 1 53 #[gvS]) F h0) (hE_gvS : ErrF gbS gvS F h0) (hG_2 : RoF (Ow.box 2 53 #[gvR]) F h0) (hE_gvR : ErrF gbR gvR F h0) (hG_3 : RoF (Ow.box 3 114 (tab10 ()).toArray) F h0) (hG_7 : RoF (Ow.box 7 124 (arrCells tab64).toArray) F h0) (hD : DM.on = false) {Q : T_api_Addr → Int → Prop} (hM : addr_Parse_W s1 Q) :
    HC Tryz.prog 27 #[.string (bs s1)] h0 fun u h' => ∃ (F' : Fz) (r0_1 : T_api_Addr) (r1_1 : Int), u = .tuple #[.agg (e_api_Addr r0_1).toArray, .int .i64 r1_1] ∧ Kp F h0 F' h' ∧ St F' (fr) h' ∧ (RoF (Ow.box 0 3 #[.int .i64 gm]) F' h') ∧ (RoF (Ow.box 1 53 #[gvS]) F' h') ∧ (ErrF gbS gvS F' h') ∧ (RoF (Ow.box 2 53 #[gvR]) F' h') ∧ (ErrF gbR gvR F' h') ∧ (RoF (Ow.box 3 114 (tab10 ()).toArray) F' h') ∧ (RoF (Ow.box 7 124 (arrCells tab64).toArray) F' h') ∧ Q r0_1 r1_1 := by
  unfold addr_Parse_W at hM
  have hK := Kp.refl F h0
  refine HC.of_HW (n := 39) Tryz.func27 rfl rfl (Nat.le_of_ble_eq_true rfl) ?_
  refine HW.seq ?_
  refine HW.region ?_
  refine HO.eff (want_none) rfl (st_alloc (c := (e_api_Addr (false, (default : Ba 16))).toArray) hS tz_24 rfl) ?_
  rintro _ h_1 ⟨b_1, rfl, hS, hk⟩
  replace hK := hK.trans hk
  replace hG_0 := hG_0.kp hk
  replace hG_1 := hG_1.kp hk
  replace hE_gvS := hE_gvS.kp hk
  replace hG_2 := hG_2.kp hk
  replace hE_gvR := hE_gvR.kp hk
  replace hG_3 := hG_3.kp hk
  replace hG_7 := hG_7.kp hk
  refine HO.val (v := .int .i64 0) (want_none) rfl (q_assign rfl) ?_
  refine HO.nil (thenQ_normal (?_))
  refine HW.seq ?_
  refine HW.region ?_
  refine HO.val (v := .string (bs s1)) (want_none) rfl (q_move rfl) ?_
  refine HO.call (want_none) rfl (ec en_31 rfl rfl) (addr_numbers_walk (fr := (Ow.box b_1 24 (e_api_Addr (false, (default : Ba 16))).toArray :: fr)) s1 [46] 10 1 gm gvS gbS gvR gbR hS hG_0 hG_1 hE_gvS hG_2 hE_gvR hD hM) ?_
  rintro _ h_2 ⟨F_1, r0_2, r1_2, rfl, hk, hS, _, _, _, _, _, hM⟩
  replace hK := hK.trans hk
  replace hG_0 := hG_0.kp hk
  replace hG_1 := hG_1.kp hk
  replace hE_gvS := hE_gvS.kp hk
  replace hG_2 := hG_2.kp hk
  replace hE_gvR := hE_gvR.kp hk
  replace hG_3 := hG_3.kp hk
  replace hG_7 := hG_7.kp hk
  refine HO.val (v := .tuple #[.string (bs r0_2), .bool r1_2]) (want_none) rfl (q_move rfl) ?_
  refine HO.val (v := .string (bs r0_2)) (want_none) rfl (q_extract rfl rfl) ?_
  refine HO.val (v := .bool r1_2) (want_none) rfl (q_extract rfl rfl) ?_
  refine HO.val (v := .string (bs r0_2)) (want_none) rfl (q_assign rfl) ?_
  refine HO.val (v := .bool r1_2) (want_none) rfl (q_assign rfl) ?_
  refine HO.nil (thenQ_normal (?_))
  refine HW.seq_mid (fun f h => ∃ (F' : Fz) (b_2 : Str) (ok_1 : Bool), f 0 = .string (bs s1) ∧ f 2 = .pointer (some ⟨b_1, 0, none⟩) ∧ f 3 = .int .i64 0 ∧ f 4 = .string (bs b_2) ∧ f 5 = .bool ok_1 ∧ Kp F h0 F' h ∧ St F' (Ow.box b_1 24 (e_api_Addr (false, (default : Ba 16))).toArray :: fr) h ∧ (RoF (Ow.box 0 3 #[.int .i64 gm]) F' h) ∧ (RoF (Ow.box 1 53 #[gvS]) F' h) ∧ (ErrF gbS gvS F' h) ∧ (RoF (Ow.box 2 53 #[gvR]) F' h) ∧ (ErrF gbR gvR F' h) ∧ (RoF (Ow.box 3 114 (tab10 ()).toArray) F' h) ∧ (RoF (Ow.box 7 124 (arrCells tab64).toArray) F' h) ∧ addr_Parse_j1 s1 Q b_2 ok_1) ?_ ?_
  · refine HW.seq ?_
    refine HW.region ?_
    refine HO.val (v := .string (bs s1)) (want_none) rfl (q_move rfl) ?_
    obtain ⟨ho_1, hM⟩ := hM
    refine HO.call (want_none) rfl (ec en_32 rfl rfl) (strContains_hc Tryz.has hG_0 s1 ([58] : Str) ho_1) ?_
    rintro _ h_3 ⟨rfl, hEq⟩
    rw [hEq]
    refine HO.nil (thenQ_normal (?_))
    refine HW.cond (hasS s1 ([58] : Str)) rfl (fun c_1 => ?_) (fun c_1 => ?_)
    · replace hM := hM.1 c_1
      refine HW.region ?_
      refine HO.val (v := .string (bs s1)) (want_none) rfl (q_move rfl) ?_
      refine HO.call (want_none) rfl (ec en_33 rfl rfl) (addr_parse6_walk (fr := (Ow.box b_1 24 (e_api_Addr (false, (default : Ba 16))).toArray :: fr)) s1 gm gvS gbS gvR gbR hS hG_0 hG_1 hE_gvS hG_2 hE_gvR hD hM) ?_
      rintro _ h_4 ⟨F_2, r0_3, r1_3, rfl, hk, hS, _, _, _, _, _, hM⟩
      replace hK := hK.trans hk
      replace hG_0 := hG_0.kp hk
      replace hG_1 := hG_1.kp hk
      replace hE_gvS := hE_gvS.kp hk
      replace hG_2 := hG_2.kp hk
      replace hE_gvR := hE_gvR.kp hk
      replace hG_3 := hG_3.kp hk
      replace hG_7 := hG_7.kp hk
      refine HO.val (v := .tuple #[.string (bs r0_3), .bool r1_3]) (want_none) rfl (q_move rfl) ?_
      refine HO.val (v := .string (bs r0_3)) (want_none) rfl (q_extract rfl rfl) ?_
      refine HO.val (v := .bool r1_3) (want_none) rfl (q_extract rfl rfl) ?_
      refine HO.val (v := .string (bs r0_3)) (want_none) rfl (q_assign rfl) ?_
      refine HO.val (v := .bool r1_3) (want_none) rfl (q_assign rfl) ?_
      refine HO.nil (thenQ_normal (?_))
      exact ⟨F_2, r0_3, r1_3, rfl, rfl, rfl, rfl, rfl, hK, hS, hG_0, hG_1, hE_gvS, hG_2, hE_gvR, hG_3, hG_7, hM⟩
    · replace hM := hM.2 c_1
      refine HW.skip (thenQ_normal (?_))
      exact ⟨F_1, r0_2, r1_2, rfl, rfl, rfl, rfl, rfl, hK, hS, hG_0, hG_1, hE_gvS, hG_2, hE_gvR, hG_3, hG_7, hM⟩
  · rintro f_1 h_5 ⟨F_3, b_2, ok_1, e0, e2, e3, e4, e5, hK, hS, hG_0, hG_1, hE_gvS, hG_2, hE_gvR, hG_3, hG_7, hM⟩
    unfold addr_Parse_j1 at hM
    refine HW.fr [(0, .string (bs s1)), (2, .pointer (some ⟨b_1, 0, none⟩)), (3, .int .i64 0), (4, .string (bs b_2)), (5, .bool ok_1)] ⟨e0, e2, e3, e4, e5, trivial⟩ ?_
    refine HW.seq ?_
    refine HW.region ?_
    refine HO.val (v := .string (bs b_2)) (want_none) rfl (q_move rfl) ?_
    refine HO.call (want_none) rfl (ec en_34 rfl rfl) (addr_Read_walk (fr := (Ow.box b_1 24 (e_api_Addr (false, (default : Ba 16))).toArray :: fr)) b_2 hS hM) ?_
    rintro _ h_6 ⟨F_4, r0_4, r1_4, rfl, hk, hS, hM⟩
    replace hK := hK.trans hk
    replace hG_0 := hG_0.kp hk
    replace hG_1 := hG_1.kp hk
    replace hE_gvS := hE_gvS.kp hk
    replace hG_2 := hG_2.kp hk
    replace hE_gvR := hE_gvR.kp hk
    replace hG_3 := hG_3.kp hk
    replace hG_7 := hG_7.kp hk
    refine HO.val (v := .tuple #[.agg (e_api_Addr r0_4).toArray, .int .i64 r1_4]) (want_none) rfl (q_move rfl) ?_
    refine HO.val (v := .agg (e_api_Addr r0_4).toArray) (want_none) rfl (q_extract rfl rfl) ?_
    refine HO.val (v := .int .i64 r1_4) (want_none) rfl (q_extract rfl rfl) ?_
    refine HO.eff (want_none) rfl (st_alloc (c := (e_api_Addr (false, (default : Ba 16))).toArray) hS tz_24 rfl) ?_
    rintro _ h_7 ⟨b_3, rfl, hS, hk⟩
    replace hK := hK.trans hk
    replace hG_0 := hG_0.kp hk
    replace hG_1 := hG_1.kp hk
    replace hE_gvS := hE_gvS.kp hk
    replace hG_2 := hG_2.kp hk
    replace hE_gvR := hE_gvR.kp hk
    replace hG_3 := hG_3.kp hk
    replace hG_7 := hG_7.kp hk
    refine HO.sto (want_none) rfl (st_storeAgg (c' := (e_api_Addr r0_4).toArray) hS (i := 0) rfl ta_24 rfl rfl rfl (one_e_api_Addr _) (Nat.le_of_ble_eq_true rfl) rfl) ?_
    rintro h_8 ⟨hS, hk⟩
    replace hS : St F_4 (Ow.box b_3 24 (e_api_Addr r0_4).toArray :: Ow.box b_1 24 (e_api_Addr (false, (default : Ba 16))).toArray :: fr) h_8 := hS
    replace hK := hK.trans hk
    replace hG_0 := hG_0.kp hk
    replace hG_1 := hG_1.kp hk
    replace hE_gvS := hE_gvS.kp hk
    replace hG_2 := hG_2.kp hk
    replace hE_gvR := hE_gvR.kp hk
    replace hG_3 := hG_3.kp hk
    replace hG_7 := hG_7.kp hk
    refine HO.val (v := .int .i64 r1_4) (want_none) rfl (q_assign rfl) ?_
    refine HO.nil (thenQ_normal (?_))
    refine HW.seq ?_
    refine HW.seq_mid (fun f h => ∃ (F' : Fz) (b_4 : Bool), f 2 = .pointer (some ⟨b_1, 0, none⟩) ∧ f 3 = .int .i64 0 ∧ f 6 = .pointer (some ⟨b_3, 0, none⟩) ∧ f 36 = .bool b_4 ∧ Kp F h0 F' h ∧ St F' (Ow.box b_1 24 (e_api_Addr (false, (default : Ba 16))).toArray :: Ow.box b_3 24 (e_api_Addr r0_4).toArray :: fr) h ∧ (RoF (Ow.box 0 3 #[.int .i64 gm]) F' h) ∧ (RoF (Ow.box 1 53 #[gvS]) F' h) ∧ (ErrF gbS gvS F' h) ∧ (RoF (Ow.box 2 53 #[gvR]) F' h) ∧ (ErrF gbR gvR F' h) ∧ (RoF (Ow.box 3 114 (tab10 ()).toArray) F' h) ∧ (RoF (Ow.box 7 124 (arrCells tab64).toArray) F' h) ∧ addr_Parse_j2 Q r0_4 b_4) ?_ ?_
    · refine HW.region ?_
      refine HO.val (v := .bool ok_1) (want_none) rfl (q_move rfl) ?_
      refine HO.val (v := .bool (!ok_1)) (want_none) rfl (q_not rfl) ?_
      refine HO.val (v := .bool (!ok_1)) (want_none) rfl (q_move rfl) ?_
      rcases Bool.eq_false_or_eq_true (!ok_1) with c_2 | c_2
      · replace hM := hM.1 c_2
        refine HO.past (past_by rfl rfl c_2) rfl ?_
        refine HO.past (past_by rfl rfl c_2) rfl ?_
        refine HO.val (v := .bool true) (want_none) rfl (q_pickK true rfl c_2 rfl) ?_
        refine HO.val (v := .bool true) (want_none) rfl (q_move rfl) ?_
        refine HO.past (past_some rfl rfl) rfl ?_
        refine HO.past (past_some rfl rfl) rfl ?_
        refine HO.past (past_some rfl rfl) rfl ?_
        refine HO.past (past_some rfl rfl) rfl ?_
        refine HO.val (v := .bool true) (want_none) rfl (q_pick rfl rfl) ?_
        refine HO.nil (thenQ_normal (?_))
        replace hS : St F_4 (Ow.box b_1 24 (e_api_Addr (false, (default : Ba 16))).toArray :: Ow.box b_3 24 (e_api_Addr r0_4).toArray :: fr) h_8 := hS.perm2 [1, 0] 2 rfl rfl
        exact ⟨F_4, true, rfl, rfl, rfl, rfl, hK, hS, hG_0, hG_1, hE_gvS, hG_2, hE_gvR, hG_3, hG_7, hM⟩
      · replace hM := hM.2 c_2
        refine HO.val (v := .int .i64 r1_4) (want_by rfl rfl c_2) rfl (q_move rfl) ?_
        refine HO.val (v := .bool (!decide (r1_4 = 0))) (want_by rfl rfl c_2) rfl (q_neq rfl rfl) ?_
        refine HO.val (v := .bool (!decide (r1_4 = 0))) (want_none) rfl (q_pickK false rfl c_2 rfl) ?_
        refine HO.val (v := .bool (!decide (r1_4 = 0))) (want_none) rfl (q_move rfl) ?_
        rcases Bool.eq_false_or_eq_true (!decide (r1_4 = 0)) with c_3 | c_3
        · replace hM := hM.1 (nd_true c_3)
          refine HO.past (past_by rfl rfl c_3) rfl ?_
          refine HO.past (past_by rfl rfl c_3) rfl ?_
          refine HO.past (past_by rfl rfl c_3) rfl ?_
          refine HO.past (past_by rfl rfl c_3) rfl ?_
          refine HO.val (v := .bool true) (want_none) rfl (q_pickK true rfl c_3 rfl) ?_
          refine HO.nil (thenQ_normal (?_))
          replace hS : St F_4 (Ow.box b_1 24 (e_api_Addr (false, (default : Ba 16))).toArray :: Ow.box b_3 24 (e_api_Addr r0_4).toArray :: fr) h_8 := hS.perm2 [1, 0] 2 rfl rfl
          exact ⟨F_4, true, rfl, rfl, rfl, rfl, hK, hS, hG_0, hG_1, hE_gvS, hG_2, hE_gvR, hG_3, hG_7, hM⟩
        · replace hM := hM.2 (nd_false c_3)
          refine HO.val (v := .agg (e_api_Addr r0_4).toArray) (want_by rfl rfl c_3) rfl (q_loadAgg (cs := (e_api_Addr r0_4)) ta_24 rfl rfl (Blk.cells (k := 17) (hS.box 0 rfl) rfl)) ?_
          refine HO.call (want_by rfl rfl c_3) rfl (ec en_35 rfl rfl) (addr_text_walk (fr := (Ow.box b_3 24 (e_api_Addr r0_4).toArray :: Ow.box b_1 24 (e_api_Addr (false, (default : Ba 16))).toArray :: fr)) r0_4 hS hG_3 hG_7 hD hM) ?_
          rintro _ h_9 ⟨F_5, r_1, rfl, hk, hS, _, _, hM⟩
          replace hK := hK.trans hk
          replace hG_0 := hG_0.kp hk
          replace hG_1 := hG_1.kp hk
          replace hE_gvS := hE_gvS.kp hk
          replace hG_2 := hG_2.kp hk
          replace hE_gvR := hE_gvR.kp hk
          replace hG_3 := hG_3.kp hk
          replace hG_7 := hG_7.kp hk
          refine HO.val (v := .string (bs s1)) (want_by rfl rfl c_3) rfl (q_move rfl) ?_
          refine HO.val (v := .bool (!decide ((r_1 : Str) = s1))) (want_by rfl rfl c_3) rfl (q_neqT rfl rfl) ?_
          refine HO.val (v := .bool (!decide ((r_1 : Str) = s1))) (want_none) rfl (q_pickK false rfl c_3 rfl) ?_
          refine HO.nil (thenQ_normal (?_))
          replace hS : St F_5 (Ow.box b_1 24 (e_api_Addr (false, (default : Ba 16))).toArray :: Ow.box b_3 24 (e_api_Addr r0_4).toArray :: fr) h_9 := hS.perm2 [1, 0] 2 rfl rfl
          exact ⟨F_5, !decide ((r_1 : Str) = s1), rfl, rfl, rfl, rfl, hK, hS, hG_0, hG_1, hE_gvS, hG_2, hE_gvR, hG_3, hG_7, hM⟩
    · rintro f_2 h_10 ⟨F_6, b_4, e2, e3, e6, e36, hK, hS, hG_0, hG_1, hE_gvS, hG_2, hE_gvR, hG_3, hG_7, hM⟩
      unfold addr_Parse_j2 at hM
      refine HW.fr [(2, .pointer (some ⟨b_1, 0, none⟩)), (3, .int .i64 0), (6, .pointer (some ⟨b_3, 0, none⟩)), (36, .bool b_4)] ⟨e2, e3, e6, e36, trivial⟩ ?_
      refine HW.cond b_4 rfl (fun c_4 => ?_) (fun c_4 => ?_)
      · replace hM := hM.1 c_4
        refine HW.seq ?_
        refine HW.region ?_
        refine HO.val (v := .agg (e_api_Addr (false, (default : Ba 16))).toArray) (want_none) rfl (q_build tp_24 rfl) ?_
        refine HO.sto (want_none) rfl (st_storeAgg (c' := (e_api_Addr (false, (default : Ba 16))).toArray) hS (i := 0) rfl ta_24 rfl rfl rfl (one_e_api_Addr _) (Nat.le_of_ble_eq_true rfl) rfl) ?_
        rintro h_11 ⟨hS, hk⟩
        replace hS : St F_6 (Ow.box b_1 24 (e_api_Addr (false, (default : Ba 16))).toArray :: Ow.box b_3 24 (e_api_Addr r0_4).toArray :: fr) h_11 := hS
        replace hK := hK.trans hk
        replace hG_0 := hG_0.kp hk
        replace hG_1 := hG_1.kp hk
        replace hE_gvS := hE_gvS.kp hk
        replace hG_2 := hG_2.kp hk
        replace hE_gvR := hE_gvR.kp hk
        replace hG_3 := hG_3.kp hk
        replace hG_7 := hG_7.kp hk
        refine HO.val (v := .int .i64 2) (want_none) rfl (q_assign rfl) ?_
        refine HO.nil (thenQ_normal (?_))
        refine HW.ret (thenQ_ret (?_))
        refine ⟨.inr rfl, .tuple #[.agg (e_api_Addr (false, (default : Ba 16))).toArray, .int .i64 2], res2 rfl (rca (cs := (e_api_Addr (false, (default : Ba 16)))) ta_24 rfl rfl (Blk.cells (k := 17) (hS.box 0 rfl) rfl)) (rt rfl), ?_⟩
        replace hS : St F_6 (fr) h_11 := hS.perm2 [] 2 rfl rfl
        exact ⟨F_6, (false, (default : Ba 16)), 2, rfl, hK, hS, hG_0, hG_1, hE_gvS, hG_2, hE_gvR, hG_3, hG_7, hM⟩
      · replace hM := hM.2 c_4
        refine HW.skip (thenQ_normal (?_))
        refine HW.seq ?_
        refine HW.region ?_
        refine HO.val (v := .agg (e_api_Addr r0_4).toArray) (want_none) rfl (q_loadAgg (cs := (e_api_Addr r0_4)) ta_24 rfl rfl (Blk.cells (k := 17) (hS.box 1 rfl) rfl)) ?_
        refine HO.sto (want_none) rfl (st_storeAgg (c' := (e_api_Addr r0_4).toArray) hS (i := 0) rfl ta_24 rfl rfl rfl (one_e_api_Addr _) (Nat.le_of_ble_eq_true rfl) rfl) ?_
        rintro h_12 ⟨hS, hk⟩
        replace hS : St F_6 (Ow.box b_1 24 (e_api_Addr r0_4).toArray :: Ow.box b_3 24 (e_api_Addr r0_4).toArray :: fr) h_12 := hS
        replace hK := hK.trans hk
        replace hG_0 := hG_0.kp hk
        replace hG_1 := hG_1.kp hk
        replace hE_gvS := hE_gvS.kp hk
        replace hG_2 := hG_2.kp hk
        replace hE_gvR := hE_gvR.kp hk
        replace hG_3 := hG_3.kp hk
        replace hG_7 := hG_7.kp hk
        refine HO.val (v := .int .i64 0) (want_none) rfl (q_assign rfl) ?_
        refine HO.nil (thenQ_normal (?_))
        refine HW.ret (?_)
        refine ⟨.inr rfl, .tuple #[.agg (e_api_Addr r0_4).toArray, .int .i64 0], res2 rfl (rca (cs := (e_api_Addr r0_4)) ta_24 rfl rfl (Blk.cells (k := 17) (hS.box 0 rfl) rfl)) (rt rfl), ?_⟩
        replace hS : St F_6 (fr) h_12 := hS.perm2 [] 2 rfl rfl
        exact ⟨F_6, r0_4, 0, rfl, hK, hS, hG_0, hG_1, hE_gvS, hG_2, hE_gvR, hG_3, hG_7, hM⟩

def addr_Print_W (a : T_api_Addr) (Q : Str → Prop) : Prop :=
  addr_text_W a (fun r_2 => Q r_2)
set_option maxHeartbeats 40000000 in
set_option maxRecDepth 100000 in
theorem addr_Print_walk {F : Fz} {fr : List Ow} {h0 : Heap} (a : T_api_Addr) (hS : St F (fr) h0) (hG_3 : RoF (Ow.box 3 114 (tab10 ()).toArray) F h0) (hG_7 : RoF (Ow.box 7 124 (arrCells tab64).toArray) F h0) (hD : DM.on = false) {Q : Str → Prop} (hM : addr_Print_W a Q) :
    HC Tryz.prog 28 #[.agg (e_api_Addr a).toArray] h0 fun u h' => ∃ (F' : Fz) (r_1 : Str), u = .string (bs r_1) ∧ Kp F h0 F' h' ∧ St F' (fr) h' ∧ (RoF (Ow.box 3 114 (tab10 ()).toArray) F' h') ∧ (RoF (Ow.box 7 124 (arrCells tab64).toArray) F' h') ∧ Q r_1 := by
  unfold addr_Print_W at hM
  have hK := Kp.refl F h0
  refine HC.of_HW (n := 5) Tryz.func28 rfl rfl (Nat.le_of_ble_eq_true rfl) ?_
  refine HW.seq ?_
  refine HW.region ?_
  refine HO.eff (want_none) rfl (st_box (c := (e_api_Addr a).toArray) (k' := 17) hS rfl rfl) ?_
  rintro _ h_1 ⟨b_1, rfl, hS, hk⟩
  replace hK := hK.trans hk
  replace hG_3 := hG_3.kp hk
  replace hG_7 := hG_7.kp hk
  refine HO.val (v := .string (bs [])) (want_none) rfl (q_assign rfl) ?_
  refine HO.nil (thenQ_normal (?_))
  refine HW.seq ?_
  refine HW.region ?_
  refine HO.val (v := .agg (e_api_Addr a).toArray) (want_none) rfl (q_loadAgg (cs := (e_api_Addr a)) ta_24 rfl rfl (Blk.cells (k := 17) (hS.box 0 rfl) rfl)) ?_
  refine HO.call (want_none) rfl (ec en_35 rfl rfl) (addr_text_walk (fr := (Ow.box b_1 24 (e_api_Addr a).toArray :: fr)) a hS hG_3 hG_7 hD hM) ?_
  rintro _ h_2 ⟨F_1, r_2, rfl, hk, hS, _, _, hM⟩
  replace hK := hK.trans hk
  replace hG_3 := hG_3.kp hk
  replace hG_7 := hG_7.kp hk
  refine HO.val (v := .string (bs r_2)) (want_none) rfl (q_assign rfl) ?_
  refine HO.nil (thenQ_normal (?_))
  refine HW.ret (?_)
  refine ⟨.inr rfl, .string (bs r_2), res1 rfl (rt rfl), ?_⟩
  replace hS : St F_1 (fr) h_2 := hS.perm2 [] 1 rfl rfl
  exact ⟨F_1, r_2, rfl, hK, hS, hG_3, hG_7, hM⟩

def octet_Hex_l1 (s1 : Str) (Q : Str → Prop) (K_1 : (List UInt8) → Int → Prop) (out_1 : List UInt8) (n_1 : Int) : Prop :=
  (n_1 < (s1.length : Int) → ((0 : Int) ≤ n_1 ∧ n_1 < (s1.length : Int)) ∧ (((0 : Int) ≤ (((gi s1 n_1).toNat : Int).fdiv (2 ^ (min (4 : Int).toNat IntKind.u8.bits))) ∧ (((gi s1 n_1).toNat : Int).fdiv (2 ^ (min (4 : Int).toNat IntKind.u8.bits))) < 256) ∧ (((0 : Int) ≤ ((u8w (((gi s1 n_1).toNat : Int).fdiv (2 ^ (min (4 : Int).toNat IntKind.u8.bits)))).toNat : Int) ∧ ((u8w (((gi s1 n_1).toNat : Int).fdiv (2 ^ (min (4 : Int).toNat IntKind.u8.bits)))).toNat : Int) < ((([48, 49, 50, 51, 52, 53, 54, 55, 56, 57, 97, 98, 99, 100, 101, 102] : Str)).length : Int)) ∧ (((0 : Int) ≤ (bits .and .u8 ((gi s1 n_1).toNat : Int) 15) ∧ (bits .and .u8 ((gi s1 n_1).toNat : Int) 15) < 256) ∧ (((0 : Int) ≤ ((u8w (bits .and .u8 ((gi s1 n_1).toNat : Int) 15)).toNat : Int) ∧ ((u8w (bits .and .u8 ((gi s1 n_1).toNat : Int) 15)).toNat : Int) < ((([48, 49, 50, 51, 52, 53, 54, 55, 56, 57, 97, 98, 99, 100, 101, 102] : Str)).length : Int)) ∧ (((out_1.length + ([(gi ([48, 49, 50, 51, 52, 53, 54, 55, 56, 57, 97, 98, 99, 100, 101, 102] : Str) ((u8w (((gi s1 n_1).toNat : Int).fdiv (2 ^ (min (4 : Int).toNat IntKind.u8.bits)))).toNat : Int)), (gi ([48, 49, 50, 51, 52, 53, 54, 55, 56, 57, 97, 98, 99, 100, 101, 102] : Str) ((u8w (bits .and .u8 ((gi s1 n_1).toNat : Int) 15)).toNat : Int))] : List UInt8).length) * 1 ≤ 140737488355328) ∧ ((I64 (n_1 + 1)) ∧ (K_1 (out_1 ++ ([(gi ([48, 49, 50, 51, 52, 53, 54, 55, 56, 57, 97, 98, 99, 100, 101, 102] : Str) ((u8w (((gi s1 n_1).toNat : Int).fdiv (2 ^ (min (4 : Int).toNat IntKind.u8.bits)))).toNat : Int)), (gi ([48, 49, 50, 51, 52, 53, 54, 55, 56, 57, 97, 98, 99, 100, 101, 102] : Str) ((u8w (bits .and .u8 ((gi s1 n_1).toNat : Int) 15)).toNat : Int))] : List UInt8)) (n_1 + 1))))))))) ∧ (¬ (n_1 < (s1.length : Int)) → Q out_1)
def octet_Hex_W (s1 : Str) (Q : Str → Prop) : Prop :=
  (I64 ((s1.length : Int) * 2)) ∧ (((0 : Int) ≤ ((s1.length : Int) * 2) ∧ 1 * ((s1.length : Int) * 2) ≤ 281474976710656) ∧ (loopW (fun (K_1 : (List UInt8 × Int) → Prop) (s : List UInt8 × Int) => octet_Hex_l1 s1 Q (fun out_1 n_1 => K_1 (out_1, n_1)) s.1 s.2) ([], 0)))
set_option maxHeartbeats 40000000 in
set_option maxRecDepth 100000 in
theorem octet_Hex_walk {F : Fz} {fr : List Ow} {h0 : Heap} (s1 : Str) (hS : St F (fr) h0)  {Q : Str → Prop} (hM : octet_Hex_W s1 Q) :
    HC Tryz.prog 36 #[.string (bs s1)] h0 fun u h' => ∃ (F' : Fz) (r_1 : Str), u = .string (bs r_1) ∧ Kp F h0 F' h' ∧ St F' (fr) h' ∧ Q r_1 := by
  unfold octet_Hex_W at hM
  have hK := Kp.refl F h0
  refine HC.of_HW (n := 30) Tryz.func36 rfl rfl (Nat.le_of_ble_eq_true rfl) ?_
  refine HW.seq ?_
  refine HW.region ?_
  refine HO.val (v := .string (bs [])) (want_none) rfl (q_assign rfl) ?_
  refine HO.nil (thenQ_normal (?_))
  refine HW.seq ?_
  refine HW.region ?_
  refine HO.val (v := .string (bs s1)) (want_none) rfl (q_move rfl) ?_
  refine HO.val (v := .int .i64 (s1.length : Int)) (want_none) rfl (q_lenT Tryz.underlying9 rfl rfl) ?_
  obtain ⟨ho_1, hM⟩ := hM
  refine HO.val (v := .int .i64 ((s1.length : Int) * 2)) (want_none) rfl (q_mulN _ rfl rfl rfl ho_1.1 ho_1.2) ?_
  obtain ⟨ho_2, hM⟩ := hM
  refine HO.eff (want_none) rfl (st_make0 (enc := enc8) ((s1.length : Int) * 2 : Int).toNat hS te_36 tz_5 rfl rfl (by omega) (by omega) (by omega)) ?_
  rintro _ h_1 ⟨b_1, rfl, hS, hk⟩
  replace hK := hK.trans hk
  refine HO.val (v := .slice (some ⟨b_1, 0, none⟩) 0 ((s1.length : Int) * 2 : Int).toNat) (want_none) rfl (q_assign rfl) ?_
  refine HO.nil (thenQ_normal (?_))
  refine HW.seq ?_
  refine HW.seq ?_
  refine HW.region ?_
  refine HO.val (v := .string (bs s1)) (want_none) rfl (q_move rfl) ?_
  refine HO.val (v := .int .i64 (s1.length : Int)) (want_none) rfl (q_lenT Tryz.underlying9 rfl rfl) ?_
  refine HO.val (v := .int .i64 0) (want_none) rfl (q_move rfl) ?_
  refine HO.nil (thenQ_normal (?_))
  refine HW.block ?_
  obtain ⟨I_1, m_1, hI_1, hR_1⟩ := hM
  refine HW.loop (S := List UInt8 × Int) (fun s f h => match s with | (out_1, n_1) => ∃ (F' : Fz) (vout_1 : Value), f 0 = .string (bs s1) ∧ f 2 = .string (bs []) ∧ f 3 = vout_1 ∧ f 10 = .int .i64 (s1.length : Int) ∧ f 11 = .int .i64 n_1 ∧ Kp F h0 F' h ∧ St F' (Ow.own 5 1 enc8 vout_1 out_1 :: fr) h ∧ I_1 (out_1, n_1)) m_1 ([], 0) ⟨F, .slice (some ⟨b_1, 0, none⟩) 0 ((s1.length : Int) * 2 : Int).toNat, rfl, rfl, rfl, rfl, rfl, hK, hS, hI_1⟩ ?_
  rintro ⟨out_1, n_1⟩ f_1 h_2 ⟨F_1, vout_1, e0, e2, e3, e10, e11, hK, hS, hI0⟩
  obtain ⟨K_1, hKe_1⟩ : ∃ K : (List UInt8) → Int → Prop, K = fun out_1' n_1' => I_1 (out_1', n_1') ∧ m_1 (out_1', n_1') < m_1 (out_1, n_1) := ⟨_, rfl⟩
  have hM : octet_Hex_l1 s1 Q K_1 out_1 n_1 := by rw [hKe_1]; exact hR_1 (out_1, n_1) hI0
  unfold octet_Hex_l1 at hM
  refine HW.fr [(0, .string (bs s1)), (2, .string (bs [])), (3, vout_1), (10, .int .i64 (s1.length : Int)), (11, .int .i64 n_1)] ⟨e0, e2, e3, e10, e11, trivial⟩ ?_
  refine HW.seq ?_
  refine HW.region ?_
  refine HO.val (v := .bool (decide (n_1 < (s1.length : Int)))) (want_none) rfl (q_lss rfl rfl) ?_
  refine HO.nil (thenQ_normal (?_))
  refine HW.seq ?_
  refine HW.cond (decide (n_1 < (s1.length : Int))) rfl (fun c_1 => ?_) (fun c_1 => ?_)
  · replace hM := hM.1 (of_decide_eq_true c_1)
    refine HW.skip (thenQ_normal (?_))
    refine HW.seq ?_
    refine HW.block ?_
    refine HW.seq ?_
    refine HW.region ?_
    refine HO.val (v := .int .i64 n_1) (want_none) rfl (q_move rfl) ?_
    refine HO.val (v := .int .i64 n_1) (want_none) rfl (q_assign rfl) ?_
    refine HO.nil (thenQ_normal (?_))
    refine HW.regionA 14 mixed (fun h => True) [] (by kernel_rfl) ?_
    refine HA.val (k := 0) (v := vout_1) rfl rfl (by kernel_rfl) (by kernel_rfl) (want_none) rfl (fun _ _ => q_move rfl) ?_
    refine HA.val (k := 1) (v := .string (bs s1)) rfl rfl (by kernel_rfl) (by kernel_rfl) (want_none) rfl (fun _ _ => q_move rfl) ?_
    refine HA.val (k := 2) (v := .int .i64 n_1) rfl rfl (by kernel_rfl) (by kernel_rfl) (want_none) rfl (fun _ _ => q_move rfl) ?_
    obtain ⟨ho_3, hM⟩ := hM
    refine HA.val (k := 3) (v := .int .u8 ((gi s1 n_1).toNat : Int)) rfl rfl (by kernel_rfl) (by kernel_rfl) (want_none) rfl (fun _ _ => q_idxT Tryz.underlying9 rfl rfl ho_3) ?_
    obtain ⟨ho_4, hM⟩ := hM
    refine HA.val (k := 4) (v := .int .u8 ((u8w (((gi s1 n_1).toNat : Int).fdiv (2 ^ (min (4 : Int).toNat IntKind.u8.bits)))).toNat : Int)) rfl rfl (by kernel_rfl) (by kernel_rfl) (want_none) rfl (fun _ _ => (q_shr rfl rfl (by decide) rfl).of_eq (u8r_v ho_4)) ?_
    obtain ⟨ho_5, hM⟩ := hM
    refine HA.val (k := 5) (v := .int .u8 ((gi ([48, 49, 50, 51, 52, 53, 54, 55, 56, 57, 97, 98, 99, 100, 101, 102] : Str) ((u8w (((gi s1 n_1).toNat : Int).fdiv (2 ^ (min (4 : Int).toNat IntKind.u8.bits)))).toNat : Int)).toNat : Int)) rfl rfl (by kernel_rfl) (by kernel_rfl) (want_none) rfl (fun _ _ => q_idxT Tryz.underlying9 rfl rfl ho_5) ?_
    refine HA.val (k := 6) (v := .string (bs s1)) rfl rfl (by kernel_rfl) (by kernel_rfl) (want_none) rfl (fun _ _ => q_move rfl) ?_
    refine HA.val (k := 7) (v := .int .i64 n_1) rfl rfl (by kernel_rfl) (by kernel_rfl) (want_none) rfl (fun _ _ => q_move rfl) ?_
    refine HA.val (k := 8) (v := .int .u8 ((gi s1 n_1).toNat : Int)) rfl rfl (by kernel_rfl) (by kernel_rfl) (want_none) rfl (fun _ _ => q_idxT Tryz.underlying9 rfl rfl ho_3) ?_
    obtain ⟨ho_6, hM⟩ := hM
    refine HA.val (k := 9) (v := .int .u8 ((u8w (bits .and .u8 ((gi s1 n_1).toNat : Int) 15)).toNat : Int)) rfl rfl (by kernel_rfl) (by kernel_rfl) (want_none) rfl (fun _ _ => (q_bits (by simp) rfl rfl).of_eq (u8r_v ho_6)) ?_
    obtain ⟨ho_7, hM⟩ := hM
    refine HA.val (k := 10) (v := .int .u8 ((gi ([48, 49, 50, 51, 52, 53, 54, 55, 56, 57, 97, 98, 99, 100, 101, 102] : Str) ((u8w (bits .and .u8 ((gi s1 n_1).toNat : Int) 15)).toNat : Int)).toNat : Int)) rfl rfl (by kernel_rfl) (by kernel_rfl) (want_none) rfl (fun _ _ => q_idxT Tryz.underlying9 rfl rfl ho_7) ?_
    refine HA.one (k := 11) ⟨trivial, (Go.Wk.at_nil _ _)⟩ (by kernel_rfl) ?_
    refine HS.eff rfl (want_none) rfl (st_lit (enc := enc8) (cells := #[.int .u8 ((gi ([48, 49, 50, 51, 52, 53, 54, 55, 56, 57, 97, 98, 99, 100, 101, 102] : Str) ((u8w (((gi s1 n_1).toNat : Int).fdiv (2 ^ (min (4 : Int).toNat IntKind.u8.bits)))).toNat : Int)).toNat : Int), .int .u8 ((gi ([48, 49, 50, 51, 52, 53, 54, 55, 56, 57, 97, 98, 99, 100, 101, 102] : Str) ((u8w (bits .and .u8 ((gi s1 n_1).toNat : Int) 15)).toNat : Int)).toNat : Int)]) #[.int .u8 0, .int .u8 0] ([(gi ([48, 49, 50, 51, 52, 53, 54, 55, 56, 57, 97, 98, 99, 100, 101, 102] : Str) ((u8w (((gi s1 n_1).toNat : Int).fdiv (2 ^ (min (4 : Int).toNat IntKind.u8.bits)))).toNat : Int)), (gi ([48, 49, 50, 51, 52, 53, 54, 55, 56, 57, 97, 98, 99, 100, 101, 102] : Str) ((u8w (bits .and .u8 ((gi s1 n_1).toNat : Int) 15)).toNat : Int))] : List UInt8) hS tl_36 (by decide) (by decide) (by kernel_rfl) (by kernel_rfl) rfl (by intro x hx; rfl) rfl) ?_
    rintro _ h_3 ⟨b_2, rfl, hS, hk⟩
    replace hK := hK.trans hk
    refine HA.one (k := 12) ⟨trivial, (Go.Wk.at_nil _ _)⟩ (by kernel_rfl) ?_
    obtain ⟨ho_8, hM⟩ := hM
    refine HS.eff rfl (want_none) rfl (st_append te_36 hS (i := 1) rfl (hS.own 0 rfl).slice rfl rfl rfl (by intro a _ u hu; simp [enc8, encI, encN, encB, encT] at hu; subst hu; rfl) ho_8 (by omega)) ?_
    rintro v_1 h_4 ⟨hS, hk⟩
    replace hS : St F_1 (Ow.own 5 1 enc8 (.slice (some ⟨b_2, 0, none⟩) 2 2) ([(gi ([48, 49, 50, 51, 52, 53, 54, 55, 56, 57, 97, 98, 99, 100, 101, 102] : Str) ((u8w (((gi s1 n_1).toNat : Int).fdiv (2 ^ (min (4 : Int).toNat IntKind.u8.bits)))).toNat : Int)), (gi ([48, 49, 50, 51, 52, 53, 54, 55, 56, 57, 97, 98, 99, 100, 101, 102] : Str) ((u8w (bits .and .u8 ((gi s1 n_1).toNat : Int) 15)).toNat : Int))] : List UInt8) :: Ow.own 5 1 enc8 v_1 (out_1 ++ ([(gi ([48, 49, 50, 51, 52, 53, 54, 55, 56, 57, 97, 98, 99, 100, 101, 102] : Str) ((u8w (((gi s1 n_1).toNat : Int).fdiv (2 ^ (min (4 : Int).toNat IntKind.u8.bits)))).toNat : Int)), (gi ([48, 49, 50, 51, 52, 53, 54, 55, 56, 57, 97, 98, 99, 100, 101, 102] : Str) ((u8w (bits .and .u8 ((gi s1 n_1).toNat : Int) 15)).toNat : Int))] : List UInt8)) :: fr) h_4 := hS
    replace hK := hK.trans hk
    refine HA.val (k := 13) (v := v_1) rfl rfl (by kernel_rfl) (by kernel_rfl) (want_none) rfl (fun _ _ => q_assign rfl) ?_
    refine HA.nil ⟨trivial, (Go.Wk.at_nil _ _)⟩ (by kernel_rfl) (blockQ_normal (thenQ_normal (?_)))
    refine HW.region ?_
    obtain ⟨ho_9, hM⟩ := hM
    refine HO.val (v := .int .i64 (n_1 + 1)) (want_none) rfl (q_addN _ rfl rfl rfl ho_9.1 ho_9.2) ?_
    refine HO.val (v := .int .i64 (n_1 + 1)) (want_none) rfl (q_move rfl) ?_
    refine HO.nil (thenQ_normal (?_))
    replace hS : St F_1 (Ow.own 5 1 enc8 v_1 (out_1 ++ ([(gi ([48, 49, 50, 51, 52, 53, 54, 55, 56, 57, 97, 98, 99, 100, 101, 102] : Str) ((u8w (((gi s1 n_1).toNat : Int).fdiv (2 ^ (min (4 : Int).toNat IntKind.u8.bits)))).toNat : Int)), (gi ([48, 49, 50, 51, 52, 53, 54, 55, 56, 57, 97, 98, 99, 100, 101, 102] : Str) ((u8w (bits .and .u8 ((gi s1 n_1).toNat : Int) 15)).toNat : Int))] : List UInt8)) :: fr) h_4 := hS.perm2 [1] 2 rfl rfl
    rw [hKe_1] at hM
    exact ⟨(out_1 ++ ([(gi ([48, 49, 50, 51, 52, 53, 54, 55, 56, 57, 97, 98, 99, 100, 101, 102] : Str) ((u8w (((gi s1 n_1).toNat : Int).fdiv (2 ^ (min (4 : Int).toNat IntKind.u8.bits)))).toNat : Int)), (gi ([48, 49, 50, 51, 52, 53, 54, 55, 56, 57, 97, 98, 99, 100, 101, 102] : Str) ((u8w (bits .and .u8 ((gi s1 n_1).toNat : Int) 15)).toNat : Int))] : List UInt8), n_1 + 1), ⟨F_1, v_1, rfl, rfl, rfl, rfl, rfl, hK, hS, hM.1⟩, hM.2⟩
  · replace hM := hM.2 (of_decide_eq_false c_1)
    refine HW.exit (thenQ_exit (thenQ_exit (blockQ_exit (thenQ_normal (?_)))))
    refine HW.seq ?_
    refine HW.region ?_
    refine HO.val (v := vout_1) (want_none) rfl (q_move rfl) ?_
    refine HO.val (v := .string (bs out_1)) (want_none) rfl (q_bytesStr ts_36 Tryz.underlying5 Tryz.underlying9 (hS.own 0 rfl).slice rfl) ?_
    refine HO.val (v := .string (bs out_1)) (want_none) rfl (q_assign rfl) ?_
    refine HO.nil (thenQ_normal (?_))
    refine HW.ret (?_)
    refine ⟨.inr rfl, .string (bs out_1), res1 rfl (rt rfl), ?_⟩
    replace hS : St F_1 (fr) h_2 := hS.perm2 [] 1 rfl rfl
    exact ⟨F_1, out_1, rfl, hK, hS, hM⟩

def addr_PrintMac_l2 (m1 : Ba 6) (Q : Str → Prop) (K_1 : (List Str) → Int → Prop) (l_1 : List Str) (n_1 : Int) : Prop :=
  (n_1 < 6 → ((0 : Int) ≤ n_1 ∧ n_1 < 6) ∧ (octet_Hex_W ([(gi m1.1 n_1)] : List UInt8) (fun r_2 => ((l_1.length + ([r_2] : List Str).length) * 16 ≤ 140737488355328) ∧ ((I64 (n_1 + 1)) ∧ (K_1 (l_1 ++ ([r_2] : List Str)) (n_1 + 1)))))) ∧ (¬ (n_1 < 6) → ((l_1).length ≤ 140737488355328 ∧ (joinS l_1 ([58] : Str)).length ≤ 140737488355328) ∧ (Q (joinS l_1 ([58] : Str))))
def addr_PrintMac_W (m1 : Ba 6) (Q : Str → Prop) : Prop :=
  loopW (fun (K_1 : (List Str × Int) → Prop) (s : List Str × Int) => addr_PrintMac_l2 m1 Q (fun l_1 n_1 => K_1 (l_1, n_1)) s.1 s.2) ([], 0)
set_option maxHeartbeats 40000000 in
set_option maxRecDepth 100000 in
theorem addr_PrintMac_walk {F : Fz} {fr : List Ow} {h0 : Heap} (m1 : Ba 6) (hS : St F (fr) h0)  (hD : DM.on = false) {Q : Str → Prop} (hM : addr_PrintMac_W m1 Q) :
    HC Tryz.prog 29 #[.agg (arrCells m1).toArray] h0 fun u h' => ∃ (F' : Fz) (r_1 : Str), u = .string (bs r_1) ∧ Kp F h0 F' h' ∧ St F' (fr) h' ∧ Q r_1 := by
  unfold addr_PrintMac_W at hM
  have hK := Kp.refl F h0
  refine HC.of_HW (n := 20) Tryz.func29 rfl rfl (Nat.le_of_ble_eq_true rfl) ?_
  refine HW.seq ?_
  refine HW.region ?_
  refine HO.eff (want_none) rfl (st_box (c := (arrCells m1).toArray) (k' := 6) hS rfl rfl) ?_
  rintro _ h_1 ⟨b_1, rfl, hS, hk⟩
  replace hK := hK.trans hk
  refine HO.val (v := .string (bs [])) (want_none) rfl (q_assign rfl) ?_
  refine HO.nil (thenQ_normal (?_))
  refine HW.seq ?_
  refine HW.region ?_
  refine HO.val (v := .slice none 0 0) (want_none) rfl (q_assign rfl) ?_
  refine HO.nil (thenQ_normal (?_))
  refine HW.seq ?_
  refine HW.seq ?_
  refine HW.region ?_
  refine HO.val (v := .agg (arrCells m1).toArray) (want_none) rfl (q_loadAgg (cs := (arrCells m1)) ta_28 rfl rfl (Blk.cells (k := 6) (hS.box 0 rfl) rfl)) ?_
  refine HO.val (v := .int .i64 0) (want_none) rfl (q_move rfl) ?_
  refine HO.nil (thenQ_normal (?_))
  refine HW.block ?_
  obtain ⟨I_1, m_1, hI_1, hR_1⟩ := hM
  replace hS := hS.nilOwn 9 1 encT
  replace hS : St F (Ow.own 9 1 encT (.slice none 0 0) ([] : List Str) :: fr) h_1 := hS.perm2 [0] 2 rfl rfl
  refine HW.loop (S := List Str × Int) (fun s f h => match s with | (l_1, n_1) => ∃ (F' : Fz) (vl_1 : Value), f 2 = .string (bs []) ∧ f 3 = vl_1 ∧ f 6 = .agg (arrCells m1).toArray ∧ f 7 = .int .i64 n_1 ∧ Kp F h0 F' h ∧ St F' (Ow.own 9 1 encT vl_1 l_1 :: fr) h ∧ I_1 (l_1, n_1)) m_1 ([], 0) ⟨F, .slice none 0 0, rfl, rfl, rfl, rfl, hK, hS, hI_1⟩ ?_
  rintro ⟨l_1, n_1⟩ f_1 h_2 ⟨F_1, vl_1, e2, e3, e6, e7, hK, hS, hI0⟩
  obtain ⟨K_1, hKe_1⟩ : ∃ K : (List Str) → Int → Prop, K = fun l_1' n_1' => I_1 (l_1', n_1') ∧ m_1 (l_1', n_1') < m_1 (l_1, n_1) := ⟨_, rfl⟩
  have hM : addr_PrintMac_l2 m1 Q K_1 l_1 n_1 := by rw [hKe_1]; exact hR_1 (l_1, n_1) hI0
  unfold addr_PrintMac_l2 at hM
  refine HW.fr [(2, .string (bs [])), (3, vl_1), (6, .agg (arrCells m1).toArray), (7, .int .i64 n_1)] ⟨e2, e3, e6, e7, trivial⟩ ?_
  refine HW.seq ?_
  refine HW.region ?_
  refine HO.val (v := .bool (decide (n_1 < 6))) (want_none) rfl (q_lss rfl rfl) ?_
  refine HO.nil (thenQ_normal (?_))
  refine HW.seq ?_
  refine HW.cond (decide (n_1 < 6)) rfl (fun c_1 => ?_) (fun c_1 => ?_)
  · replace hM := hM.1 (of_decide_eq_true c_1)
    refine HW.skip (thenQ_normal (?_))
    refine HW.seq ?_
    refine HW.block ?_
    refine HW.seq ?_
    refine HW.region ?_
    obtain ⟨ho_1, hM⟩ := hM
    refine HO.val (v := .int .u8 (b8 m1 n_1)) (want_none) rfl (q_ixArr (X := m1) (t := n_1) tr_28 rfl rfl ho_1) ?_
    refine HO.val (v := .int .u8 (b8 m1 n_1)) (want_none) rfl (q_assign rfl) ?_
    refine HO.nil (thenQ_normal (?_))
    refine HW.region ?_
    refine HO.val (v := vl_1) (want_none) rfl (q_move rfl) ?_
    refine HO.val (v := .int .u8 (b8 m1 n_1)) (want_none) rfl (q_move rfl) ?_
    refine HO.eff (want_none) rfl (st_lit (enc := enc8) (cells := #[.int .u8 (b8 m1 n_1)]) #[.int .u8 0] ([(gi m1.1 n_1)] : List UInt8) hS tl_36 (by decide) (by decide) (by kernel_rfl) (by kernel_rfl) rfl (by intro x hx; rfl) rfl) ?_
    rintro _ h_3 ⟨b_2, rfl, hS, hk⟩
    replace hK := hK.trans hk
    refine HO.val (v := .string (bs ([(gi m1.1 n_1)] : List UInt8))) (want_none) rfl (q_bytesStr ts_36 Tryz.underlying5 Tryz.underlying9 (hS.own 0 rfl).slice rfl) ?_
    refine HO.call (want_none) rfl (ec en_36 rfl rfl) (octet_Hex_walk (fr := (Ow.own 5 1 enc8 (.slice (some ⟨b_2, 0, none⟩) 1 1) ([(gi m1.1 n_1)] : List UInt8) :: Ow.own 9 1 encT vl_1 l_1 :: fr)) ([(gi m1.1 n_1)] : List UInt8) hS hM) ?_
    rintro _ h_4 ⟨F_2, r_2, rfl, hk, hS, hM⟩
    replace hK := hK.trans hk
    refine HO.eff (want_none) rfl (st_lit (enc := encT) (cells := #[.string (bs r_2)]) #[.string (bs [])] ([r_2] : List Str) hS tl_47 (by decide) (by decide) (by kernel_rfl) (by kernel_rfl) rfl (by intro x hx; rfl) rfl) ?_
    rintro _ h_5 ⟨b_3, rfl, hS, hk⟩
    replace hK := hK.trans hk
    obtain ⟨ho_2, hM⟩ := hM
    refine HO.eff (want_none) rfl (st_append te_47 hS (i := 2) rfl (hS.own 0 rfl).slice rfl rfl rfl (by intro a _ u hu; simp [encT, encI, encN, encB, encT] at hu; subst hu; rfl) ho_2 (by omega)) ?_
    rintro v_1 h_6 ⟨hS, hk⟩
    replace hS : St F_2 (Ow.own 9 1 encT (.slice (some ⟨b_3, 0, none⟩) 1 1) ([r_2] : List Str) :: Ow.own 5 1 enc8 (.slice (some ⟨b_2, 0, none⟩) 1 1) ([(gi m1.1 n_1)] : List UInt8) :: Ow.own 9 1 encT v_1 (l_1 ++ ([r_2] : List Str)) :: fr) h_6 := hS
    replace hK := hK.trans hk
    refine HO.val (v := v_1) (want_none) rfl (q_assign rfl) ?_
    refine HO.nil (blockQ_normal (thenQ_normal (?_)))
    refine HW.region ?_
    obtain ⟨ho_3, hM⟩ := hM
    refine HO.val (v := .int .i64 (n_1 + 1)) (want_none) rfl (q_addN _ rfl rfl rfl ho_3.1 ho_3.2) ?_
    refine HO.val (v := .int .i64 (n_1 + 1)) (want_none) rfl (q_move rfl) ?_
    refine HO.nil (thenQ_normal (?_))
    replace hS : St F_2 (Ow.own 9 1 encT v_1 (l_1 ++ ([r_2] : List Str)) :: fr) h_6 := hS.perm2 [2] 3 rfl rfl
    rw [hKe_1] at hM
    exact ⟨(l_1 ++ ([r_2] : List Str), n_1 + 1), ⟨F_2, v_1, rfl, rfl, rfl, rfl, hK, hS, hM.1⟩, hM.2⟩
  · replace hM := hM.2 (of_decide_eq_false c_1)
    refine HW.exit (thenQ_exit (thenQ_exit (blockQ_exit (thenQ_normal (?_)))))
    refine HW.seq ?_
    refine HW.region ?_
    refine HO.val (v := vl_1) (want_none) rfl (q_move rfl) ?_
    obtain ⟨ho_4, hM⟩ := hM
    refine HO.call (want_none) rfl (ec en_37 rfl rfl) (strJoin_hc hD Tryz.join Tryz.joinX ([58] : Str) hS (hS.own 0 rfl).slice ho_4.1 ho_4.2) ?_
    rintro _ h_7 ⟨rfl, hS, hk⟩
    replace hK := hK.trans hk
    refine HO.val (v := .string (bs (joinS l_1 ([58] : Str)))) (want_none) rfl (q_assign rfl) ?_
    refine HO.nil (thenQ_normal (?_))
    refine HW.ret (?_)
    refine ⟨.inr rfl, .string (bs (joinS l_1 ([58] : Str))), res1 rfl (rt rfl), ?_⟩
    replace hS : St F_1 (fr) h_7 := hS.perm2 [] 1 rfl rfl
    exact ⟨F_1, joinS l_1 ([58] : Str), rfl, hK, hS, hM⟩
end Go.Wk
