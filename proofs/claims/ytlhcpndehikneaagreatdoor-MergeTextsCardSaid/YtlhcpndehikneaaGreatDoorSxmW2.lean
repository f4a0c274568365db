/- Walks of texts of sets and filters. -/
import Derived.Test.YtlhcpndehikneaaGreatDoorSxmW1
set_option linter.unusedSimpArgs false
set_option linter.unusedVariables false
set_option linter.unusedSectionVars false
namespace Go.Wk
open Go.HL
open Go.Proofs hiding encI
variable [DM]

def strconv_ParseUint_W (s1 : Str) (base : Int) (bitSize : Int) (Q : Int → Bool → Prop) : Prop :=
  internal_strconv_ParseUint_W s1 base bitSize (fun r0_2 r1_2 => (¬ (r1_2 = 0) → ((s1.length : Int) ≤ 281474976710656 ∧ (r1_2 = 2 ∨ r1_2 = 1)) ∧ (Q r0_2 true)) ∧ (r1_2 = 0 → Q r0_2 false))
set_option maxHeartbeats 40000000 in
set_option maxRecDepth 100000 in
theorem strconv_ParseUint_walk {F : Fz} {fr : List Ow} {h0 : Heap} (s1 : Str) (base : Int) (bitSize : Int) (gvS : Value) (gbS : Bool) (gvR : Value) (gbR : Bool) (hS : St F (fr) h0) (hG_3 : RoF (Ow.box 3 75 #[gvS]) F h0) (hE_gvS : ErrF gbS gvS F h0) (hG_4 : RoF (Ow.box 4 75 #[gvR]) F h0) (hE_gvR : ErrF gbR gvR F h0) (hD : DM.on = false) {Q : Int → Bool → Prop} (hM : strconv_ParseUint_W s1 base bitSize Q) :
    HC Tryz.prog 61 #[.string (bs s1), .int .i64 base, .int .i64 bitSize] h0 fun u h' => ∃ (F' : Fz) (r0_1 : Int) (r1_1 : Bool) (vr1_1 : Value), u = .tuple #[.int .u64 r0_1, vr1_1] ∧ Kp F h0 F' h' ∧ St F' (fr) h' ∧ (RoF (Ow.box 3 75 #[gvS]) F' h') ∧ (ErrF gbS gvS F' h') ∧ (RoF (Ow.box 4 75 #[gvR]) F' h') ∧ (ErrF gbR gvR F' h') ∧ (ErrF r1_1 vr1_1 F' h') ∧ Q r0_1 r1_1 := by
  unfold strconv_ParseUint_W at hM
  have hK := Kp.refl F h0
  refine HC.of_HW (n := 26) Tryz.func61 rfl rfl (Nat.le_of_ble_eq_true rfl) ?_
  refine HW.seq ?_
  refine HW.region ?_
  refine HO.val (v := .int .u64 0) (want_none) rfl (q_assign rfl) ?_
  refine HO.val (v := .nilIface) (want_none) rfl (q_assign rfl) ?_
  refine HO.nil (thenQ_normal (?_))
  refine HW.seq ?_
  refine HW.region ?_
  refine HO.val (v := .string (bs s1)) (want_none) rfl (q_move rfl) ?_
  refine HO.val (v := .int .i64 base) (want_none) rfl (q_move rfl) ?_
  refine HO.val (v := .int .i64 bitSize) (want_none) rfl (q_move rfl) ?_
  refine HO.call (want_none) rfl (ec en_82 rfl rfl) (internal_strconv_ParseUint_walk (fr := (fr)) s1 base bitSize hS hM) ?_
  rintro _ h_1 ⟨F_1, r0_2, r1_2, rfl, hk, hS, hM⟩
  replace hK := hK.trans hk
  replace hG_3 := hG_3.kp hk
  replace hE_gvS := hE_gvS.kp hk
  replace hG_4 := hG_4.kp hk
  replace hE_gvR := hE_gvR.kp hk
  refine HO.val (v := .tuple #[.int .u64 r0_2, ifV 120 r1_2]) (want_none) rfl (q_move rfl) ?_
  refine HO.val (v := .int .u64 r0_2) (want_none) rfl (q_extract rfl rfl) ?_
  refine HO.val (v := ifV 120 r1_2) (want_none) rfl (q_extract rfl rfl) ?_
  refine HO.val (v := .int .u64 r0_2) (want_none) rfl (q_assign rfl) ?_
  refine HO.val (v := ifV 120 r1_2) (want_none) rfl (q_assign rfl) ?_
  refine HO.nil (thenQ_normal (?_))
  refine HW.seq ?_
  refine HW.seq ?_
  refine HW.region ?_
  refine HO.val (v := ifV 120 r1_2) (want_none) rfl (q_move rfl) ?_
  refine HO.val (v := .bool (!decide (r1_2 = 0))) (want_none) rfl ((q_ifNil (op := .neq) (b := !decide (r1_2 = 0)) (by simp) Tryz.underlying75 (ifV_err _ _) rfl)) ?_
  refine HO.nil (thenQ_normal (?_))
  refine HW.cond (!decide (r1_2 = 0)) rfl (fun c_1 => ?_) (fun c_1 => ?_)
  · replace hM := hM.1 (nd_true c_1)
    refine HW.seq ?_
    refine HW.region ?_
    refine HO.val (v := .int .u64 r0_2) (want_none) rfl (q_move rfl) ?_
    refine HO.val (v := .string (bs s1)) (want_none) rfl (q_move rfl) ?_
    refine HO.val (v := .int .i64 base) (want_none) rfl (q_move rfl) ?_
    refine HO.val (v := .int .i64 bitSize) (want_none) rfl (q_move rfl) ?_
    refine HO.val (v := ifV 120 r1_2) (want_none) rfl (q_move rfl) ?_
    obtain ⟨ho_1, hM⟩ := hM
    refine HO.call (want_none) rfl (ec en_83 rfl rfl) (toErr_hc hD Tryz.toErr hG_3 hG_4 hE_gvS hE_gvR hS ([80, 97, 114, 115, 101, 85, 105, 110, 116] : Str) s1 base bitSize r1_2 ho_1) ?_
    rintro v_1 h_2 ⟨hE_2, hS, hk⟩
    replace hK := hK.trans hk
    replace hG_3 := hG_3.kp hk
    replace hE_gvS := hE_gvS.kp hk
    replace hG_4 := hG_4.kp hk
    replace hE_gvR := hE_gvR.kp hk
    have hE_2 : ErrF true v_1 F_1 h_2 := ⟨hE_2⟩
    refine HO.val (v := .int .u64 r0_2) (want_none) rfl (q_assign rfl) ?_
    refine HO.val (v := v_1) (want_none) rfl (q_assign rfl) ?_
    refine HO.nil (thenQ_normal (?_))
    refine HW.ret (thenQ_ret (?_))
    refine ⟨.inr rfl, .tuple #[.int .u64 r0_2, v_1], res2 rfl (rt rfl) (rt rfl), ?_⟩
    exact ⟨F_1, r0_2, true, v_1, rfl, hK, hS, hG_3, hE_gvS, hG_4, hE_gvR, hE_2, hM⟩
  · replace hM := hM.2 (nd_false c_1)
    refine HW.skip (thenQ_normal (?_))
    refine HW.seq ?_
    refine HW.region ?_
    refine HO.val (v := .int .u64 r0_2) (want_none) rfl (q_move rfl) ?_
    refine HO.val (v := .int .u64 r0_2) (want_none) rfl (q_assign rfl) ?_
    refine HO.val (v := .nilIface) (want_none) rfl (q_assign rfl) ?_
    refine HO.nil (thenQ_normal (?_))
    refine HW.ret (?_)
    refine ⟨.inr rfl, .tuple #[.int .u64 r0_2, .nilIface], res2 rfl (rt rfl) (rt rfl), ?_⟩
    exact ⟨F_1, r0_2, false, .nilIface, rfl, hK, hS, hG_3, hE_gvS, hG_4, hE_gvR, (ErrF.nil _ _), hM⟩

def octet_within_W (n : Int) (least : Int) (most : Int) (Q : Int → Prop) : Prop :=
  Q (min (max n least) most)
set_option maxHeartbeats 40000000 in
set_option maxRecDepth 100000 in
theorem octet_within_walk {F : Fz} {fr : List Ow} {h0 : Heap} (n : Int) (least : Int) (most : Int) (hS : St F (fr) h0)  {Q : Int → Prop} (hM : octet_within_W n least most Q) :
    HC Tryz.prog 116 #[.int .i64 n, .int .i64 least, .int .i64 most] h0 fun u h' => ∃ (F' : Fz) (r_1 : Int), u = .int .i64 r_1 ∧ Kp F h0 F' h' ∧ St F' (fr) h' ∧ Q r_1 := by
  unfold octet_within_W at hM
  have hK := Kp.refl F h0
  refine HC.of_HW (n := 12) Tryz.func116 rfl rfl (Nat.le_of_ble_eq_true rfl) ?_
  refine HW.seq ?_
  refine HW.region ?_
  refine HO.val (v := .int .i64 0) (want_none) rfl (q_assign rfl) ?_
  refine HO.nil (thenQ_normal (?_))
  refine HW.seq ?_
  refine HW.region ?_
  refine HO.val (v := .int .i64 n) (want_none) rfl (q_move rfl) ?_
  refine HO.val (v := .int .i64 least) (want_none) rfl (q_move rfl) ?_
  refine HO.val (v := .int .i64 (max n least)) (want_none) rfl (q_max rfl rfl) ?_
  refine HO.val (v := .int .i64 most) (want_none) rfl (q_move rfl) ?_
  refine HO.val (v := .int .i64 (min (max n least) most)) (want_none) rfl (q_min rfl rfl) ?_
  refine HO.val (v := .int .i64 (min (max n least) most)) (want_none) rfl (q_assign rfl) ?_
  refine HO.nil (thenQ_normal (?_))
  refine HW.ret (?_)
  refine ⟨.inr rfl, .int .i64 (min (max n least) most), res1 rfl (rt rfl), ?_⟩
  exact ⟨F, min (max n least) most, rfl, hK, hS, hM⟩

def octet_put_l1 (Q : Str → Prop) (K_1 : Int → (List UInt8) → Int → Prop) (n_1 : Int) (out_1 : List UInt8) (i_1 : Int) : Prop :=
  (0 ≤ i_1 → ((0 : Int) ≤ i_1 ∧ i_1 < (out_1.length : Int)) ∧ ((I64 (i_1 - 1)) ∧ (K_1 (n_1.fdiv (2 ^ (min (8 : Int).toNat IntKind.u64.bits))) (out_1.set (i_1).toNat (u8w n_1)) (i_1 - 1)))) ∧ (¬ (0 ≤ i_1) → Q out_1)
def octet_put_W (n : Int) (wide : Int) (Q : Str → Prop) : Prop :=
  octet_within_W wide 0 8 (fun r_2 => ((0 : Int) ≤ r_2 ∧ 1 * r_2 ≤ 281474976710656) ∧ ((I64 (((List.replicate (r_2 : Int).toNat (default : UInt8)).length : Int) - 1)) ∧ (loopW (fun (K_1 : (Int × List UInt8 × Int) → Prop) (s : Int × List UInt8 × Int) => octet_put_l1 Q (fun n_1 out_1 i_1 => K_1 (n_1, out_1, i_1)) s.1 s.2.1 s.2.2) (n, List.replicate (r_2 : Int).toNat (default : UInt8), ((List.replicate (r_2 : Int).toNat (default : UInt8)).length : Int) - 1))))
set_option maxHeartbeats 40000000 in
set_option maxRecDepth 100000 in
theorem octet_put_walk {F : Fz} {fr : List Ow} {h0 : Heap} (n : Int) (wide : Int) (hS : St F (fr) h0)  {Q : Str → Prop} (hM : octet_put_W n wide Q) :
    HC Tryz.prog 84 #[.int .u64 n, .int .i64 wide] h0 fun u h' => ∃ (F' : Fz) (r_1 : Str), u = .string (bs r_1) ∧ Kp F h0 F' h' ∧ St F' (fr) h' ∧ Q r_1 := by
  unfold octet_put_W at hM
  have hK := Kp.refl F h0
  refine HC.of_HW (n := 26) Tryz.func84 rfl rfl (Nat.le_of_ble_eq_true rfl) ?_
  refine HW.seq ?_
  refine HW.region ?_
  refine HO.val (v := .string (bs [])) (want_none) rfl (q_assign rfl) ?_
  refine HO.nil (thenQ_normal (?_))
  refine HW.seq ?_
  refine HW.region ?_
  refine HO.val (v := .int .i64 wide) (want_none) rfl (q_move rfl) ?_
  refine HO.call (want_none) rfl (ec en_116 rfl rfl) (octet_within_walk (fr := (fr)) wide 0 8 hS hM) ?_
  rintro _ h_1 ⟨F_1, r_2, rfl, hk, hS, hM⟩
  replace hK := hK.trans hk
  obtain ⟨ho_1, hM⟩ := hM
  refine HO.eff (want_none) rfl (st_makeSlice (enc := enc8) (r_2 : Int).toNat (default : UInt8) hS te_79 tz_5 rfl rfl (by omega) (by omega) (by omega)) ?_
  rintro _ h_2 ⟨b_1, rfl, hS, hk⟩
  replace hK := hK.trans hk
  refine HO.val (v := .slice (some ⟨b_1, 0, none⟩) (r_2 : Int).toNat (r_2 : Int).toNat) (want_none) rfl (q_assign rfl) ?_
  refine HO.nil (thenQ_normal (?_))
  refine HW.seq ?_
  refine HW.seq ?_
  refine HW.region ?_
  refine HO.val (v := .slice (some ⟨b_1, 0, none⟩) (r_2 : Int).toNat (r_2 : Int).toNat) (want_none) rfl (q_move rfl) ?_
  refine HO.val (v := .int .i64 ((List.replicate (r_2 : Int).toNat (default : UInt8)).length : Int)) (want_none) rfl (q_len ts_79 (shp (hS.own 0 rfl).slice) rfl rfl) ?_
  obtain ⟨ho_2, hM⟩ := hM
  refine HO.val (v := .int .i64 (((List.replicate (r_2 : Int).toNat (default : UInt8)).length : Int) - 1)) (want_none) rfl (q_subN _ rfl rfl rfl ho_2.1 ho_2.2) ?_
  refine HO.val (v := .int .i64 (((List.replicate (r_2 : Int).toNat (default : UInt8)).length : Int) - 1)) (want_none) rfl (q_assign rfl) ?_
  refine HO.nil (thenQ_normal (?_))
  refine HW.block ?_
  obtain ⟨I_1, m_1, hI_1, hR_1⟩ := hM
  refine HW.loop (S := Int × List UInt8 × Int) (fun s f h => match s with | (n_1, out_1, i_1) => ∃ (F' : Fz), f 0 = .int .u64 n_1 ∧ f 4 = .string (bs []) ∧ f 5 = .slice (some ⟨b_1, 0, none⟩) (r_2 : Int).toNat (r_2 : Int).toNat ∧ f 6 = .int .i64 i_1 ∧ Kp F h0 F' h ∧ St F' (Ow.own 5 1 enc8 (.slice (some ⟨b_1, 0, none⟩) (r_2 : Int).toNat (r_2 : Int).toNat) out_1 :: fr) h ∧ I_1 (n_1, out_1, i_1)) m_1 (n, List.replicate (r_2 : Int).toNat (default : UInt8), ((List.replicate (r_2 : Int).toNat (default : UInt8)).length : Int) - 1) ⟨F_1, rfl, rfl, rfl, rfl, hK, hS, hI_1⟩ ?_
  rintro ⟨n_1, out_1, i_1⟩ f_1 h_3 ⟨F_2, e0, e4, e5, e6, hK, hS, hI0⟩
  obtain ⟨K_1, hKe_1⟩ : ∃ K : Int → (List UInt8) → Int → Prop, K = fun n_1' out_1' i_1' => I_1 (n_1', out_1', i_1') ∧ m_1 (n_1', out_1', i_1') < m_1 (n_1, out_1, i_1) := ⟨_, rfl⟩
  have hM : octet_put_l1 Q K_1 n_1 out_1 i_1 := by rw [hKe_1]; exact hR_1 (n_1, out_1, i_1) hI0
  unfold octet_put_l1 at hM
  refine HW.fr [(0, .int .u64 n_1), (4, .string (bs [])), (5, .slice (some ⟨b_1, 0, none⟩) (r_2 : Int).toNat (r_2 : Int).toNat), (6, .int .i64 i_1)] ⟨e0, e4, e5, e6, trivial⟩ ?_
  refine HW.seq ?_
  refine HW.seq ?_
  refine HW.region ?_
  refine HO.val (v := .int .i64 i_1) (want_none) rfl (q_move rfl) ?_
  refine HO.val (v := .bool (decide (0 ≤ i_1))) (want_none) rfl (q_geq rfl rfl) ?_
  refine HO.nil (thenQ_normal (?_))
  refine HW.cond (decide (0 ≤ i_1)) rfl (fun c_1 => ?_) (fun c_1 => ?_)
  · replace hM := hM.1 (of_decide_eq_true c_1)
    refine HW.skip (thenQ_normal (?_))
    refine HW.seq ?_
    refine HW.block ?_
    refine HW.seq ?_
    refine HW.region ?_
    refine HO.val (v := .slice (some ⟨b_1, 0, none⟩) (r_2 : Int).toNat (r_2 : Int).toNat) (want_none) rfl (q_move rfl) ?_
    refine HO.val (v := .int .i64 i_1) (want_none) rfl (q_move rfl) ?_
    refine HO.val (v := .int .u64 n_1) (want_none) rfl (q_move rfl) ?_
    refine HO.val (v := .int .u8 ((u8w n_1).toNat : Int)) (want_none) rfl ((q_convInt (n := n_1) Tryz.underlying73 Tryz.underlying5 rfl rfl).of_eq (u8w_v _)) ?_
    obtain ⟨ho_3, hM⟩ := hM
    refine HO.val (v := elemPtr 1 (.slice (some ⟨b_1, 0, none⟩) (r_2 : Int).toNat (r_2 : Int).toNat) (i_1).toNat) (want_none) rfl (q_idx ts_79 (hS.own 0 rfl).slice rfl rfl ho_3) ?_
    refine HO.sto (want_none) rfl (st_storeField (a := (u8w n_1)) (n := (i_1).toNat) (j := 0) hS (i := 0) rfl to_5 (elem_field 1 (.slice (some ⟨b_1, 0, none⟩) (r_2 : Int).toNat (r_2 : Int).toNat) (i_1).toNat) (by omega) (by decide) rfl (by rw [← gi_lt ho_3.1 ho_3.2]; rfl) rfl rfl) ?_
    rintro h_4 ⟨hS, hk⟩
    replace hS : St F_2 (Ow.own 5 1 enc8 (.slice (some ⟨b_1, 0, none⟩) (r_2 : Int).toNat (r_2 : Int).toNat) (out_1.set (i_1).toNat (u8w n_1)) :: fr) h_4 := hS
    replace hK := hK.trans hk
    refine HO.nil (thenQ_normal (?_))
    refine HW.region ?_
    refine HO.val (v := .int .u64 n_1) (want_none) rfl (q_move rfl) ?_
    refine HO.val (v := .int .u64 (n_1.fdiv (2 ^ (min (8 : Int).toNat IntKind.u64.bits)))) (want_none) rfl (q_shr rfl rfl (by decide) rfl) ?_
    refine HO.val (v := .int .u64 (n_1.fdiv (2 ^ (min (8 : Int).toNat IntKind.u64.bits)))) (want_none) rfl (q_assign rfl) ?_
    refine HO.nil (blockQ_normal (thenQ_normal (?_)))
    refine HW.region ?_
    refine HO.val (v := .int .i64 i_1) (want_none) rfl (q_move rfl) ?_
    obtain ⟨ho_4, hM⟩ := hM
    refine HO.val (v := .int .i64 (i_1 - 1)) (want_none) rfl (q_subN _ rfl rfl rfl ho_4.1 ho_4.2) ?_
    refine HO.val (v := .int .i64 (i_1 - 1)) (want_none) rfl (q_assign rfl) ?_
    refine HO.nil (thenQ_normal (?_))
    rw [hKe_1] at hM
    exact ⟨(n_1.fdiv (2 ^ (min (8 : Int).toNat IntKind.u64.bits)), out_1.set (i_1).toNat (u8w n_1), i_1 - 1), ⟨F_2, rfl, rfl, rfl, rfl, hK, hS, hM.1⟩, hM.2⟩
  · replace hM := hM.2 (of_decide_eq_false c_1)
    refine HW.exit (thenQ_exit (thenQ_exit (blockQ_exit (thenQ_normal (?_)))))
    refine HW.seq ?_
    refine HW.region ?_
    refine HO.val (v := .slice (some ⟨b_1, 0, none⟩) (r_2 : Int).toNat (r_2 : Int).toNat) (want_none) rfl (q_move rfl) ?_
    refine HO.val (v := .string (bs out_1)) (want_none) rfl (q_bytesStr ts_79 Tryz.underlying5 Tryz.underlying9 (hS.own 0 rfl).slice rfl) ?_
    refine HO.val (v := .string (bs out_1)) (want_none) rfl (q_assign rfl) ?_
    refine HO.nil (thenQ_normal (?_))
    refine HW.ret (?_)
    refine ⟨.inr rfl, .string (bs out_1), res1 rfl (rt rfl), ?_⟩
    replace hS : St F_2 (fr) h_3 := hS.perm2 [] 1 rfl rfl
    exact ⟨F_2, out_1, rfl, hK, hS, hM⟩

def octet_Put_W (n : Int) (wide : Int) (Q : Str → Prop) : Prop :=
  octet_put_W n wide (fun r_2 => Q r_2)
set_option maxHeartbeats 40000000 in
set_option maxRecDepth 100000 in
theorem octet_Put_walk {F : Fz} {fr : List Ow} {h0 : Heap} (n : Int) (wide : Int) (hS : St F (fr) h0)  {Q : Str → Prop} (hM : octet_Put_W n wide Q) :
    HC Tryz.prog 62 #[.int .u64 n, .int .i64 wide] h0 fun u h' => ∃ (F' : Fz) (r_1 : Str), u = .string (bs r_1) ∧ Kp F h0 F' h' ∧ St F' (fr) h' ∧ Q r_1 := by
  unfold octet_Put_W at hM
  have hK := Kp.refl F h0
  refine HC.of_HW (n := 8) Tryz.func62 rfl rfl (Nat.le_of_ble_eq_true rfl) ?_
  refine HW.seq ?_
  refine HW.region ?_
  refine HO.val (v := .string (bs [])) (want_none) rfl (q_assign rfl) ?_
  refine HO.nil (thenQ_normal (?_))
  refine HW.seq ?_
  refine HW.region ?_
  refine HO.val (v := .int .u64 n) (want_none) rfl (q_move rfl) ?_
  refine HO.val (v := .int .i64 wide) (want_none) rfl (q_move rfl) ?_
  refine HO.call (want_none) rfl (ec en_84 rfl rfl) (octet_put_walk (fr := (fr)) n wide hS hM) ?_
  rintro _ h_1 ⟨F_1, r_2, rfl, hk, hS, hM⟩
  replace hK := hK.trans hk
  refine HO.val (v := .string (bs r_2)) (want_none) rfl (q_assign rfl) ?_
  refine HO.nil (thenQ_normal (?_))
  refine HW.ret (?_)
  refine ⟨.inr rfl, .string (bs r_2), res1 rfl (rt rfl), ?_⟩
  exact ⟨F_1, r_2, rfl, hK, hS, hM⟩

def addr_numbers_l1 (s1 : Str) (sign : Str) (base : Int) (wide : Int) (Q : Str → Bool → Prop) (K_1 : Str → Int → Prop) (out_1 : Str) (n_1 : Int) : Prop :=
  (n_1 < ((splitS s1 sign).length : Int) → ((0 : Int) ≤ n_1 ∧ n_1 < ((splitS s1 sign).length : Int)) ∧ ((I64 (8 * wide)) ∧ (strconv_ParseUint_W (gi (splitS s1 sign) n_1) base (8 * wide) (fun r0_2 r1_2 => (r1_2 = true → Q [] false) ∧ (r1_2 = false → octet_Put_W r0_2 wide (fun r_1 => ((out_1.length : Int) + (r_1.length : Int) ≤ 9223372036854775807) ∧ ((I64 (n_1 + 1)) ∧ (K_1 (out_1 ++ r_1) (n_1 + 1))))))))) ∧ (¬ (n_1 < ((splitS s1 sign).length : Int)) → Q out_1 true)
def addr_numbers_W (s1 : Str) (sign : Str) (base : Int) (wide : Int) (Q : Str → Bool → Prop) : Prop :=
  ((s1 : Str) = [] → Q [] true) ∧ (¬ ((s1 : Str) = []) → ((s1.length : Int) < 4294967281 ∧ 1 ≤ (sign.length : Int)) ∧ (loopW (fun (K_1 : (Str × Int) → Prop) (s : Str × Int) => addr_numbers_l1 s1 sign base wide Q (fun out_1 n_1 => K_1 (out_1, n_1)) s.1 s.2) ([], 0)))
set_option maxHeartbeats 40000000 in
set_option maxRecDepth 100000 in
theorem addr_numbers_walk {F : Fz} {fr : List Ow} {h0 : Heap} (s1 : Str) (sign : Str) (base : Int) (wide : Int) (gm : Int) (gvS : Value) (gbS : Bool) (gvR : Value) (gbR : Bool) (hS : St F (fr) h0) (hG_0 : RoF (Ow.box 0 3 #[.int .i64 gm]) F h0) (hG_3 : RoF (Ow.box 3 75 #[gvS]) F h0) (hE_gvS : ErrF gbS gvS F h0) (hG_4 : RoF (Ow.box 4 75 #[gvR]) F h0) (hE_gvR : ErrF gbR gvR F h0) (hD : DM.on = false) {Q : Str → Bool → Prop} (hM : addr_numbers_W s1 sign base wide Q) :
    HC Tryz.prog 37 #[.string (bs s1), .string (bs sign), .int .i64 base, .int .i64 wide] h0 fun u h' => ∃ (F' : Fz) (r0_1 : Str) (r1_1 : Bool), u = .tuple #[.string (bs r0_1), .bool r1_1] ∧ Kp F h0 F' h' ∧ St F' (fr) h' ∧ (RoF (Ow.box 0 3 #[.int .i64 gm]) F' h') ∧ (RoF (Ow.box 3 75 #[gvS]) F' h') ∧ (ErrF gbS gvS F' h') ∧ (RoF (Ow.box 4 75 #[gvR]) F' h') ∧ (ErrF gbR gvR F' h') ∧ Q r0_1 r1_1 := by
  unfold addr_numbers_W at hM
  have hK := Kp.refl F h0
  refine HC.of_HW (n := 42) Tryz.func37 rfl rfl (Nat.le_of_ble_eq_true rfl) ?_
  refine HW.seq ?_
  refine HW.region ?_
  refine HO.val (v := .string (bs [])) (want_none) rfl (q_assign rfl) ?_
  refine HO.val (v := .bool false) (want_none) rfl (q_assign rfl) ?_
  refine HO.nil (thenQ_normal (?_))
  refine HW.seq ?_
  refine HW.region ?_
  refine HO.val (v := .string (bs [])) (want_none) rfl (q_assign rfl) ?_
  refine HO.nil (thenQ_normal (?_))
  refine HW.seq ?_
  refine HW.seq ?_
  refine HW.region ?_
  refine HO.val (v := .string (bs s1)) (want_none) rfl (q_move rfl) ?_
  refine HO.val (v := .bool (decide ((s1 : Str) = []))) (want_none) rfl (q_eqlT rfl rfl) ?_
  refine HO.nil (thenQ_normal (?_))
  refine HW.cond (decide ((s1 : Str) = [])) rfl (fun c_1 => ?_) (fun c_1 => ?_)
  · replace hM := hM.1 (of_decide_eq_true c_1)
    refine HW.seq ?_
    refine HW.region ?_
    refine HO.val (v := .string (bs [])) (want_none) rfl (q_assign rfl) ?_
    refine HO.val (v := .bool true) (want_none) rfl (q_assign rfl) ?_
    refine HO.nil (thenQ_normal (?_))
    refine HW.ret (thenQ_ret (?_))
    refine ⟨.inr rfl, .tuple #[.string (bs []), .bool true], res2 rfl (rt rfl) (rt rfl), ?_⟩
    exact ⟨F, [], true, rfl, hK, hS, hG_0, hG_3, hE_gvS, hG_4, hE_gvR, hM⟩
  · replace hM := hM.2 (of_decide_eq_false c_1)
    refine HW.skip (thenQ_normal (?_))
    refine HW.seq ?_
    refine HW.seq ?_
    refine HW.region ?_
    refine HO.val (v := .string (bs s1)) (want_none) rfl (q_move rfl) ?_
    refine HO.val (v := .string (bs sign)) (want_none) rfl (q_move rfl) ?_
    obtain ⟨ho_1, hM⟩ := hM
    refine HO.call (want_none) rfl (ec en_20 rfl rfl) (strSplit_hc Tryz.split (by kernel_rfl) hG_0 hS s1 sign ho_1) ?_
    rintro v_1 h_1 ⟨hS, hk⟩
    replace hS : St F (Ow.own 9 1 encT v_1 (splitS s1 sign) :: fr) h_1 := hS
    replace hK := hK.trans hk
    replace hG_0 := hG_0.kp hk
    replace hG_3 := hG_3.kp hk
    replace hE_gvS := hE_gvS.kp hk
    replace hG_4 := hG_4.kp hk
    replace hE_gvR := hE_gvR.kp hk
    refine HO.val (v := .int .i64 ((splitS s1 sign).length : Int)) (want_none) rfl (q_len ts_45 (shp (hS.own 0 rfl).slice) rfl rfl) ?_
    refine HO.val (v := .int .i64 0) (want_none) rfl (q_move rfl) ?_
    refine HO.nil (thenQ_normal (?_))
    refine HW.block ?_
    obtain ⟨I_1, m_1, hI_1, hR_1⟩ := hM
    refine HW.loop (S := Str × Int) (fun s f h => match s with | (out_1, n_1) => ∃ (F' : Fz), f 2 = .int .i64 base ∧ f 3 = .int .i64 wide ∧ f 8 = .string (bs []) ∧ f 9 = .bool false ∧ f 10 = .string (bs out_1) ∧ f 19 = v_1 ∧ f 20 = .int .i64 ((splitS s1 sign).length : Int) ∧ f 21 = .int .i64 n_1 ∧ Kp F h0 F' h ∧ St F' (Ow.own 9 1 encT v_1 (splitS s1 sign) :: fr) h ∧ (RoF (Ow.box 0 3 #[.int .i64 gm]) F' h) ∧ (RoF (Ow.box 3 75 #[gvS]) F' h) ∧ (ErrF gbS gvS F' h) ∧ (RoF (Ow.box 4 75 #[gvR]) F' h) ∧ (ErrF gbR gvR F' h) ∧ I_1 (out_1, n_1)) m_1 ([], 0) ⟨F, rfl, rfl, rfl, rfl, rfl, rfl, rfl, rfl, hK, hS, hG_0, hG_3, hE_gvS, hG_4, hE_gvR, hI_1⟩ ?_
    rintro ⟨out_1, n_1⟩ f_1 h_2 ⟨F_1, e2, e3, e8, e9, e10, e19, e20, e21, hK, hS, hG_0, hG_3, hE_gvS, hG_4, hE_gvR, hI0⟩
    obtain ⟨K_1, hKe_1⟩ : ∃ K : Str → Int → Prop, K = fun out_1' n_1' => I_1 (out_1', n_1') ∧ m_1 (out_1', n_1') < m_1 (out_1, n_1) := ⟨_, rfl⟩
    have hM : addr_numbers_l1 s1 sign base wide Q K_1 out_1 n_1 := by rw [hKe_1]; exact hR_1 (out_1, n_1) hI0
    unfold addr_numbers_l1 at hM
    refine HW.fr [(2, .int .i64 base), (3, .int .i64 wide), (8, .string (bs [])), (9, .bool false), (10, .string (bs out_1)), (19, v_1), (20, .int .i64 ((splitS s1 sign).length : Int)), (21, .int .i64 n_1)] ⟨e2, e3, e8, e9, e10, e19, e20, e21, trivial⟩ ?_
    refine HW.seq ?_
    refine HW.region ?_
    refine HO.val (v := .bool (decide (n_1 < ((splitS s1 sign).length : Int)))) (want_none) rfl (q_lss rfl rfl) ?_
    refine HO.nil (thenQ_normal (?_))
    refine HW.seq ?_
    refine HW.cond (decide (n_1 < ((splitS s1 sign).length : Int))) rfl (fun c_2 => ?_) (fun c_2 => ?_)
    · replace hM := hM.1 (of_decide_eq_true c_2)
      refine HW.skip (thenQ_normal (?_))
      refine HW.seq ?_
      refine HW.block ?_
      refine HW.seq ?_
      refine HW.region ?_
      obtain ⟨ho_2, hM⟩ := hM
      refine HO.val (v := elemPtr 1 v_1 (n_1).toNat) (want_none) rfl (q_idx ts_45 (hS.own 0 rfl).slice rfl rfl ho_2) ?_
      refine HO.val (v := .string (bs (gi (splitS s1 sign) n_1))) (want_none) rfl (q_ldElem to_9 (hS.own 0 rfl).slice rfl ho_2 rfl) ?_
      refine HO.val (v := .string (bs (gi (splitS s1 sign) n_1))) (want_none) rfl (q_assign rfl) ?_
      refine HO.nil (thenQ_normal (?_))
      refine HW.seq ?_
      refine HW.region ?_
      refine HO.val (v := .string (bs (gi (splitS s1 sign) n_1))) (want_none) rfl (q_move rfl) ?_
      refine HO.val (v := .int .i64 base) (want_none) rfl (q_move rfl) ?_
      refine HO.val (v := .int .i64 wide) (want_none) rfl (q_move rfl) ?_
      obtain ⟨ho_3, hM⟩ := hM
      refine HO.val (v := .int .i64 (8 * wide)) (want_none) rfl (q_mulN _ rfl rfl rfl ho_3.1 ho_3.2) ?_
      refine HO.call (want_none) rfl (ec en_61 rfl rfl) (strconv_ParseUint_walk (fr := (Ow.own 9 1 encT v_1 (splitS s1 sign) :: fr)) (gi (splitS s1 sign) n_1) base (8 * wide) gvS gbS gvR gbR hS hG_3 hE_gvS hG_4 hE_gvR hD hM) ?_
      rintro _ h_3 ⟨F_2, r0_2, r1_2, vr1_1, rfl, hk, hS, _, _, _, _, hE_1, hM⟩
      replace hK := hK.trans hk
      replace hG_0 := hG_0.kp hk
      replace hG_3 := hG_3.kp hk
      replace hE_gvS := hE_gvS.kp hk
      replace hG_4 := hG_4.kp hk
      replace hE_gvR := hE_gvR.kp hk
      refine HO.val (v := .tuple #[.int .u64 r0_2, vr1_1]) (want_none) rfl (q_move rfl) ?_
      refine HO.val (v := .int .u64 r0_2) (want_none) rfl (q_extract rfl rfl) ?_
      refine HO.val (v := vr1_1) (want_none) rfl (q_extract rfl rfl) ?_
      refine HO.val (v := .int .u64 r0_2) (want_none) rfl (q_assign rfl) ?_
      refine HO.val (v := vr1_1) (want_none) rfl (q_assign rfl) ?_
      refine HO.nil (thenQ_normal (?_))
      refine HW.seq ?_
      refine HW.seq ?_
      refine HW.region ?_
      refine HO.val (v := vr1_1) (want_none) rfl (q_move rfl) ?_
      refine HO.val (v := .bool r1_2) (want_none) rfl ((q_ifNil (op := .neq) (b := r1_2) (by simp) Tryz.underlying75 hE_1.is rfl)) ?_
      refine HO.nil (thenQ_normal (?_))
      refine HW.cond r1_2 rfl (fun c_3 => ?_) (fun c_3 => ?_)
      · replace hM := hM.1 c_3
        refine HW.seq ?_
        refine HW.region ?_
        refine HO.val (v := .string (bs [])) (want_none) rfl (q_assign rfl) ?_
        refine HO.val (v := .bool false) (want_none) rfl (q_assign rfl) ?_
        refine HO.nil (thenQ_normal (?_))
        refine HW.ret (thenQ_ret (blockQ_ret (thenQ_ret (thenQ_ret (blockQ_ret (thenQ_ret (?_)))))))
        refine ⟨.inr rfl, .tuple #[.string (bs []), .bool false], res2 rfl (rt rfl) (rt rfl), ?_⟩
        replace hS : St F_2 (fr) h_3 := hS.perm2 [] 1 rfl rfl
        exact ⟨F_2, [], false, rfl, hK, hS, hG_0, hG_3, hE_gvS, hG_4, hE_gvR, hM⟩
      · replace hM := hM.2 c_3
        refine HW.skip (thenQ_normal (?_))
        refine HW.region ?_
        refine HO.val (v := .string (bs out_1)) (want_none) rfl (q_move rfl) ?_
        refine HO.val (v := .int .u64 r0_2) (want_none) rfl (q_move rfl) ?_
        refine HO.val (v := .int .i64 wide) (want_none) rfl (q_move rfl) ?_
        refine HO.call (want_none) rfl (ec en_62 rfl rfl) (octet_Put_walk (fr := (Ow.own 9 1 encT v_1 (splitS s1 sign) :: fr)) r0_2 wide hS hM) ?_
        rintro _ h_4 ⟨F_3, r_1, rfl, hk, hS, hM⟩
        replace hK := hK.trans hk
        replace hG_0 := hG_0.kp hk
        replace hG_3 := hG_3.kp hk
        replace hE_gvS := hE_gvS.kp hk
        replace hG_4 := hG_4.kp hk
        replace hE_gvR := hE_gvR.kp hk
        obtain ⟨ho_4, hM⟩ := hM
        refine HO.val (v := .string (bs (out_1 ++ r_1))) (want_none) rfl (q_addT rfl rfl ho_4) ?_
        refine HO.val (v := .string (bs (out_1 ++ r_1))) (want_none) rfl (q_assign rfl) ?_
        refine HO.nil (blockQ_normal (thenQ_normal (?_)))
        refine HW.region ?_
        obtain ⟨ho_5, hM⟩ := hM
        refine HO.val (v := .int .i64 (n_1 + 1)) (want_none) rfl (q_addN _ rfl rfl rfl ho_5.1 ho_5.2) ?_
        refine HO.val (v := .int .i64 (n_1 + 1)) (want_none) rfl (q_move rfl) ?_
        refine HO.nil (thenQ_normal (?_))
        rw [hKe_1] at hM
        exact ⟨(out_1 ++ r_1, n_1 + 1), ⟨F_3, rfl, rfl, rfl, rfl, rfl, rfl, rfl, rfl, hK, hS, hG_0, hG_3, hE_gvS, hG_4, hE_gvR, hM.1⟩, hM.2⟩
    · replace hM := hM.2 (of_decide_eq_false c_2)
      refine HW.exit (thenQ_exit (thenQ_exit (blockQ_exit (thenQ_normal (?_)))))
      refine HW.seq ?_
      refine HW.region ?_
      refine HO.val (v := .string (bs out_1)) (want_none) rfl (q_move rfl) ?_
      refine HO.val (v := .string (bs out_1)) (want_none) rfl (q_assign rfl) ?_
      refine HO.val (v := .bool true) (want_none) rfl (q_assign rfl) ?_
      refine HO.nil (thenQ_normal (?_))
      refine HW.ret (?_)
      refine ⟨.inr rfl, .tuple #[.string (bs out_1), .bool true], res2 rfl (rt rfl) (rt rfl), ?_⟩
      replace hS : St F_1 (fr) h_2 := hS.perm2 [] 1 rfl rfl
      exact ⟨F_1, out_1, true, rfl, hK, hS, hG_0, hG_3, hE_gvS, hG_4, hE_gvR, hM⟩

def addr_parse6_j1 (Q : Str → Bool → Prop) (r1_2 : Bool) (r0_3 : Str) (r1_3 : Bool) (a_1 : Str) : Prop :=
  ((a_1.length : Int) + (r0_3.length : Int) ≤ 9223372036854775807) ∧ ((r1_2 = true → Q (a_1 ++ r0_3) r1_3) ∧ (r1_2 = false → Q (a_1 ++ r0_3) false))
def addr_parse6_j2 (Q : Str → Bool → Prop) (r0_2 : Str) (r1_2 : Bool) (r0_3 : Str) (r1_3 : Bool) (b_1 : Bool) : Prop :=
  (b_1 = true → (0 ≤ ((16 - (r0_2.length : Int)) - (r0_3.length : Int)) ∧ ((16 - (r0_2.length : Int)) - (r0_3.length : Int)) ≤ 1000000 ∧ ((([0] : Str)).length : Int) ≤ 1000000) ∧ (((r0_2.length : Int) + ((repS ([0] : Str) ((16 - (r0_2.length : Int)) - (r0_3.length : Int))).length : Int) ≤ 9223372036854775807) ∧ (addr_parse6_j1 Q r1_2 r0_3 r1_3 (r0_2 ++ (repS ([0] : Str) ((16 - (r0_2.length : Int)) - (r0_3.length : Int))))))) ∧ (b_1 = false → addr_parse6_j1 Q r1_2 r0_3 r1_3 r0_2)
def addr_parse6_W (s1 : Str) (Q : Str → Bool → Prop) : Prop :=
  ((s1.length : Int) < 4294967281) ∧ (addr_numbers_W ((cutS s1 ([58, 58] : Str)).1) [58] 16 2 (fun r0_2 r1_2 => addr_numbers_W ((cutS s1 ([58, 58] : Str)).2.1) [58] 16 2 (fun r0_3 r1_3 => (I64 (16 - (r0_2.length : Int))) ∧ ((I64 ((16 - (r0_2.length : Int)) - (r0_3.length : Int))) ∧ ((((cutS s1 ([58, 58] : Str)).2.2) = true → addr_parse6_j2 Q r0_2 r1_2 r0_3 r1_3 (decide (0 < ((16 - (r0_2.length : Int)) - (r0_3.length : Int))))) ∧ (((cutS s1 ([58, 58] : Str)).2.2) = false → addr_parse6_j2 Q r0_2 r1_2 r0_3 r1_3 false))))))
set_option maxHeartbeats 40000000 in
set_option maxRecDepth 100000 in
theorem addr_parse6_walk {F : Fz} {fr : List Ow} {h0 : Heap} (s1 : Str) (gm : Int) (gvS : Value) (gbS : Bool) (gvR : Value) (gbR : Bool) (hS : St F (fr) h0) (hG_0 : RoF (Ow.box 0 3 #[.int .i64 gm]) F h0) (hG_3 : RoF (Ow.box 3 75 #[gvS]) F h0) (hE_gvS : ErrF gbS gvS F h0) (hG_4 : RoF (Ow.box 4 75 #[gvR]) F h0) (hE_gvR : ErrF gbR gvR F h0) (hD : DM.on = false) {Q : Str → Bool → Prop} (hM : addr_parse6_W s1 Q) :
    HC Tryz.prog 39 #[.string (bs s1)] h0 fun u h' => ∃ (F' : Fz) (r0_1 : Str) (r1_1 : Bool), u = .tuple #[.string (bs r0_1), .bool r1_1] ∧ Kp F h0 F' h' ∧ St F' (fr) h' ∧ (RoF (Ow.box 0 3 #[.int .i64 gm]) F' h') ∧ (RoF (Ow.box 3 75 #[gvS]) F' h') ∧ (ErrF gbS gvS F' h') ∧ (RoF (Ow.box 4 75 #[gvR]) F' h') ∧ (ErrF gbR gvR F' h') ∧ Q r0_1 r1_1 := by
  unfold addr_parse6_W at hM
  have hK := Kp.refl F h0
  refine HC.of_HW (n := 50) Tryz.func39 rfl rfl (Nat.le_of_ble_eq_true rfl) ?_
  refine HW.seq ?_
  refine HW.region ?_
  refine HO.val (v := .string (bs [])) (want_none) rfl (q_assign rfl) ?_
  refine HO.val (v := .bool false) (want_none) rfl (q_assign rfl) ?_
  refine HO.nil (thenQ_normal (?_))
  refine HW.seq ?_
  refine HW.region ?_
  refine HO.val (v := .string (bs s1)) (want_none) rfl (q_move rfl) ?_
  obtain ⟨ho_1, hM⟩ := hM
  refine HO.call (want_none) rfl (ec en_29 rfl rfl) (strCut_hc Tryz.cut hG_0 s1 ([58, 58] : Str) ho_1) ?_
  rintro _ h_1 ⟨rfl, hEq⟩
  rw [hEq]
  refine HO.val (v := .tuple #[.string (bs ((cutS s1 ([58, 58] : Str)).1)), .string (bs ((cutS s1 ([58, 58] : Str)).2.1)), .bool ((cutS s1 ([58, 58] : Str)).2.2)]) (want_none) rfl (q_move rfl) ?_
  refine HO.val (v := .string (bs ((cutS s1 ([58, 58] : Str)).1))) (want_none) rfl (q_extract rfl rfl) ?_
  refine HO.val (v := .string (bs ((cutS s1 ([58, 58] : Str)).2.1))) (want_none) rfl (q_extract rfl rfl) ?_
  refine HO.val (v := .bool ((cutS s1 ([58, 58] : Str)).2.2)) (want_none) rfl (q_extract rfl rfl) ?_
  refine HO.val (v := .string (bs ((cutS s1 ([58, 58] : Str)).1))) (want_none) rfl (q_assign rfl) ?_
  refine HO.val (v := .string (bs ((cutS s1 ([58, 58] : Str)).2.1))) (want_none) rfl (q_assign rfl) ?_
  refine HO.val (v := .bool ((cutS s1 ([58, 58] : Str)).2.2)) (want_none) rfl (q_assign rfl) ?_
  refine HO.nil (thenQ_normal (?_))
  refine HW.seq ?_
  refine HW.region ?_
  refine HO.val (v := .string (bs ((cutS s1 ([58, 58] : Str)).1))) (want_none) rfl (q_move rfl) ?_
  refine HO.call (want_none) rfl (ec en_37 rfl rfl) (addr_numbers_walk (fr := (fr)) ((cutS s1 ([58, 58] : Str)).1) [58] 16 2 gm gvS gbS gvR gbR hS hG_0 hG_3 hE_gvS hG_4 hE_gvR hD hM) ?_
  rintro _ h_2 ⟨F_1, r0_2, r1_2, rfl, hk, hS, _, _, _, _, _, hM⟩
  replace hK := hK.trans hk
  replace hG_0 := hG_0.kp hk
  replace hG_3 := hG_3.kp hk
  replace hE_gvS := hE_gvS.kp hk
  replace hG_4 := hG_4.kp hk
  replace hE_gvR := hE_gvR.kp hk
  refine HO.val (v := .tuple #[.string (bs r0_2), .bool r1_2]) (want_none) rfl (q_move rfl) ?_
  refine HO.val (v := .string (bs r0_2)) (want_none) rfl (q_extract rfl rfl) ?_
  refine HO.val (v := .bool r1_2) (want_none) rfl (q_extract rfl rfl) ?_
  refine HO.val (v := .string (bs r0_2)) (want_none) rfl (q_assign rfl) ?_
  refine HO.val (v := .bool r1_2) (want_none) rfl (q_assign rfl) ?_
  refine HO.nil (thenQ_normal (?_))
  refine HW.seq ?_
  refine HW.region ?_
  refine HO.val (v := .string (bs ((cutS s1 ([58, 58] : Str)).2.1))) (want_none) rfl (q_move rfl) ?_
  refine HO.call (want_none) rfl (ec en_37 rfl rfl) (addr_numbers_walk (fr := (fr)) ((cutS s1 ([58, 58] : Str)).2.1) [58] 16 2 gm gvS gbS gvR gbR hS hG_0 hG_3 hE_gvS hG_4 hE_gvR hD hM) ?_
  rintro _ h_3 ⟨F_2, r0_3, r1_3, rfl, hk, hS, _, _, _, _, _, hM⟩
  replace hK := hK.trans hk
  replace hG_0 := hG_0.kp hk
  replace hG_3 := hG_3.kp hk
  replace hE_gvS := hE_gvS.kp hk
  replace hG_4 := hG_4.kp hk
  replace hE_gvR := hE_gvR.kp hk
  refine HO.val (v := .tuple #[.string (bs r0_3), .bool r1_3]) (want_none) rfl (q_move rfl) ?_
  refine HO.val (v := .string (bs r0_3)) (want_none) rfl (q_extract rfl rfl) ?_
  refine HO.val (v := .bool r1_3) (want_none) rfl (q_extract rfl rfl) ?_
  refine HO.val (v := .string (bs r0_3)) (want_none) rfl (q_assign rfl) ?_
  refine HO.val (v := .bool r1_3) (want_none) rfl (q_assign rfl) ?_
  refine HO.nil (thenQ_normal (?_))
  refine HW.seq_mid (fun f h => ∃ (F' : Fz) (a_1 : Str), f 2 = .string (bs []) ∧ f 3 = .bool false ∧ f 7 = .string (bs a_1) ∧ f 8 = .bool r1_2 ∧ f 9 = .string (bs r0_3) ∧ f 10 = .bool r1_3 ∧ Kp F h0 F' h ∧ St F' (fr) h ∧ (RoF (Ow.box 0 3 #[.int .i64 gm]) F' h) ∧ (RoF (Ow.box 3 75 #[gvS]) F' h) ∧ (ErrF gbS gvS F' h) ∧ (RoF (Ow.box 4 75 #[gvR]) F' h) ∧ (ErrF gbR gvR F' h) ∧ addr_parse6_j1 Q r1_2 r0_3 r1_3 a_1) ?_ ?_
  · refine HW.seq ?_
    refine HW.region ?_
    refine HO.val (v := .string (bs r0_2)) (want_none) rfl (q_move rfl) ?_
    refine HO.val (v := .int .i64 (r0_2.length : Int)) (want_none) rfl (q_lenT Tryz.underlying9 rfl rfl) ?_
    obtain ⟨ho_2, hM⟩ := hM
    refine HO.val (v := .int .i64 (16 - (r0_2.length : Int))) (want_none) rfl (q_subN _ rfl rfl rfl ho_2.1 ho_2.2) ?_
    refine HO.val (v := .string (bs r0_3)) (want_none) rfl (q_move rfl) ?_
    refine HO.val (v := .int .i64 (r0_3.length : Int)) (want_none) rfl (q_lenT Tryz.underlying9 rfl rfl) ?_
    obtain ⟨ho_3, hM⟩ := hM
    refine HO.val (v := .int .i64 ((16 - (r0_2.length : Int)) - (r0_3.length : Int))) (want_none) rfl (q_subN _ rfl rfl rfl ho_3.1 ho_3.2) ?_
    refine HO.val (v := .int .i64 ((16 - (r0_2.length : Int)) - (r0_3.length : Int))) (want_none) rfl (q_assign rfl) ?_
    refine HO.nil (thenQ_normal (?_))
    refine HW.seq_mid (fun f h => ∃ (F' : Fz) (b_1 : Bool), f 2 = .string (bs []) ∧ f 3 = .bool false ∧ f 7 = .string (bs r0_2) ∧ f 8 = .bool r1_2 ∧ f 9 = .string (bs r0_3) ∧ f 10 = .bool r1_3 ∧ f 11 = .int .i64 ((16 - (r0_2.length : Int)) - (r0_3.length : Int)) ∧ f 38 = .bool b_1 ∧ Kp F h0 F' h ∧ St F' (fr) h ∧ (RoF (Ow.box 0 3 #[.int .i64 gm]) F' h) ∧ (RoF (Ow.box 3 75 #[gvS]) F' h) ∧ (ErrF gbS gvS F' h) ∧ (RoF (Ow.box 4 75 #[gvR]) F' h) ∧ (ErrF gbR gvR F' h) ∧ addr_parse6_j2 Q r0_2 r1_2 r0_3 r1_3 b_1) ?_ ?_
    · refine HW.region ?_
      refine HO.val (v := .bool ((cutS s1 ([58, 58] : Str)).2.2)) (want_none) rfl (q_move rfl) ?_
      refine HO.val (v := .bool ((cutS s1 ([58, 58] : Str)).2.2)) (want_none) rfl (q_move rfl) ?_
      rcases Bool.eq_false_or_eq_true ((cutS s1 ([58, 58] : Str)).2.2) with c_1 | c_1
      · replace hM := hM.1 c_1
        refine HO.val (v := .int .i64 ((16 - (r0_2.length : Int)) - (r0_3.length : Int))) (want_by rfl rfl c_1) rfl (q_move rfl) ?_
        refine HO.val (v := .bool (decide (0 < ((16 - (r0_2.length : Int)) - (r0_3.length : Int))))) (want_by rfl rfl c_1) rfl (q_gtr rfl rfl) ?_
        refine HO.val (v := .bool (decide (0 < ((16 - (r0_2.length : Int)) - (r0_3.length : Int))))) (want_none) rfl (q_pickK true rfl c_1 rfl) ?_
        refine HO.nil (thenQ_normal (?_))
        exact ⟨F_2, decide (0 < ((16 - (r0_2.length : Int)) - (r0_3.length : Int))), rfl, rfl, rfl, rfl, rfl, rfl, rfl, rfl, hK, hS, hG_0, hG_3, hE_gvS, hG_4, hE_gvR, hM⟩
      · replace hM := hM.2 c_1
        refine HO.past (past_by rfl rfl c_1) rfl ?_
        refine HO.past (past_by rfl rfl c_1) rfl ?_
        refine HO.val (v := .bool false) (want_none) rfl (q_pickK false rfl c_1 rfl) ?_
        refine HO.nil (thenQ_normal (?_))
        exact ⟨F_2, false, rfl, rfl, rfl, rfl, rfl, rfl, rfl, rfl, hK, hS, hG_0, hG_3, hE_gvS, hG_4, hE_gvR, hM⟩
    · rintro f_1 h_4 ⟨F_3, b_1, e2, e3, e7, e8, e9, e10, e11, e38, hK, hS, hG_0, hG_3, hE_gvS, hG_4, hE_gvR, hM⟩
      unfold addr_parse6_j2 at hM
      refine HW.fr [(2, .string (bs [])), (3, .bool false), (7, .string (bs r0_2)), (8, .bool r1_2), (9, .string (bs r0_3)), (10, .bool r1_3), (11, .int .i64 ((16 - (r0_2.length : Int)) - (r0_3.length : Int))), (38, .bool b_1)] ⟨e2, e3, e7, e8, e9, e10, e11, e38, trivial⟩ ?_
      refine HW.cond b_1 rfl (fun c_2 => ?_) (fun c_2 => ?_)
      · replace hM := hM.1 c_2
        refine HW.region ?_
        refine HO.val (v := .string (bs r0_2)) (want_none) rfl (q_move rfl) ?_
        refine HO.val (v := .int .i64 ((16 - (r0_2.length : Int)) - (r0_3.length : Int))) (want_none) rfl (q_move rfl) ?_
        obtain ⟨ho_4, hM⟩ := hM
        refine HO.call (want_none) rfl (ec en_63 rfl rfl) (strRepeat_hc hD Tryz.rep Tryz.repX  hS ([0] : Str) ((16 - (r0_2.length : Int)) - (r0_3.length : Int)) ho_4) ?_
        rintro _ h_5 ⟨rfl, hS, hk⟩
        replace hK := hK.trans hk
        replace hG_0 := hG_0.kp hk
        replace hG_3 := hG_3.kp hk
        replace hE_gvS := hE_gvS.kp hk
        replace hG_4 := hG_4.kp hk
        replace hE_gvR := hE_gvR.kp hk
        obtain ⟨ho_5, hM⟩ := hM
        refine HO.val (v := .string (bs (r0_2 ++ (repS ([0] : Str) ((16 - (r0_2.length : Int)) - (r0_3.length : Int)))))) (want_none) rfl (q_addT rfl rfl ho_5) ?_
        refine HO.val (v := .string (bs (r0_2 ++ (repS ([0] : Str) ((16 - (r0_2.length : Int)) - (r0_3.length : Int)))))) (want_none) rfl (q_assign rfl) ?_
        refine HO.nil (thenQ_normal (?_))
        exact ⟨F_3, r0_2 ++ (repS ([0] : Str) ((16 - (r0_2.length : Int)) - (r0_3.length : Int))), rfl, rfl, rfl, rfl, rfl, rfl, hK, hS, hG_0, hG_3, hE_gvS, hG_4, hE_gvR, hM⟩
      · replace hM := hM.2 c_2
        refine HW.skip (thenQ_normal (?_))
        exact ⟨F_3, r0_2, rfl, rfl, rfl, rfl, rfl, rfl, hK, hS, hG_0, hG_3, hE_gvS, hG_4, hE_gvR, hM⟩
  · rintro f_2 h_6 ⟨F_4, a_1, e2, e3, e7, e8, e9, e10, hK, hS, hG_0, hG_3, hE_gvS, hG_4, hE_gvR, hM⟩
    unfold addr_parse6_j1 at hM
    refine HW.fr [(2, .string (bs [])), (3, .bool false), (7, .string (bs a_1)), (8, .bool r1_2), (9, .string (bs r0_3)), (10, .bool r1_3)] ⟨e2, e3, e7, e8, e9, e10, trivial⟩ ?_
    refine HW.seq ?_
    refine HW.region ?_
    refine HO.val (v := .string (bs a_1)) (want_none) rfl (q_move rfl) ?_
    refine HO.val (v := .string (bs r0_3)) (want_none) rfl (q_move rfl) ?_
    obtain ⟨ho_6, hM⟩ := hM
    refine HO.val (v := .string (bs (a_1 ++ r0_3))) (want_none) rfl (q_addT rfl rfl ho_6) ?_
    refine HO.val (v := .bool r1_2) (want_none) rfl (q_move rfl) ?_
    refine HO.val (v := .bool r1_2) (want_none) rfl (q_move rfl) ?_
    rcases Bool.eq_false_or_eq_true r1_2 with c_3 | c_3
    · replace hM := hM.1 c_3
      refine HO.val (v := .bool r1_3) (want_by rfl rfl c_3) rfl (q_move rfl) ?_
      refine HO.val (v := .bool r1_3) (want_none) rfl (q_pickK true rfl c_3 rfl) ?_
      refine HO.val (v := .string (bs (a_1 ++ r0_3))) (want_none) rfl (q_assign rfl) ?_
      refine HO.val (v := .bool r1_3) (want_none) rfl (q_assign rfl) ?_
      refine HO.nil (thenQ_normal (?_))
      refine HW.ret (?_)
      refine ⟨.inr rfl, .tuple #[.string (bs (a_1 ++ r0_3)), .bool r1_3], res2 rfl (rt rfl) (rt rfl), ?_⟩
      exact ⟨F_4, a_1 ++ r0_3, r1_3, rfl, hK, hS, hG_0, hG_3, hE_gvS, hG_4, hE_gvR, hM⟩
    · replace hM := hM.2 c_3
      refine HO.past (past_by rfl rfl c_3) rfl ?_
      refine HO.val (v := .bool false) (want_none) rfl (q_pickK false rfl c_3 rfl) ?_
      refine HO.val (v := .string (bs (a_1 ++ r0_3))) (want_none) rfl (q_assign rfl) ?_
      refine HO.val (v := .bool false) (want_none) rfl (q_assign rfl) ?_
      refine HO.nil (thenQ_normal (?_))
      refine HW.ret (?_)
      refine ⟨.inr rfl, .tuple #[.string (bs (a_1 ++ r0_3)), .bool false], res2 rfl (rt rfl) (rt rfl), ?_⟩
      exact ⟨F_4, a_1 ++ r0_3, false, rfl, hK, hS, hG_0, hG_3, hE_gvS, hG_4, hE_gvR, hM⟩

def addr_Read_j1 (s1 : Str) (Q : T_api_Addr → Int → Prop) : Prop :=
  Q (decide ((s1.length : Int) = 16), (cpyB (default : Ba 16) s1)) 0
def addr_Read_W (s1 : Str) (Q : T_api_Addr → Int → Prop) : Prop :=
  (¬ ((s1.length : Int) = 4) → (¬ ((s1.length : Int) = 16) → Q (false, (default : Ba 16)) 2) ∧ ((s1.length : Int) = 16 → addr_Read_j1 s1 Q)) ∧ ((s1.length : Int) = 4 → addr_Read_j1 s1 Q)
set_option maxHeartbeats 40000000 in
set_option maxRecDepth 100000 in
theorem addr_Read_walk {F : Fz} {fr : List Ow} {h0 : Heap} (s1 : Str) (hS : St F (fr) h0)  {Q : T_api_Addr → Int → Prop} (hM : addr_Read_W s1 Q) :
    HC Tryz.prog 40 #[.string (bs s1)] h0 fun u h' => ∃ (F' : Fz) (r0_1 : T_api_Addr) (r1_1 : Int), u = .tuple #[.agg (e_api_Addr r0_1).toArray, .int .i64 r1_1] ∧ Kp F h0 F' h' ∧ St F' (fr) h' ∧ Q r0_1 r1_1 := by
  unfold addr_Read_W at hM
  have hK := Kp.refl F h0
  refine HC.of_HW (n := 23) Tryz.func40 rfl rfl (Nat.le_of_ble_eq_true rfl) ?_
  refine HW.seq ?_
  refine HW.region ?_
  refine HO.eff (want_none) rfl (st_alloc (c := (e_api_Addr (false, (default : Ba 16))).toArray) hS tz_44 rfl) ?_
  rintro _ h_1 ⟨b_1, rfl, hS, hk⟩
  replace hK := hK.trans hk
  refine HO.val (v := .int .i64 0) (want_none) rfl (q_assign rfl) ?_
  refine HO.nil (thenQ_normal (?_))
  refine HW.seq ?_
  refine HW.region ?_
  refine HO.eff (want_none) rfl (st_alloc (c := (e_api_Addr (false, (default : Ba 16))).toArray) hS tz_44 rfl) ?_
  rintro _ h_2 ⟨b_2, rfl, hS, hk⟩
  replace hK := hK.trans hk
  refine HO.nil (thenQ_normal (?_))
  refine HW.seq_mid (fun f h => ∃ (F' : Fz), f 0 = .string (bs s1) ∧ f 2 = .pointer (some ⟨b_1, 0, none⟩) ∧ f 3 = .int .i64 0 ∧ f 4 = .pointer (some ⟨b_2, 0, none⟩) ∧ Kp F h0 F' h ∧ St F' (Ow.box b_1 44 (e_api_Addr (false, (default : Ba 16))).toArray :: Ow.box b_2 44 (e_api_Addr (false, (default : Ba 16))).toArray :: fr) h ∧ addr_Read_j1 s1 Q) ?_ ?_
  · refine HW.seq ?_
    refine HW.region ?_
    refine HO.val (v := .string (bs s1)) (want_none) rfl (q_move rfl) ?_
    refine HO.val (v := .int .i64 (s1.length : Int)) (want_none) rfl (q_lenT Tryz.underlying9 rfl rfl) ?_
    refine HO.val (v := .bool (!decide ((s1.length : Int) = 4))) (want_none) rfl (q_neq rfl rfl) ?_
    refine HO.val (v := .bool (!decide ((s1.length : Int) = 4))) (want_none) rfl (q_move rfl) ?_
    rcases Bool.eq_false_or_eq_true (!decide ((s1.length : Int) = 4)) with c_1 | c_1
    · replace hM := hM.1 (nd_true c_1)
      refine HO.val (v := .string (bs s1)) (want_by rfl rfl c_1) rfl (q_move rfl) ?_
      refine HO.val (v := .int .i64 (s1.length : Int)) (want_by rfl rfl c_1) rfl (q_lenT Tryz.underlying9 rfl rfl) ?_
      refine HO.val (v := .bool (!decide ((s1.length : Int) = 16))) (want_by rfl rfl c_1) rfl (q_neq rfl rfl) ?_
      refine HO.val (v := .bool (!decide ((s1.length : Int) = 16))) (want_none) rfl (q_pickK true rfl c_1 rfl) ?_
      refine HO.nil (thenQ_normal (?_))
      refine HW.cond (!decide ((s1.length : Int) = 16)) rfl (fun c_2 => ?_) (fun c_2 => ?_)
      · replace hM := hM.1 (nd_true c_2)
        refine HW.seq ?_
        refine HW.region ?_
        refine HO.val (v := .agg (e_api_Addr (false, (default : Ba 16))).toArray) (want_none) rfl (q_loadAgg (cs := (e_api_Addr (false, (default : Ba 16)))) ta_44 rfl rfl (Blk.cells (k := 17) (hS.box 0 rfl) rfl)) ?_
        refine HO.sto (want_none) rfl (st_storeAgg (c' := (e_api_Addr (false, (default : Ba 16))).toArray) hS (i := 1) rfl ta_44 rfl rfl rfl (one_e_api_Addr _) (Nat.le_of_ble_eq_true rfl) rfl) ?_
        rintro h_3 ⟨hS, hk⟩
        replace hS : St F (Ow.box b_2 44 (e_api_Addr (false, (default : Ba 16))).toArray :: Ow.box b_1 44 (e_api_Addr (false, (default : Ba 16))).toArray :: fr) h_3 := hS
        replace hK := hK.trans hk
        refine HO.val (v := .int .i64 2) (want_none) rfl (q_assign rfl) ?_
        refine HO.nil (thenQ_normal (?_))
        refine HW.ret (thenQ_ret (?_))
        refine ⟨.inr rfl, .tuple #[.agg (e_api_Addr (false, (default : Ba 16))).toArray, .int .i64 2], res2 rfl (rca (cs := (e_api_Addr (false, (default : Ba 16)))) ta_44 rfl rfl (Blk.cells (k := 17) (hS.box 1 rfl) rfl)) (rt rfl), ?_⟩
        replace hS : St F (fr) h_3 := hS.perm2 [] 2 rfl rfl
        exact ⟨F, (false, (default : Ba 16)), 2, rfl, hK, hS, hM⟩
      · replace hM := hM.2 (nd_false c_2)
        refine HW.skip (thenQ_normal (?_))
        replace hS : St F (Ow.box b_1 44 (e_api_Addr (false, (default : Ba 16))).toArray :: Ow.box b_2 44 (e_api_Addr (false, (default : Ba 16))).toArray :: fr) h_2 := hS.perm2 [1, 0] 2 rfl rfl
        exact ⟨F, rfl, rfl, rfl, rfl, hK, hS, hM⟩
    · replace hM := hM.2 (nd_false c_1)
      refine HO.past (past_by rfl rfl c_1) rfl ?_
      refine HO.past (past_by rfl rfl c_1) rfl ?_
      refine HO.past (past_by rfl rfl c_1) rfl ?_
      refine HO.val (v := .bool false) (want_none) rfl (q_pickK false rfl c_1 rfl) ?_
      refine HO.nil (thenQ_normal (?_))
      refine HW.condF rfl ?_
      refine HW.skip (thenQ_normal (?_))
      replace hS : St F (Ow.box b_1 44 (e_api_Addr (false, (default : Ba 16))).toArray :: Ow.box b_2 44 (e_api_Addr (false, (default : Ba 16))).toArray :: fr) h_2 := hS.perm2 [1, 0] 2 rfl rfl
      exact ⟨F, rfl, rfl, rfl, rfl, hK, hS, hM⟩
  · rintro f_1 h_4 ⟨F_1, e0, e2, e3, e4, hK, hS, hM⟩
    unfold addr_Read_j1 at hM
    refine HW.fr [(0, .string (bs s1)), (2, .pointer (some ⟨b_1, 0, none⟩)), (3, .int .i64 0), (4, .pointer (some ⟨b_2, 0, none⟩))] ⟨e0, e2, e3, e4, trivial⟩ ?_
    refine HW.seq ?_
    refine HW.region ?_
    refine HO.val (v := .string (bs s1)) (want_none) rfl (q_move rfl) ?_
    refine HO.val (v := .int .i64 (s1.length : Int)) (want_none) rfl (q_lenT Tryz.underlying9 rfl rfl) ?_
    refine HO.val (v := .bool (decide ((s1.length : Int) = 16))) (want_none) rfl (q_eql rfl rfl) ?_
    refine HO.val (v := .pointer (some ⟨b_2, 0, none⟩)) (want_none) rfl (q_fieldAddr fa_44_0 rfl rfl) ?_
    refine HO.sto (want_none) rfl (st_store (c' := (e_api_Addr (decide ((s1.length : Int) = 16), (default : Ba 16))).toArray) hS (i := 1) rfl to_4 rfl rfl rfl rfl (Nat.le_of_ble_eq_true rfl) rfl) ?_
    rintro h_5 ⟨hS, hk⟩
    replace hS : St F_1 (Ow.box b_1 44 (e_api_Addr (false, (default : Ba 16))).toArray :: Ow.box b_2 44 (e_api_Addr (decide ((s1.length : Int) = 16), (default : Ba 16))).toArray :: fr) h_5 := hS
    replace hK := hK.trans hk
    refine HO.nil (thenQ_normal (?_))
    refine HW.seq ?_
    refine HW.region ?_
    refine HO.val (v := .pointer (some ⟨b_2, 1, none⟩)) (want_none) rfl (q_fieldAddr fa_44_1 rfl rfl) ?_
    refine HO.val (v := arrV b_2 1 16 0 16) (want_none) rfl (q_sliceA (o := 1) (lo := 0) (hi := 16) (kl := .i64) (kh := .i64) tr_42 rfl (.inl ⟨rfl, rfl⟩) (.inl ⟨rfl, rfl⟩) ⟨by decide, by decide, by decide⟩) ?_
    refine HO.val (v := .string (bs s1)) (want_none) rfl (q_move rfl) ?_
    refine HO.eff (want_none) rfl (st_copyA (n := 16) (o := 1) (X := (default : Ba 16)) (s := s1) (c' := (e_api_Addr (decide ((s1.length : Int) = 16), (cpyB (default : Ba 16) s1))).toArray) hS (i := 1) rfl ts_79 rfl rfl rfl rfl rfl (by decide)) ?_
    rintro _ h_6 ⟨rfl, hS, hk⟩
    replace hS : St F_1 (Ow.box b_1 44 (e_api_Addr (false, (default : Ba 16))).toArray :: Ow.box b_2 44 (e_api_Addr (decide ((s1.length : Int) = 16), (cpyB (default : Ba 16) s1))).toArray :: fr) h_6 := hS
    replace hK := hK.trans hk
    refine HO.nil (thenQ_normal (?_))
    refine HW.seq ?_
    refine HW.region ?_
    refine HO.val (v := .agg (e_api_Addr (decide ((s1.length : Int) = 16), (cpyB (default : Ba 16) s1))).toArray) (want_none) rfl (q_loadAgg (cs := (e_api_Addr (decide ((s1.length : Int) = 16), (cpyB (default : Ba 16) s1)))) ta_44 rfl rfl (Blk.cells (k := 17) (hS.box 1 rfl) rfl)) ?_
    refine HO.sto (want_none) rfl (st_storeAgg (c' := (e_api_Addr (decide ((s1.length : Int) = 16), (cpyB (default : Ba 16) s1))).toArray) hS (i := 0) rfl ta_44 rfl rfl rfl (one_e_api_Addr _) (Nat.le_of_ble_eq_true rfl) rfl) ?_
    rintro h_7 ⟨hS, hk⟩
    replace hS : St F_1 (Ow.box b_1 44 (e_api_Addr (decide ((s1.length : Int) = 16), (cpyB (default : Ba 16) s1))).toArray :: Ow.box b_2 44 (e_api_Addr (decide ((s1.length : Int) = 16), (cpyB (default : Ba 16) s1))).toArray :: fr) h_7 := hS
    replace hK := hK.trans hk
    refine HO.val (v := .int .i64 0) (want_none) rfl (q_assign rfl) ?_
    refine HO.nil (thenQ_normal (?_))
    refine HW.ret (?_)
    refine ⟨.inr rfl, .tuple #[.agg (e_api_Addr (decide ((s1.length : Int) = 16), (cpyB (default : Ba 16) s1))).toArray, .int .i64 0], res2 rfl (rca (cs := (e_api_Addr (decide ((s1.length : Int) = 16), (cpyB (default : Ba 16) s1)))) ta_44 rfl rfl (Blk.cells (k := 17) (hS.box 0 rfl) rfl)) (rt rfl), ?_⟩
    replace hS : St F_1 (fr) h_7 := hS.perm2 [] 2 rfl rfl
    exact ⟨F_1, (decide ((s1.length : Int) = 16), (cpyB (default : Ba 16) s1)), 0, rfl, hK, hS, hM⟩

def addr_word_W (a : T_api_Addr) (i : Int) (Q : Int → Prop) : Prop :=
  (I64 (2 * i)) ∧ (((0 : Int) ≤ 2 * i ∧ 2 * i < 16) ∧ ((I64 ((2 * i) + 1)) ∧ (((0 : Int) ≤ (2 * i) + 1 ∧ (2 * i) + 1 < 16) ∧ (Q (bits .or .u64 (IntKind.u64.wrap ((IntKind.u64.wrap (b8 a.2 (2 * i))) * 2 ^ (min (8 : Int).toNat IntKind.u64.bits))) (IntKind.u64.wrap (b8 a.2 ((2 * i) + 1))))))))
set_option maxHeartbeats 40000000 in
set_option maxRecDepth 100000 in
theorem addr_word_walk {F : Fz} {fr : List Ow} {h0 : Heap} (a : T_api_Addr) (i : Int) (hS : St F (fr) h0)  {Q : Int → Prop} (hM : addr_word_W a i Q) :
    HC Tryz.prog 89 #[.agg (e_api_Addr a).toArray, .int .i64 i] h0 fun u h' => ∃ (F' : Fz) (r_1 : Int), u = .int .u64 r_1 ∧ Kp F h0 F' h' ∧ St F' (fr) h' ∧ Q r_1 := by
  unfold addr_word_W at hM
  have hK := Kp.refl F h0
  refine HC.of_HW (n := 20) Tryz.func89 rfl rfl (Nat.le_of_ble_eq_true rfl) ?_
  refine HW.seq ?_
  refine HW.region ?_
  refine HO.eff (want_none) rfl (st_box (c := (e_api_Addr a).toArray) (k' := 17) hS rfl rfl) ?_
  rintro _ h_1 ⟨b_1, rfl, hS, hk⟩
  replace hK := hK.trans hk
  refine HO.val (v := .int .u64 0) (want_none) rfl (q_assign rfl) ?_
  refine HO.nil (thenQ_normal (?_))
  refine HW.seq ?_
  refine HW.regionA 16 mixed (fun h => (Blk h b_1 (.cells (e_api_Addr a).toArray 44 (0, 0)))) [] (by kernel_rfl) ?_
  refine HA.val (k := 0) (v := .int .i64 i) rfl rfl (by kernel_rfl) (by kernel_rfl) (want_none) rfl (fun _ c201 => q_move rfl) ?_
  obtain ⟨ho_1, hM⟩ := hM
  refine HA.val (k := 1) (v := .int .i64 (2 * i)) rfl rfl (by kernel_rfl) (by kernel_rfl) (want_none) rfl (fun _ c201 => q_mulN _ rfl rfl rfl ho_1.1 ho_1.2) ?_
  refine HA.val (k := 2) (v := .pointer (some ⟨b_1, 1, none⟩)) rfl rfl (by kernel_rfl) (by kernel_rfl) (want_none) rfl (fun _ c201 => q_fieldAddr fa_44_1 rfl rfl) ?_
  obtain ⟨ho_2, hM⟩ := hM
  refine HA.val (k := 3) (v := .pointer (some ⟨b_1, 1 + (2 * i).toNat, none⟩)) rfl rfl (by kernel_rfl) (by kernel_rfl) (want_none) rfl (fun _ c201 => q_idxA (o := 1) (t := 2 * i) tr_42 rfl rfl ho_2) ?_
  refine HA.val (k := 4) (v := .int .u8 (b8 a.2 (2 * i))) rfl rfl (by kernel_rfl) (by kernel_rfl) (want_none) rfl (fun _ c201 => q_ldArr (o := 1) (t := 2 * i) (X := a.2) to_5 rfl c201 rfl ho_2) ?_
  refine HA.val (k := 5) (v := .int .u64 (IntKind.u64.wrap (b8 a.2 (2 * i)))) rfl rfl (by kernel_rfl) (by kernel_rfl) (want_none) rfl (fun _ c201 => q_convInt (n := b8 a.2 (2 * i)) Tryz.underlying5 Tryz.underlying73 rfl rfl) ?_
  refine HA.val (k := 6) (v := .int .u64 (IntKind.u64.wrap ((IntKind.u64.wrap (b8 a.2 (2 * i))) * 2 ^ (min (8 : Int).toNat IntKind.u64.bits)))) rfl rfl (by kernel_rfl) (by kernel_rfl) (want_none) rfl (fun _ c201 => q_shl rfl rfl (by decide) rfl) ?_
  refine HA.val (k := 7) (v := .int .i64 i) rfl rfl (by kernel_rfl) (by kernel_rfl) (want_none) rfl (fun _ c201 => q_move rfl) ?_
  refine HA.val (k := 8) (v := .int .i64 (2 * i)) rfl rfl (by kernel_rfl) (by kernel_rfl) (want_none) rfl (fun _ c201 => q_mulN _ rfl rfl rfl ho_1.1 ho_1.2) ?_
  obtain ⟨ho_3, hM⟩ := hM
  refine HA.val (k := 9) (v := .int .i64 ((2 * i) + 1)) rfl rfl (by kernel_rfl) (by kernel_rfl) (want_none) rfl (fun _ c201 => q_addN _ rfl rfl rfl ho_3.1 ho_3.2) ?_
  refine HA.val (k := 10) (v := .pointer (some ⟨b_1, 1, none⟩)) rfl rfl (by kernel_rfl) (by kernel_rfl) (want_none) rfl (fun _ c201 => q_fieldAddr fa_44_1 rfl rfl) ?_
  obtain ⟨ho_4, hM⟩ := hM
  refine HA.val (k := 11) (v := .pointer (some ⟨b_1, 1 + ((2 * i) + 1).toNat, none⟩)) rfl rfl (by kernel_rfl) (by kernel_rfl) (want_none) rfl (fun _ c201 => q_idxA (o := 1) (t := (2 * i) + 1) tr_42 rfl rfl ho_4) ?_
  refine HA.val (k := 12) (v := .int .u8 (b8 a.2 ((2 * i) + 1))) rfl rfl (by kernel_rfl) (by kernel_rfl) (want_none) rfl (fun _ c201 => q_ldArr (o := 1) (t := (2 * i) + 1) (X := a.2) to_5 rfl c201 rfl ho_4) ?_
  refine HA.val (k := 13) (v := .int .u64 (IntKind.u64.wrap (b8 a.2 ((2 * i) + 1)))) rfl rfl (by kernel_rfl) (by kernel_rfl) (want_none) rfl (fun _ c201 => q_convInt (n := b8 a.2 ((2 * i) + 1)) Tryz.underlying5 Tryz.underlying73 rfl rfl) ?_
  refine HA.val (k := 14) (v := .int .u64 (bits .or .u64 (IntKind.u64.wrap ((IntKind.u64.wrap (b8 a.2 (2 * i))) * 2 ^ (min (8 : Int).toNat IntKind.u64.bits))) (IntKind.u64.wrap (b8 a.2 ((2 * i) + 1))))) rfl rfl (by kernel_rfl) (by kernel_rfl) (want_none) rfl (fun _ c201 => q_bits (by simp) rfl rfl) ?_
  refine HA.val (k := 15) (v := .int .u64 (bits .or .u64 (IntKind.u64.wrap ((IntKind.u64.wrap (b8 a.2 (2 * i))) * 2 ^ (min (8 : Int).toNat IntKind.u64.bits))) (IntKind.u64.wrap (b8 a.2 ((2 * i) + 1))))) rfl rfl (by kernel_rfl) (by kernel_rfl) (want_none) rfl (fun _ c201 => q_assign rfl) ?_
  refine HA.nil ⟨(hS.box 0 rfl), (Go.Wk.at_nil _ _)⟩ (by kernel_rfl) (thenQ_normal (?_))
  refine HW.ret (?_)
  refine ⟨.inr rfl, .int .u64 (bits .or .u64 (IntKind.u64.wrap ((IntKind.u64.wrap (b8 a.2 (2 * i))) * 2 ^ (min (8 : Int).toNat IntKind.u64.bits))) (IntKind.u64.wrap (b8 a.2 ((2 * i) + 1)))), res1 rfl (rt rfl), ?_⟩
  replace hS : St F (fr) h_1 := hS.perm2 [] 1 rfl rfl
  exact ⟨F, bits .or .u64 (IntKind.u64.wrap ((IntKind.u64.wrap (b8 a.2 (2 * i))) * 2 ^ (min (8 : Int).toNat IntKind.u64.bits))) (IntKind.u64.wrap (b8 a.2 ((2 * i) + 1))), rfl, hK, hS, hM⟩

def addr_row_j1 (n_1 : Int) (most_1 : Int) (i_1 : Int) (K_1 : Int → Int → Int → Prop) (n_2 : Int) : Prop :=
  (most_1 < n_2 → (I64 (n_2 + 1)) ∧ ((I64 (i_1 + (n_2 + 1))) ∧ (K_1 i_1 n_2 (i_1 + (n_2 + 1))))) ∧ (¬ (most_1 < n_2) → (I64 (n_2 + 1)) ∧ ((I64 (i_1 + (n_2 + 1))) ∧ (K_1 n_1 most_1 (i_1 + (n_2 + 1)))))
def addr_row_l2 (a : T_api_Addr) (n_1 : Int) (most_1 : Int) (i_1 : Int) (K_1 : Int → Int → Int → Prop) (K_2 : Int → Prop) (n_3 : Int) : Prop :=
  (I64 (i_1 + n_3)) ∧ (((i_1 + n_3) < 8 → addr_word_W a (i_1 + n_3) (fun r_1 => (r_1 = 0 → (I64 (n_3 + 1)) ∧ (K_2 (n_3 + 1))) ∧ (¬ (r_1 = 0) → addr_row_j1 n_1 most_1 i_1 K_1 n_3))) ∧ (¬ ((i_1 + n_3) < 8) → addr_row_j1 n_1 most_1 i_1 K_1 n_3))
def addr_row_l1 (a : T_api_Addr) (Q : Int → Int → Prop) (K_1 : Int → Int → Int → Prop) (n_1 : Int) (most_1 : Int) (i_1 : Int) : Prop :=
  (i_1 < 8 → loopW (fun (K_2 : Int → Prop) (s : Int) => addr_row_l2 a n_1 most_1 i_1 K_1 K_2 s) 0) ∧ (¬ (i_1 < 8) → Q n_1 most_1)
def addr_row_W (a : T_api_Addr) (Q : Int → Int → Prop) : Prop :=
  loopW (fun (K_1 : (Int × Int × Int) → Prop) (s : Int × Int × Int) => addr_row_l1 a Q (fun n_1 most_1 i_1 => K_1 (n_1, most_1, i_1)) s.1 s.2.1 s.2.2) (0, 1, 0)
set_option maxHeartbeats 40000000 in
set_option maxRecDepth 100000 in
theorem addr_row_walk {F : Fz} {fr : List Ow} {h0 : Heap} (a : T_api_Addr) (hS : St F (fr) h0)  {Q : Int → Int → Prop} (hM : addr_row_W a Q) :
    HC Tryz.prog 65 #[.agg (e_api_Addr a).toArray] h0 fun u h' => ∃ (F' : Fz) (r0_1 : Int) (r1_1 : Int), u = .tuple #[.int .i64 r0_1, .int .i64 r1_1] ∧ Kp F h0 F' h' ∧ St F' (fr) h' ∧ Q r0_1 r1_1 := by
  unfold addr_row_W at hM
  have hK := Kp.refl F h0
  refine HC.of_HW (n := 35) Tryz.func65 rfl rfl (Nat.le_of_ble_eq_true rfl) ?_
  refine HW.seq ?_
  refine HW.region ?_
  refine HO.eff (want_none) rfl (st_box (c := (e_api_Addr a).toArray) (k' := 17) hS rfl rfl) ?_
  rintro _ h_1 ⟨b_1, rfl, hS, hk⟩
  replace hK := hK.trans hk
  refine HO.val (v := .int .i64 0) (want_none) rfl (q_assign rfl) ?_
  refine HO.val (v := .int .i64 0) (want_none) rfl (q_assign rfl) ?_
  refine HO.nil (thenQ_normal (?_))
  refine HW.seq ?_
  refine HW.region ?_
  refine HO.val (v := .int .i64 0) (want_none) rfl (q_assign rfl) ?_
  refine HO.val (v := .int .i64 1) (want_none) rfl (q_assign rfl) ?_
  refine HO.nil (thenQ_normal (?_))
  refine HW.seq ?_
  refine HW.seq ?_
  refine HW.region ?_
  refine HO.val (v := .int .i64 0) (want_none) rfl (q_assign rfl) ?_
  refine HO.nil (thenQ_normal (?_))
  refine HW.block ?_
  obtain ⟨I_1, m_1, hI_1, hR_1⟩ := hM
  refine HW.loop (S := Int × Int × Int) (fun s f h => match s with | (n_1, most_1, i_1) => ∃ (F' : Fz), f 1 = .pointer (some ⟨b_1, 0, none⟩) ∧ f 2 = .int .i64 0 ∧ f 3 = .int .i64 0 ∧ f 4 = .int .i64 n_1 ∧ f 5 = .int .i64 most_1 ∧ f 6 = .int .i64 i_1 ∧ Kp F h0 F' h ∧ St F' (Ow.box b_1 44 (e_api_Addr a).toArray :: fr) h ∧ I_1 (n_1, most_1, i_1)) m_1 (0, 1, 0) ⟨F, rfl, rfl, rfl, rfl, rfl, rfl, hK, hS, hI_1⟩ ?_
  rintro ⟨n_1, most_1, i_1⟩ f_1 h_2 ⟨F_1, e1, e2, e3, e4, e5, e6, hK, hS, hI0⟩
  obtain ⟨K_1, hKe_1⟩ : ∃ K : Int → Int → Int → Prop, K = fun n_1' most_1' i_1' => I_1 (n_1', most_1', i_1') ∧ m_1 (n_1', most_1', i_1') < m_1 (n_1, most_1, i_1) := ⟨_, rfl⟩
  have hM : addr_row_l1 a Q K_1 n_1 most_1 i_1 := by rw [hKe_1]; exact hR_1 (n_1, most_1, i_1) hI0
  unfold addr_row_l1 at hM
  refine HW.fr [(1, .pointer (some ⟨b_1, 0, none⟩)), (2, .int .i64 0), (3, .int .i64 0), (4, .int .i64 n_1), (5, .int .i64 most_1), (6, .int .i64 i_1)] ⟨e1, e2, e3, e4, e5, e6, trivial⟩ ?_
  refine HW.seq ?_
  refine HW.seq ?_
  refine HW.region ?_
  refine HO.val (v := .int .i64 i_1) (want_none) rfl (q_move rfl) ?_
  refine HO.val (v := .bool (decide (i_1 < 8))) (want_none) rfl (q_lss rfl rfl) ?_
  refine HO.nil (thenQ_normal (?_))
  refine HW.cond (decide (i_1 < 8)) rfl (fun c_1 => ?_) (fun c_1 => ?_)
  · replace hM := hM.1 (of_decide_eq_true c_1)
    refine HW.skip (thenQ_normal (?_))
    refine HW.block ?_
    refine HW.seq ?_
    refine HW.region ?_
    refine HO.val (v := .int .i64 0) (want_none) rfl (q_assign rfl) ?_
    refine HO.nil (thenQ_normal (?_))
    refine HW.seq_mid (fun f h => ∃ (F' : Fz) (n_2 : Int), f 1 = .pointer (some ⟨b_1, 0, none⟩) ∧ f 2 = .int .i64 0 ∧ f 3 = .int .i64 0 ∧ f 4 = .int .i64 n_1 ∧ f 5 = .int .i64 most_1 ∧ f 6 = .int .i64 i_1 ∧ f 7 = .int .i64 n_2 ∧ Kp F h0 F' h ∧ St F' (Ow.box b_1 44 (e_api_Addr a).toArray :: fr) h ∧ addr_row_j1 n_1 most_1 i_1 K_1 n_2) ?_ ?_
    · refine HW.block ?_
      obtain ⟨I_2, m_2, hI_2, hR_2⟩ := hM
      refine HW.loop (S := Int) (fun n_3 f h => ∃ (F' : Fz), f 1 = .pointer (some ⟨b_1, 0, none⟩) ∧ f 2 = .int .i64 0 ∧ f 3 = .int .i64 0 ∧ f 4 = .int .i64 n_1 ∧ f 5 = .int .i64 most_1 ∧ f 6 = .int .i64 i_1 ∧ f 7 = .int .i64 n_3 ∧ Kp F h0 F' h ∧ St F' (Ow.box b_1 44 (e_api_Addr a).toArray :: fr) h ∧ I_2 n_3) m_2 0 ⟨F_1, rfl, rfl, rfl, rfl, rfl, rfl, rfl, hK, hS, hI_2⟩ ?_
      rintro n_3 f_2 h_3 ⟨F_2, e1, e2, e3, e4, e5, e6, e7, hK, hS, hI0⟩
      obtain ⟨K_2, hKe_2⟩ : ∃ K : Int → Prop, K = fun n_3' => I_2 n_3' ∧ m_2 n_3' < m_2 n_3 := ⟨_, rfl⟩
      have hM : addr_row_l2 a n_1 most_1 i_1 K_1 K_2 n_3 := by rw [hKe_2]; exact hR_2 n_3 hI0
      unfold addr_row_l2 at hM
      refine HW.fr [(1, .pointer (some ⟨b_1, 0, none⟩)), (2, .int .i64 0), (3, .int .i64 0), (4, .int .i64 n_1), (5, .int .i64 most_1), (6, .int .i64 i_1), (7, .int .i64 n_3)] ⟨e1, e2, e3, e4, e5, e6, e7, trivial⟩ ?_
      refine HW.seq ?_
      refine HW.seq ?_
      refine HW.region ?_
      refine HO.val (v := .int .i64 i_1) (want_none) rfl (q_move rfl) ?_
      refine HO.val (v := .int .i64 n_3) (want_none) rfl (q_move rfl) ?_
      obtain ⟨ho_1, hM⟩ := hM
      refine HO.val (v := .int .i64 (i_1 + n_3)) (want_none) rfl (q_addN _ rfl rfl rfl ho_1.1 ho_1.2) ?_
      refine HO.val (v := .bool (decide ((i_1 + n_3) < 8))) (want_none) rfl (q_lss rfl rfl) ?_
      refine HO.val (v := .bool (decide ((i_1 + n_3) < 8))) (want_none) rfl (q_move rfl) ?_
      rcases Bool.eq_false_or_eq_true (decide ((i_1 + n_3) < 8)) with c_2 | c_2
      · replace hM := hM.1 (of_decide_eq_true c_2)
        refine HO.val (v := .agg (e_api_Addr a).toArray) (want_by rfl rfl c_2) rfl (q_loadAgg (cs := (e_api_Addr a)) ta_44 rfl rfl (Blk.cells (k := 17) (hS.box 0 rfl) rfl)) ?_
        refine HO.val (v := .int .i64 i_1) (want_by rfl rfl c_2) rfl (q_move rfl) ?_
        refine HO.val (v := .int .i64 n_3) (want_by rfl rfl c_2) rfl (q_move rfl) ?_
        refine HO.val (v := .int .i64 (i_1 + n_3)) (want_by rfl rfl c_2) rfl (q_addN _ rfl rfl rfl ho_1.1 ho_1.2) ?_
        refine HO.call (want_by rfl rfl c_2) rfl (ec en_89 rfl rfl) (addr_word_walk (fr := (Ow.box b_1 44 (e_api_Addr a).toArray :: fr)) a (i_1 + n_3) hS hM) ?_
        rintro _ h_4 ⟨F_3, r_1, rfl, hk, hS, hM⟩
        replace hK := hK.trans hk
        refine HO.val (v := .bool (decide (r_1 = 0))) (want_by rfl rfl c_2) rfl (q_eql rfl rfl) ?_
        refine HO.val (v := .bool (decide (r_1 = 0))) (want_none) rfl (q_pickK true rfl c_2 rfl) ?_
        refine HO.nil (thenQ_normal (?_))
        refine HW.cond (decide (r_1 = 0)) rfl (fun c_3 => ?_) (fun c_3 => ?_)
        · replace hM := hM.1 (of_decide_eq_true c_3)
          refine HW.skip (thenQ_normal (?_))
          refine HW.block ?_
          refine HW.region ?_
          refine HO.val (v := .int .i64 n_3) (want_none) rfl (q_move rfl) ?_
          obtain ⟨ho_2, hM⟩ := hM
          refine HO.val (v := .int .i64 (n_3 + 1)) (want_none) rfl (q_addN _ rfl rfl rfl ho_2.1 ho_2.2) ?_
          refine HO.val (v := .int .i64 (n_3 + 1)) (want_none) rfl (q_assign rfl) ?_
          refine HO.nil (blockQ_normal (thenQ_normal (?_)))
          rw [hKe_2] at hM
          exact ⟨n_3 + 1, ⟨F_3, rfl, rfl, rfl, rfl, rfl, rfl, rfl, hK, hS, hM.1⟩, hM.2⟩
        · replace hM := hM.2 (of_decide_eq_false c_3)
          refine HW.exit (thenQ_exit (thenQ_exit (blockQ_exit (thenQ_normal (?_)))))
          exact ⟨F_3, n_3, rfl, rfl, rfl, rfl, rfl, rfl, rfl, hK, hS, hM⟩
      · replace hM := hM.2 (of_decide_eq_false c_2)
        refine HO.past (past_by rfl rfl c_2) rfl ?_
        refine HO.past (past_by rfl rfl c_2) rfl ?_
        refine HO.past (past_by rfl rfl c_2) rfl ?_
        refine HO.past (past_by rfl rfl c_2) rfl ?_
        refine HO.past (past_by rfl rfl c_2) rfl ?_
        refine HO.past (past_by rfl rfl c_2) rfl ?_
        refine HO.val (v := .bool false) (want_none) rfl (q_pickK false rfl c_2 rfl) ?_
        refine HO.nil (thenQ_normal (?_))
        refine HW.condF rfl ?_
        refine HW.exit (thenQ_exit (thenQ_exit (blockQ_exit (thenQ_normal (?_)))))
        exact ⟨F_2, n_3, rfl, rfl, rfl, rfl, rfl, rfl, rfl, hK, hS, hM⟩
    · rintro f_3 h_5 ⟨F_4, n_2, e1, e2, e3, e4, e5, e6, e7, hK, hS, hM⟩
      unfold addr_row_j1 at hM
      refine HW.fr [(1, .pointer (some ⟨b_1, 0, none⟩)), (2, .int .i64 0), (3, .int .i64 0), (4, .int .i64 n_1), (5, .int .i64 most_1), (6, .int .i64 i_1), (7, .int .i64 n_2)] ⟨e1, e2, e3, e4, e5, e6, e7, trivial⟩ ?_
      refine HW.seq ?_
      refine HW.seq ?_
      refine HW.region ?_
      refine HO.val (v := .int .i64 n_2) (want_none) rfl (q_move rfl) ?_
      refine HO.val (v := .int .i64 most_1) (want_none) rfl (q_move rfl) ?_
      refine HO.val (v := .bool (decide (most_1 < n_2))) (want_none) rfl (q_gtr rfl rfl) ?_
      refine HO.nil (thenQ_normal (?_))
      refine HW.cond (decide (most_1 < n_2)) rfl (fun c_4 => ?_) (fun c_4 => ?_)
      · replace hM := hM.1 (of_decide_eq_true c_4)
        refine HW.region ?_
        refine HO.val (v := .int .i64 i_1) (want_none) rfl (q_move rfl) ?_
        refine HO.val (v := .int .i64 n_2) (want_none) rfl (q_move rfl) ?_
        refine HO.val (v := .int .i64 i_1) (want_none) rfl (q_assign rfl) ?_
        refine HO.val (v := .int .i64 n_2) (want_none) rfl (q_assign rfl) ?_
        refine HO.nil (thenQ_normal (?_))
        refine HW.region ?_
        refine HO.val (v := .int .i64 i_1) (want_none) rfl (q_move rfl) ?_
        refine HO.val (v := .int .i64 n_2) (want_none) rfl (q_move rfl) ?_
        obtain ⟨ho_3, hM⟩ := hM
        refine HO.val (v := .int .i64 (n_2 + 1)) (want_none) rfl (q_addN _ rfl rfl rfl ho_3.1 ho_3.2) ?_
        obtain ⟨ho_4, hM⟩ := hM
        refine HO.val (v := .int .i64 (i_1 + (n_2 + 1))) (want_none) rfl (q_addN _ rfl rfl rfl ho_4.1 ho_4.2) ?_
        refine HO.val (v := .int .i64 (i_1 + (n_2 + 1))) (want_none) rfl (q_assign rfl) ?_
        refine HO.nil (blockQ_normal (thenQ_normal (?_)))
        rw [hKe_1] at hM
        exact ⟨(i_1, n_2, i_1 + (n_2 + 1)), ⟨F_4, rfl, rfl, rfl, rfl, rfl, rfl, hK, hS, hM.1⟩, hM.2⟩
      · replace hM := hM.2 (of_decide_eq_false c_4)
        refine HW.skip (thenQ_normal (?_))
        refine HW.region ?_
        refine HO.val (v := .int .i64 i_1) (want_none) rfl (q_move rfl) ?_
        refine HO.val (v := .int .i64 n_2) (want_none) rfl (q_move rfl) ?_
        obtain ⟨ho_5, hM⟩ := hM
        refine HO.val (v := .int .i64 (n_2 + 1)) (want_none) rfl (q_addN _ rfl rfl rfl ho_5.1 ho_5.2) ?_
        obtain ⟨ho_6, hM⟩ := hM
        refine HO.val (v := .int .i64 (i_1 + (n_2 + 1))) (want_none) rfl (q_addN _ rfl rfl rfl ho_6.1 ho_6.2) ?_
        refine HO.val (v := .int .i64 (i_1 + (n_2 + 1))) (want_none) rfl (q_assign rfl) ?_
        refine HO.nil (blockQ_normal (thenQ_normal (?_)))
        rw [hKe_1] at hM
        exact ⟨(n_1, most_1, i_1 + (n_2 + 1)), ⟨F_4, rfl, rfl, rfl, rfl, rfl, rfl, hK, hS, hM.1⟩, hM.2⟩
  · replace hM := hM.2 (of_decide_eq_false c_1)
    refine HW.exit (thenQ_exit (thenQ_exit (blockQ_exit (thenQ_normal (?_)))))
    refine HW.seq ?_
    refine HW.region ?_
    refine HO.val (v := .int .i64 n_1) (want_none) rfl (q_move rfl) ?_
    refine HO.val (v := .int .i64 most_1) (want_none) rfl (q_move rfl) ?_
    refine HO.val (v := .int .i64 n_1) (want_none) rfl (q_assign rfl) ?_
    refine HO.val (v := .int .i64 most_1) (want_none) rfl (q_assign rfl) ?_
    refine HO.nil (thenQ_normal (?_))
    refine HW.ret (?_)
    refine ⟨.inr rfl, .tuple #[.int .i64 n_1, .int .i64 most_1], res2 rfl (rt rfl) (rt rfl), ?_⟩
    replace hS : St F_1 (fr) h_2 := hS.perm2 [] 1 rfl rfl
    exact ⟨F_1, n_1, most_1, rfl, hK, hS, hM⟩

def internal_strconv_small_W (i : Int) (Q : Str → Prop) : Prop :=
  (i < 10 → (I64 (i + 1)) ∧ (((0 : Int) ≤ i ∧ i ≤ i + 1 ∧ i + 1 ≤ ((([48, 49, 50, 51, 52, 53, 54, 55, 56, 57, 97, 98, 99, 100, 101, 102, 103, 104, 105, 106, 107, 108, 109, 110, 111, 112, 113, 114, 115, 116, 117, 118, 119, 120, 121, 122] : Str)).length : Int)) ∧ (Q (cut ([48, 49, 50, 51, 52, 53, 54, 55, 56, 57, 97, 98, 99, 100, 101, 102, 103, 104, 105, 106, 107, 108, 109, 110, 111, 112, 113, 114, 115, 116, 117, 118, 119, 120, 121, 122] : Str) i (i + 1))))) ∧ (¬ (i < 10) → (I64 (i * 2)) ∧ ((I64 ((i * 2) + 2)) ∧ (((0 : Int) ≤ i * 2 ∧ i * 2 ≤ (i * 2) + 2 ∧ (i * 2) + 2 ≤ ((([48, 48, 48, 49, 48, 50, 48, 51, 48, 52, 48, 53, 48, 54, 48, 55, 48, 56, 48, 57, 49, 48, 49, 49, 49, 50, 49, 51, 49, 52, 49, 53, 49, 54, 49, 55, 49, 56, 49, 57, 50, 48, 50, 49, 50, 50, 50, 51, 50, 52, 50, 53, 50, 54, 50, 55, 50, 56, 50, 57, 51, 48, 51, 49, 51, 50, 51, 51, 51, 52, 51, 53, 51, 54, 51, 55, 51, 56, 51, 57, 52, 48, 52, 49, 52, 50, 52, 51, 52, 52, 52, 53, 52, 54, 52, 55, 52, 56, 52, 57, 53, 48, 53, 49, 53, 50, 53, 51, 53, 52, 53, 53, 53, 54, 53, 55, 53, 56, 53, 57, 54, 48, 54, 49, 54, 50, 54, 51, 54, 52, 54, 53, 54, 54, 54, 55, 54, 56, 54, 57, 55, 48, 55, 49, 55, 50, 55, 51, 55, 52, 55, 53, 55, 54, 55, 55, 55, 56, 55, 57, 56, 48, 56, 49, 56, 50, 56, 51, 56, 52, 56, 53, 56, 54, 56, 55, 56, 56, 56, 57, 57, 48, 57, 49, 57, 50, 57, 51, 57, 52, 57, 53, 57, 54, 57, 55, 57, 56, 57, 57] : Str)).length : Int)) ∧ (Q (cut ([48, 48, 48, 49, 48, 50, 48, 51, 48, 52, 48, 53, 48, 54, 48, 55, 48, 56, 48, 57, 49, 48, 49, 49, 49, 50, 49, 51, 49, 52, 49, 53, 49, 54, 49, 55, 49, 56, 49, 57, 50, 48, 50, 49, 50, 50, 50, 51, 50, 52, 50, 53, 50, 54, 50, 55, 50, 56, 50, 57, 51, 48, 51, 49, 51, 50, 51, 51, 51, 52, 51, 53, 51, 54, 51, 55, 51, 56, 51, 57, 52, 48, 52, 49, 52, 50, 52, 51, 52, 52, 52, 53, 52, 54, 52, 55, 52, 56, 52, 57, 53, 48, 53, 49, 53, 50, 53, 51, 53, 52, 53, 53, 53, 54, 53, 55, 53, 56, 53, 57, 54, 48, 54, 49, 54, 50, 54, 51, 54, 52, 54, 53, 54, 54, 54, 55, 54, 56, 54, 57, 55, 48, 55, 49, 55, 50, 55, 51, 55, 52, 55, 53, 55, 54, 55, 55, 55, 56, 55, 57, 56, 48, 56, 49, 56, 50, 56, 51, 56, 52, 56, 53, 56, 54, 56, 55, 56, 56, 56, 57, 57, 48, 57, 49, 57, 50, 57, 51, 57, 52, 57, 53, 57, 54, 57, 55, 57, 56, 57, 57] : Str) (i * 2) ((i * 2) + 2))))))
set_option maxHeartbeats 40000000 in
set_option maxRecDepth 100000 in
theorem internal_strconv_small_walk {F : Fz} {fr : List Ow} {h0 : Heap} (i : Int) (hS : St F (fr) h0)  {Q : Str → Prop} (hM : internal_strconv_small_W i Q) :
    HC Tryz.prog 133 #[.int .i64 i] h0 fun u h' => ∃ (F' : Fz) (r_1 : Str), u = .string (bs r_1) ∧ Kp F h0 F' h' ∧ St F' (fr) h' ∧ Q r_1 := by
  unfold internal_strconv_small_W at hM
  have hK := Kp.refl F h0
  refine HC.of_HW (n := 15) Tryz.func133 rfl rfl (Nat.le_of_ble_eq_true rfl) ?_
  refine HW.seq ?_
  refine HW.region ?_
  refine HO.val (v := .string (bs [])) (want_none) rfl (q_assign rfl) ?_
  refine HO.nil (thenQ_normal (?_))
  refine HW.seq ?_
  refine HW.seq ?_
  refine HW.region ?_
  refine HO.val (v := .int .i64 i) (want_none) rfl (q_move rfl) ?_
  refine HO.val (v := .bool (decide (i < 10))) (want_none) rfl (q_lss rfl rfl) ?_
  refine HO.nil (thenQ_normal (?_))
  refine HW.cond (decide (i < 10)) rfl (fun c_1 => ?_) (fun c_1 => ?_)
  · replace hM := hM.1 (of_decide_eq_true c_1)
    refine HW.seq ?_
    refine HW.region ?_
    refine HO.val (v := .int .i64 i) (want_none) rfl (q_move rfl) ?_
    refine HO.val (v := .int .i64 i) (want_none) rfl (q_move rfl) ?_
    obtain ⟨ho_1, hM⟩ := hM
    refine HO.val (v := .int .i64 (i + 1)) (want_none) rfl (q_addN _ rfl rfl rfl ho_1.1 ho_1.2) ?_
    obtain ⟨ho_2, hM⟩ := hM
    refine HO.val (v := .string (bs (cut ([48, 49, 50, 51, 52, 53, 54, 55, 56, 57, 97, 98, 99, 100, 101, 102, 103, 104, 105, 106, 107, 108, 109, 110, 111, 112, 113, 114, 115, 116, 117, 118, 119, 120, 121, 122] : Str) i (i + 1)))) (want_none) rfl (q_strLH Tryz.underlying9 rfl rfl rfl ho_2) ?_
    refine HO.val (v := .string (bs (cut ([48, 49, 50, 51, 52, 53, 54, 55, 56, 57, 97, 98, 99, 100, 101, 102, 103, 104, 105, 106, 107, 108, 109, 110, 111, 112, 113, 114, 115, 116, 117, 118, 119, 120, 121, 122] : Str) i (i + 1)))) (want_none) rfl (q_assign rfl) ?_
    refine HO.nil (thenQ_normal (?_))
    refine HW.ret (thenQ_ret (?_))
    refine ⟨.inr rfl, .string (bs (cut ([48, 49, 50, 51, 52, 53, 54, 55, 56, 57, 97, 98, 99, 100, 101, 102, 103, 104, 105, 106, 107, 108, 109, 110, 111, 112, 113, 114, 115, 116, 117, 118, 119, 120, 121, 122] : Str) i (i + 1))), res1 rfl (rt rfl), ?_⟩
    exact ⟨F, cut ([48, 49, 50, 51, 52, 53, 54, 55, 56, 57, 97, 98, 99, 100, 101, 102, 103, 104, 105, 106, 107, 108, 109, 110, 111, 112, 113, 114, 115, 116, 117, 118, 119, 120, 121, 122] : Str) i (i + 1), rfl, hK, hS, hM⟩
  · replace hM := hM.2 (of_decide_eq_false c_1)
    refine HW.skip (thenQ_normal (?_))
    refine HW.seq ?_
    refine HW.region ?_
    refine HO.val (v := .int .i64 i) (want_none) rfl (q_move rfl) ?_
    obtain ⟨ho_3, hM⟩ := hM
    refine HO.val (v := .int .i64 (i * 2)) (want_none) rfl (q_mulN _ rfl rfl rfl ho_3.1 ho_3.2) ?_
    refine HO.val (v := .int .i64 i) (want_none) rfl (q_move rfl) ?_
    refine HO.val (v := .int .i64 (i * 2)) (want_none) rfl (q_mulN _ rfl rfl rfl ho_3.1 ho_3.2) ?_
    obtain ⟨ho_4, hM⟩ := hM
    refine HO.val (v := .int .i64 ((i * 2) + 2)) (want_none) rfl (q_addN _ rfl rfl rfl ho_4.1 ho_4.2) ?_
    obtain ⟨ho_5, hM⟩ := hM
    refine HO.val (v := .string (bs (cut ([48, 48, 48, 49, 48, 50, 48, 51, 48, 52, 48, 53, 48, 54, 48, 55, 48, 56, 48, 57, 49, 48, 49, 49, 49, 50, 49, 51, 49, 52, 49, 53, 49, 54, 49, 55, 49, 56, 49, 57, 50, 48, 50, 49, 50, 50, 50, 51, 50, 52, 50, 53, 50, 54, 50, 55, 50, 56, 50, 57, 51, 48, 51, 49, 51, 50, 51, 51, 51, 52, 51, 53, 51, 54, 51, 55, 51, 56, 51, 57, 52, 48, 52, 49, 52, 50, 52, 51, 52, 52, 52, 53, 52, 54, 52, 55, 52, 56, 52, 57, 53, 48, 53, 49, 53, 50, 53, 51, 53, 52, 53, 53, 53, 54, 53, 55, 53, 56, 53, 57, 54, 48, 54, 49, 54, 50, 54, 51, 54, 52, 54, 53, 54, 54, 54, 55, 54, 56, 54, 57, 55, 48, 55, 49, 55, 50, 55, 51, 55, 52, 55, 53, 55, 54, 55, 55, 55, 56, 55, 57, 56, 48, 56, 49, 56, 50, 56, 51, 56, 52, 56, 53, 56, 54, 56, 55, 56, 56, 56, 57, 57, 48, 57, 49, 57, 50, 57, 51, 57, 52, 57, 53, 57, 54, 57, 55, 57, 56, 57, 57] : Str) (i * 2) ((i * 2) + 2)))) (want_none) rfl (q_strLH Tryz.underlying9 rfl rfl rfl ho_5) ?_
    refine HO.val (v := .string (bs (cut ([48, 48, 48, 49, 48, 50, 48, 51, 48, 52, 48, 53, 48, 54, 48, 55, 48, 56, 48, 57, 49, 48, 49, 49, 49, 50, 49, 51, 49, 52, 49, 53, 49, 54, 49, 55, 49, 56, 49, 57, 50, 48, 50, 49, 50, 50, 50, 51, 50, 52, 50, 53, 50, 54, 50, 55, 50, 56, 50, 57, 51, 48, 51, 49, 51, 50, 51, 51, 51, 52, 51, 53, 51, 54, 51, 55, 51, 56, 51, 57, 52, 48, 52, 49, 52, 50, 52, 51, 52, 52, 52, 53, 52, 54, 52, 55, 52, 56, 52, 57, 53, 48, 53, 49, 53, 50, 53, 51, 53, 52, 53, 53, 53, 54, 53, 55, 53, 56, 53, 57, 54, 48, 54, 49, 54, 50, 54, 51, 54, 52, 54, 53, 54, 54, 54, 55, 54, 56, 54, 57, 55, 48, 55, 49, 55, 50, 55, 51, 55, 52, 55, 53, 55, 54, 55, 55, 55, 56, 55, 57, 56, 48, 56, 49, 56, 50, 56, 51, 56, 52, 56, 53, 56, 54, 56, 55, 56, 56, 56, 57, 57, 48, 57, 49, 57, 50, 57, 51, 57, 52, 57, 53, 57, 54, 57, 55, 57, 56, 57, 57] : Str) (i * 2) ((i * 2) + 2)))) (want_none) rfl (q_assign rfl) ?_
    refine HO.nil (thenQ_normal (?_))
    refine HW.ret (?_)
    refine ⟨.inr rfl, .string (bs (cut ([48, 48, 48, 49, 48, 50, 48, 51, 48, 52, 48, 53, 48, 54, 48, 55, 48, 56, 48, 57, 49, 48, 49, 49, 49, 50, 49, 51, 49, 52, 49, 53, 49, 54, 49, 55, 49, 56, 49, 57, 50, 48, 50, 49, 50, 50, 50, 51, 50, 52, 50, 53, 50, 54, 50, 55, 50, 56, 50, 57, 51, 48, 51, 49, 51, 50, 51, 51, 51, 52, 51, 53, 51, 54, 51, 55, 51, 56, 51, 57, 52, 48, 52, 49, 52, 50, 52, 51, 52, 52, 52, 53, 52, 54, 52, 55, 52, 56, 52, 57, 53, 48, 53, 49, 53, 50, 53, 51, 53, 52, 53, 53, 53, 54, 53, 55, 53, 56, 53, 57, 54, 48, 54, 49, 54, 50, 54, 51, 54, 52, 54, 53, 54, 54, 54, 55, 54, 56, 54, 57, 55, 48, 55, 49, 55, 50, 55, 51, 55, 52, 55, 53, 55, 54, 55, 55, 55, 56, 55, 57, 56, 48, 56, 49, 56, 50, 56, 51, 56, 52, 56, 53, 56, 54, 56, 55, 56, 56, 56, 57, 57, 48, 57, 49, 57, 50, 57, 51, 57, 52, 57, 53, 57, 54, 57, 55, 57, 56, 57, 57] : Str) (i * 2) ((i * 2) + 2))), res1 rfl (rt rfl), ?_⟩
    exact ⟨F, cut ([48, 48, 48, 49, 48, 50, 48, 51, 48, 52, 48, 53, 48, 54, 48, 55, 48, 56, 48, 57, 49, 48, 49, 49, 49, 50, 49, 51, 49, 52, 49, 53, 49, 54, 49, 55, 49, 56, 49, 57, 50, 48, 50, 49, 50, 50, 50, 51, 50, 52, 50, 53, 50, 54, 50, 55, 50, 56, 50, 57, 51, 48, 51, 49, 51, 50, 51, 51, 51, 52, 51, 53, 51, 54, 51, 55, 51, 56, 51, 57, 52, 48, 52, 49, 52, 50, 52, 51, 52, 52, 52, 53, 52, 54, 52, 55, 52, 56, 52, 57, 53, 48, 53, 49, 53, 50, 53, 51, 53, 52, 53, 53, 53, 54, 53, 55, 53, 56, 53, 57, 54, 48, 54, 49, 54, 50, 54, 51, 54, 52, 54, 53, 54, 54, 54, 55, 54, 56, 54, 57, 55, 48, 55, 49, 55, 50, 55, 51, 55, 52, 55, 53, 55, 54, 55, 55, 55, 56, 55, 57, 56, 48, 56, 49, 56, 50, 56, 51, 56, 52, 56, 53, 56, 54, 56, 55, 56, 56, 56, 57, 57, 48, 57, 49, 57, 50, 57, 51, 57, 52, 57, 53, 57, 54, 57, 55, 57, 56, 57, 57] : Str) (i * 2) ((i * 2) + 2), rfl, hK, hS, hM⟩

def internal_strconv_isPowerOfTwo_W (x : Int) (Q : Bool → Prop) : Prop :=
  (I64 (x - 1)) ∧ (Q (decide ((bits .and .i64 x (x - 1)) = 0)))
set_option maxHeartbeats 40000000 in
set_option maxRecDepth 100000 in
theorem internal_strconv_isPowerOfTwo_walk {F : Fz} {fr : List Ow} {h0 : Heap} (x : Int) (hS : St F (fr) h0)  {Q : Bool → Prop} (hM : internal_strconv_isPowerOfTwo_W x Q) :
    HC Tryz.prog 140 #[.int .i64 x] h0 fun u h' => ∃ (F' : Fz) (r_1 : Bool), u = .bool r_1 ∧ Kp F h0 F' h' ∧ St F' (fr) h' ∧ Q r_1 := by
  unfold internal_strconv_isPowerOfTwo_W at hM
  have hK := Kp.refl F h0
  refine HC.of_HW (n := 8) Tryz.func140 rfl rfl (Nat.le_of_ble_eq_true rfl) ?_
  refine HW.seq ?_
  refine HW.region ?_
  refine HO.val (v := .bool false) (want_none) rfl (q_assign rfl) ?_
  refine HO.nil (thenQ_normal (?_))
  refine HW.seq ?_
  refine HW.region ?_
  refine HO.val (v := .int .i64 x) (want_none) rfl (q_move rfl) ?_
  refine HO.val (v := .int .i64 x) (want_none) rfl (q_move rfl) ?_
  obtain ⟨ho_1, hM⟩ := hM
  refine HO.val (v := .int .i64 (x - 1)) (want_none) rfl (q_subN _ rfl rfl rfl ho_1.1 ho_1.2) ?_
  refine HO.val (v := .int .i64 (bits .and .i64 x (x - 1))) (want_none) rfl (q_bits (by simp) rfl rfl) ?_
  refine HO.val (v := .bool (decide ((bits .and .i64 x (x - 1)) = 0))) (want_none) rfl (q_eql rfl rfl) ?_
  refine HO.val (v := .bool (decide ((bits .and .i64 x (x - 1)) = 0))) (want_none) rfl (q_assign rfl) ?_
  refine HO.nil (thenQ_normal (?_))
  refine HW.ret (?_)
  refine ⟨.inr rfl, .bool (decide ((bits .and .i64 x (x - 1)) = 0)), res1 rfl (rt rfl), ?_⟩
  exact ⟨F, decide ((bits .and .i64 x (x - 1)) = 0), rfl, hK, hS, hM⟩

def math_bits_TrailingZeros64_W (x : Int) (Q : Int → Prop) : Prop :=
  (x = 0 → Q 64) ∧ (¬ (x = 0) → ((0 : Int) ≤ (IntKind.u64.wrap ((bits .and .u64 x (IntKind.u64.wrap (0 - x))) * 285870213051353865)).fdiv (2 ^ (min (58 : Int).toNat IntKind.u64.bits)) ∧ (IntKind.u64.wrap ((bits .and .u64 x (IntKind.u64.wrap (0 - x))) * 285870213051353865)).fdiv (2 ^ (min (58 : Int).toNat IntKind.u64.bits)) < 64) ∧ ((I64 (b8 tab64 ((IntKind.u64.wrap ((bits .and .u64 x (IntKind.u64.wrap (0 - x))) * 285870213051353865)).fdiv (2 ^ (min (58 : Int).toNat IntKind.u64.bits))))) ∧ (Q (b8 tab64 ((IntKind.u64.wrap ((bits .and .u64 x (IntKind.u64.wrap (0 - x))) * 285870213051353865)).fdiv (2 ^ (min (58 : Int).toNat IntKind.u64.bits)))))))
set_option maxHeartbeats 40000000 in
set_option maxRecDepth 100000 in
theorem math_bits_TrailingZeros64_walk {F : Fz} {fr : List Ow} {h0 : Heap} (x : Int) (hS : St F (fr) h0) (hG_7 : RoF (Ow.box 7 164 (arrCells tab64).toArray) F h0) {Q : Int → Prop} (hM : math_bits_TrailingZeros64_W x Q) :
    HC Tryz.prog 143 #[.int .u64 x] h0 fun u h' => ∃ (F' : Fz) (r_1 : Int), u = .int .i64 r_1 ∧ Kp F h0 F' h' ∧ St F' (fr) h' ∧ (RoF (Ow.box 7 164 (arrCells tab64).toArray) F' h') ∧ Q r_1 := by
  unfold math_bits_TrailingZeros64_W at hM
  have hK := Kp.refl F h0
  refine HC.of_HW (n := 14) Tryz.func143 rfl rfl (Nat.le_of_ble_eq_true rfl) ?_
  refine HW.seq ?_
  refine HW.region ?_
  refine HO.val (v := .int .i64 0) (want_none) rfl (q_assign rfl) ?_
  refine HO.nil (thenQ_normal (?_))
  refine HW.seq ?_
  refine HW.seq ?_
  refine HW.region ?_
  refine HO.val (v := .int .u64 x) (want_none) rfl (q_move rfl) ?_
  refine HO.val (v := .bool (decide (x = 0))) (want_none) rfl (q_eql rfl rfl) ?_
  refine HO.nil (thenQ_normal (?_))
  refine HW.cond (decide (x = 0)) rfl (fun c_1 => ?_) (fun c_1 => ?_)
  · replace hM := hM.1 (of_decide_eq_true c_1)
    refine HW.seq ?_
    refine HW.region ?_
    refine HO.val (v := .int .i64 64) (want_none) rfl (q_assign rfl) ?_
    refine HO.nil (thenQ_normal (?_))
    refine HW.ret (thenQ_ret (?_))
    refine ⟨.inr rfl, .int .i64 64, res1 rfl (rt rfl), ?_⟩
    exact ⟨F, 64, rfl, hK, hS, hG_7, hM⟩
  · replace hM := hM.2 (of_decide_eq_false c_1)
    refine HW.skip (thenQ_normal (?_))
    refine HW.seq ?_
    refine HW.region ?_
    refine HO.val (v := .int .u64 x) (want_none) rfl (q_move rfl) ?_
    refine HO.val (v := .int .u64 x) (want_none) rfl (q_move rfl) ?_
    refine HO.val (v := .int .u64 (IntKind.u64.wrap (0 - x))) (want_none) rfl (q_neg rfl) ?_
    refine HO.val (v := .int .u64 (bits .and .u64 x (IntKind.u64.wrap (0 - x)))) (want_none) rfl (q_bits (by simp) rfl rfl) ?_
    refine HO.val (v := .int .u64 (IntKind.u64.wrap ((bits .and .u64 x (IntKind.u64.wrap (0 - x))) * 285870213051353865))) (want_none) rfl (q_mul rfl rfl) ?_
    refine HO.val (v := .int .u64 ((IntKind.u64.wrap ((bits .and .u64 x (IntKind.u64.wrap (0 - x))) * 285870213051353865)).fdiv (2 ^ (min (58 : Int).toNat IntKind.u64.bits)))) (want_none) rfl (q_shr rfl rfl (by decide) rfl) ?_
    obtain ⟨ho_1, hM⟩ := hM
    refine HO.val (v := .pointer (some ⟨7, 0 + ((IntKind.u64.wrap ((bits .and .u64 x (IntKind.u64.wrap (0 - x))) * 285870213051353865)).fdiv (2 ^ (min (58 : Int).toNat IntKind.u64.bits))).toNat, none⟩)) (want_none) rfl (q_idxA (o := 0) (t := (IntKind.u64.wrap ((bits .and .u64 x (IntKind.u64.wrap (0 - x))) * 285870213051353865)).fdiv (2 ^ (min (58 : Int).toNat IntKind.u64.bits))) tr_164 rfl rfl ho_1) ?_
    refine HO.val (v := .int .u8 (b8 tab64 ((IntKind.u64.wrap ((bits .and .u64 x (IntKind.u64.wrap (0 - x))) * 285870213051353865)).fdiv (2 ^ (min (58 : Int).toNat IntKind.u64.bits))))) (want_none) rfl (q_ldArr (o := 0) (t := (IntKind.u64.wrap ((bits .and .u64 x (IntKind.u64.wrap (0 - x))) * 285870213051353865)).fdiv (2 ^ (min (58 : Int).toNat IntKind.u64.bits))) (X := tab64) to_5 rfl hG_7.box rfl ho_1) ?_
    obtain ⟨ho_2, hM⟩ := hM
    refine HO.val (v := .int .i64 (b8 tab64 ((IntKind.u64.wrap ((bits .and .u64 x (IntKind.u64.wrap (0 - x))) * 285870213051353865)).fdiv (2 ^ (min (58 : Int).toNat IntKind.u64.bits))))) (want_none) rfl (q_convInt Tryz.underlying5 Tryz.underlying3 rfl (wrap_i64 ho_2.1 ho_2.2)) ?_
    refine HO.val (v := .int .i64 (b8 tab64 ((IntKind.u64.wrap ((bits .and .u64 x (IntKind.u64.wrap (0 - x))) * 285870213051353865)).fdiv (2 ^ (min (58 : Int).toNat IntKind.u64.bits))))) (want_none) rfl (q_assign rfl) ?_
    refine HO.nil (thenQ_normal (?_))
    refine HW.ret (?_)
    refine ⟨.inr rfl, .int .i64 (b8 tab64 ((IntKind.u64.wrap ((bits .and .u64 x (IntKind.u64.wrap (0 - x))) * 285870213051353865)).fdiv (2 ^ (min (58 : Int).toNat IntKind.u64.bits)))), res1 rfl (rt rfl), ?_⟩
    exact ⟨F, b8 tab64 ((IntKind.u64.wrap ((bits .and .u64 x (IntKind.u64.wrap (0 - x))) * 285870213051353865)).fdiv (2 ^ (min (58 : Int).toNat IntKind.u64.bits))), rfl, hK, hS, hG_7, hM⟩

def math_bits_TrailingZeros_W (x : Int) (Q : Int → Prop) : Prop :=
  math_bits_TrailingZeros64_W x (fun r_2 => Q r_2)
set_option maxHeartbeats 40000000 in
set_option maxRecDepth 100000 in
theorem math_bits_TrailingZeros_walk {F : Fz} {fr : List Ow} {h0 : Heap} (x : Int) (hS : St F (fr) h0) (hG_7 : RoF (Ow.box 7 164 (arrCells tab64).toArray) F h0) {Q : Int → Prop} (hM : math_bits_TrailingZeros_W x Q) :
    HC Tryz.prog 141 #[.int .u64 x] h0 fun u h' => ∃ (F' : Fz) (r_1 : Int), u = .int .i64 r_1 ∧ Kp F h0 F' h' ∧ St F' (fr) h' ∧ (RoF (Ow.box 7 164 (arrCells tab64).toArray) F' h') ∧ Q r_1 := by
  unfold math_bits_TrailingZeros_W at hM
  have hK := Kp.refl F h0
  refine HC.of_HW (n := 8) Tryz.func141 rfl rfl (Nat.le_of_ble_eq_true rfl) ?_
  refine HW.seq ?_
  refine HW.region ?_
  refine HO.val (v := .int .i64 0) (want_none) rfl (q_assign rfl) ?_
  refine HO.nil (thenQ_normal (?_))
  refine HW.seq ?_
  refine HW.condF rfl ?_
  refine HW.skip (thenQ_normal (?_))
  refine HW.seq ?_
  refine HW.region ?_
  refine HO.val (v := .int .u64 x) (want_none) rfl (q_move rfl) ?_
  refine HO.call (want_none) rfl (ec en_143 rfl rfl) (math_bits_TrailingZeros64_walk (fr := (fr)) x hS hG_7 hM) ?_
  rintro _ h_1 ⟨F_1, r_2, rfl, hk, hS, _, hM⟩
  replace hK := hK.trans hk
  replace hG_7 := hG_7.kp hk
  refine HO.val (v := .int .i64 r_2) (want_none) rfl (q_assign rfl) ?_
  refine HO.nil (thenQ_normal (?_))
  refine HW.ret (?_)
  refine ⟨.inr rfl, .int .i64 r_2, res1 rfl (rt rfl), ?_⟩
  exact ⟨F_1, r_2, rfl, hK, hS, hG_7, hM⟩

def internal_strconv_formatBits_j2 (Q : (List UInt8) → Str → Prop) (a_0_1 : Ba 65) (i_1 : Int) : Prop :=
  ((0 : Int) ≤ i_1 ∧ i_1 ≤ 65 ∧ 65 ≤ (65 : Int)) ∧ (Q [] (cut a_0_1.1 i_1 65))
def internal_strconv_formatBits_l1 (base : Int) (Q : (List UInt8) → Str → Prop) (r_2 : Int) (K_1 : Int → (Ba 65) → Int → Prop) (u_1 : Int) (a_0_2 : Ba 65) (i_2 : Int) : Prop :=
  ((IntKind.u64.wrap base) ≤ u_1 → (I64 (i_2 - 1)) ∧ (((0 : Int) ≤ bits .and .u64 u_1 (IntKind.u64.wrap ((IntKind.u64.wrap base) - 1)) ∧ bits .and .u64 u_1 (IntKind.u64.wrap ((IntKind.u64.wrap base) - 1)) < ((([48, 49, 50, 51, 52, 53, 54, 55, 56, 57, 97, 98, 99, 100, 101, 102, 103, 104, 105, 106, 107, 108, 109, 110, 111, 112, 113, 114, 115, 116, 117, 118, 119, 120, 121, 122] : Str)).length : Int)) ∧ (((0 : Int) ≤ i_2 - 1 ∧ i_2 - 1 < 65) ∧ (((0 : Int) ≤ IntKind.u64.wrap r_2) ∧ (K_1 (u_1.fdiv (2 ^ (min (IntKind.u64.wrap r_2).toNat IntKind.u64.bits))) (setB a_0_2 (i_2 - 1) ((gi ([48, 49, 50, 51, 52, 53, 54, 55, 56, 57, 97, 98, 99, 100, 101, 102, 103, 104, 105, 106, 107, 108, 109, 110, 111, 112, 113, 114, 115, 116, 117, 118, 119, 120, 121, 122] : Str) (bits .and .u64 u_1 (IntKind.u64.wrap ((IntKind.u64.wrap base) - 1)))).toNat : Int)) (i_2 - 1)))))) ∧ (¬ ((IntKind.u64.wrap base) ≤ u_1) → (I64 (i_2 - 1)) ∧ (((0 : Int) ≤ u_1 ∧ u_1 < ((([48, 49, 50, 51, 52, 53, 54, 55, 56, 57, 97, 98, 99, 100, 101, 102, 103, 104, 105, 106, 107, 108, 109, 110, 111, 112, 113, 114, 115, 116, 117, 118, 119, 120, 121, 122] : Str)).length : Int)) ∧ (((0 : Int) ≤ i_2 - 1 ∧ i_2 - 1 < 65) ∧ (internal_strconv_formatBits_j2 Q (setB a_0_2 (i_2 - 1) ((gi ([48, 49, 50, 51, 52, 53, 54, 55, 56, 57, 97, 98, 99, 100, 101, 102, 103, 104, 105, 106, 107, 108, 109, 110, 111, 112, 113, 114, 115, 116, 117, 118, 119, 120, 121, 122] : Str) u_1).toNat : Int)) (i_2 - 1)))))
def internal_strconv_formatBits_l2 (base : Int) (Q : (List UInt8) → Str → Prop) (K_2 : Int → (Ba 65) → Int → Prop) (u_2 : Int) (a_0_3 : Ba 65) (i_3 : Int) : Prop :=
  ((IntKind.u64.wrap base) ≤ u_2 → (I64 (i_3 - 1)) ∧ ((IntKind.u64.wrap base ≠ 0) ∧ (((0 : Int) ≤ IntKind.u64.wrap (u_2 - (IntKind.u64.wrap ((IntKind.u64.wrap (u_2.tdiv (IntKind.u64.wrap base))) * (IntKind.u64.wrap base)))) ∧ IntKind.u64.wrap (u_2 - (IntKind.u64.wrap ((IntKind.u64.wrap (u_2.tdiv (IntKind.u64.wrap base))) * (IntKind.u64.wrap base)))) < ((([48, 49, 50, 51, 52, 53, 54, 55, 56, 57, 97, 98, 99, 100, 101, 102, 103, 104, 105, 106, 107, 108, 109, 110, 111, 112, 113, 114, 115, 116, 117, 118, 119, 120, 121, 122] : Str)).length : Int)) ∧ (((0 : Int) ≤ i_3 - 1 ∧ i_3 - 1 < 65) ∧ (K_2 (IntKind.u64.wrap (u_2.tdiv (IntKind.u64.wrap base))) (setB a_0_3 (i_3 - 1) ((gi ([48, 49, 50, 51, 52, 53, 54, 55, 56, 57, 97, 98, 99, 100, 101, 102, 103, 104, 105, 106, 107, 108, 109, 110, 111, 112, 113, 114, 115, 116, 117, 118, 119, 120, 121, 122] : Str) (IntKind.u64.wrap (u_2 - (IntKind.u64.wrap ((IntKind.u64.wrap (u_2.tdiv (IntKind.u64.wrap base))) * (IntKind.u64.wrap base)))))).toNat : Int)) (i_3 - 1)))))) ∧ (¬ ((IntKind.u64.wrap base) ≤ u_2) → (I64 (i_3 - 1)) ∧ (((0 : Int) ≤ u_2 ∧ u_2 < ((([48, 49, 50, 51, 52, 53, 54, 55, 56, 57, 97, 98, 99, 100, 101, 102, 103, 104, 105, 106, 107, 108, 109, 110, 111, 112, 113, 114, 115, 116, 117, 118, 119, 120, 121, 122] : Str)).length : Int)) ∧ (((0 : Int) ≤ i_3 - 1 ∧ i_3 - 1 < 65) ∧ (internal_strconv_formatBits_j2 Q (setB a_0_3 (i_3 - 1) ((gi ([48, 49, 50, 51, 52, 53, 54, 55, 56, 57, 97, 98, 99, 100, 101, 102, 103, 104, 105, 106, 107, 108, 109, 110, 111, 112, 113, 114, 115, 116, 117, 118, 119, 120, 121, 122] : Str) u_2).toNat : Int)) (i_3 - 1)))))
def internal_strconv_formatBits_j1 (u : Int) (base : Int) (Q : (List UInt8) → Str → Prop) (b_1 : Bool) : Prop :=
  (b_1 = true → False) ∧ (b_1 = false → internal_strconv_isPowerOfTwo_W base (fun r_1 => (r_1 = true → math_bits_TrailingZeros_W (IntKind.u64.wrap base) (fun r_2 => loopW (fun (K_1 : (Int × Ba 65 × Int) → Prop) (s : Int × Ba 65 × Int) => internal_strconv_formatBits_l1 base Q r_2 (fun u_1 a_0_2 i_2 => K_1 (u_1, a_0_2, i_2)) s.1 s.2.1 s.2.2) (u, (default : Ba 65), 65))) ∧ (r_1 = false → loopW (fun (K_2 : (Int × Ba 65 × Int) → Prop) (s : Int × Ba 65 × Int) => internal_strconv_formatBits_l2 base Q (fun u_2 a_0_3 i_3 => K_2 (u_2, a_0_3, i_3)) s.1 s.2.1 s.2.2) (u, (default : Ba 65), 65))))
def internal_strconv_formatBits_W (u : Int) (base : Int) (Q : (List UInt8) → Str → Prop) : Prop :=
  (base < 2 → internal_strconv_formatBits_j1 u base Q true) ∧ (¬ (base < 2) → (base = 10 → internal_strconv_formatBits_j1 u base Q true) ∧ (¬ (base = 10) → internal_strconv_formatBits_j1 u base Q (decide (36 < base))))
set_option maxHeartbeats 40000000 in
set_option maxRecDepth 100000 in
theorem internal_strconv_formatBits_walk {F : Fz} {fr : List Ow} {h0 : Heap} (u : Int) (base : Int) (hS : St F (fr) h0) (hG_7 : RoF (Ow.box 7 164 (arrCells tab64).toArray) F h0) {Q : (List UInt8) → Str → Prop} (hM : internal_strconv_formatBits_W u base Q) :
    HC Tryz.prog 136 #[.slice none 0 0, .int .u64 u, .int .i64 base, .bool false, .bool false] h0 fun u h' => ∃ (F' : Fz) (r0_1 : List UInt8) (r1_1 : Str) (vr0_1 : Value), u = .tuple #[vr0_1, .string (bs r1_1)] ∧ Kp F h0 F' h' ∧ St F' (Ow.own 5 1 enc8 vr0_1 r0_1 :: fr) h' ∧ (RoF (Ow.box 7 164 (arrCells tab64).toArray) F' h') ∧ Q r0_1 r1_1 := by
  unfold internal_strconv_formatBits_W at hM
  have hK := Kp.refl F h0
  refine HC.of_HW (n := 102) Tryz.func136 rfl rfl (Nat.le_of_ble_eq_true rfl) ?_
  refine HW.seq ?_
  refine HW.region ?_
  refine HO.val (v := .slice none 0 0) (want_none) rfl (q_assign rfl) ?_
  refine HO.val (v := .string (bs [])) (want_none) rfl (q_assign rfl) ?_
  refine HO.nil (thenQ_normal (?_))
  refine HW.seq ?_
  refine HW.seq_mid (fun f h => ∃ (F' : Fz) (b_1 : Bool), f 0 = .slice none 0 0 ∧ f 1 = .int .u64 u ∧ f 2 = .int .i64 base ∧ f 3 = .bool false ∧ f 4 = .bool false ∧ f 10 = .slice none 0 0 ∧ f 11 = .string (bs []) ∧ f 28 = .bool b_1 ∧ Kp F h0 F' h ∧ St F' (fr) h ∧ (RoF (Ow.box 7 164 (arrCells tab64).toArray) F' h) ∧ internal_strconv_formatBits_j1 u base Q b_1) ?_ ?_
  · refine HW.region ?_
    refine HO.val (v := .int .i64 base) (want_none) rfl (q_move rfl) ?_
    refine HO.val (v := .bool (decide (base < 2))) (want_none) rfl (q_lss rfl rfl) ?_
    refine HO.val (v := .bool (decide (base < 2))) (want_none) rfl (q_move rfl) ?_
    rcases Bool.eq_false_or_eq_true (decide (base < 2)) with c_1 | c_1
    · replace hM := hM.1 (of_decide_eq_true c_1)
      refine HO.past (past_by rfl rfl c_1) rfl ?_
      refine HO.past (past_by rfl rfl c_1) rfl ?_
      refine HO.val (v := .bool true) (want_none) rfl (q_pickK true rfl c_1 rfl) ?_
      refine HO.val (v := .bool true) (want_none) rfl (q_move rfl) ?_
      refine HO.past (past_some rfl rfl) rfl ?_
      refine HO.past (past_some rfl rfl) rfl ?_
      refine HO.val (v := .bool true) (want_none) rfl (q_pick rfl rfl) ?_
      refine HO.nil (thenQ_normal (?_))
      exact ⟨F, true, rfl, rfl, rfl, rfl, rfl, rfl, rfl, rfl, hK, hS, hG_7, hM⟩
    · replace hM := hM.2 (of_decide_eq_false c_1)
      refine HO.val (v := .int .i64 base) (want_by rfl rfl c_1) rfl (q_move rfl) ?_
      refine HO.val (v := .bool (decide (base = 10))) (want_by rfl rfl c_1) rfl (q_eql rfl rfl) ?_
      refine HO.val (v := .bool (decide (base = 10))) (want_none) rfl (q_pickK false rfl c_1 rfl) ?_
      refine HO.val (v := .bool (decide (base = 10))) (want_none) rfl (q_move rfl) ?_
      rcases Bool.eq_false_or_eq_true (decide (base = 10)) with c_2 | c_2
      · replace hM := hM.1 (of_decide_eq_true c_2)
        refine HO.past (past_by rfl rfl c_2) rfl ?_
        refine HO.past (past_by rfl rfl c_2) rfl ?_
        refine HO.val (v := .bool true) (want_none) rfl (q_pickK true rfl c_2 rfl) ?_
        refine HO.nil (thenQ_normal (?_))
        exact ⟨F, true, rfl, rfl, rfl, rfl, rfl, rfl, rfl, rfl, hK, hS, hG_7, hM⟩
      · replace hM := hM.2 (of_decide_eq_false c_2)
        refine HO.val (v := .int .i64 base) (want_by rfl rfl c_2) rfl (q_move rfl) ?_
        refine HO.val (v := .bool (decide (36 < base))) (want_by rfl rfl c_2) rfl (q_gtr rfl rfl) ?_
        refine HO.val (v := .bool (decide (36 < base))) (want_none) rfl (q_pickK false rfl c_2 rfl) ?_
        refine HO.nil (thenQ_normal (?_))
        exact ⟨F, decide (36 < base), rfl, rfl, rfl, rfl, rfl, rfl, rfl, rfl, hK, hS, hG_7, hM⟩
  · rintro f_1 h_1 ⟨F_1, b_1, e0, e1, e2, e3, e4, e10, e11, e28, hK, hS, hG_7, hM⟩
    unfold internal_strconv_formatBits_j1 at hM
    refine HW.fr [(0, .slice none 0 0), (1, .int .u64 u), (2, .int .i64 base), (3, .bool false), (4, .bool false), (10, .slice none 0 0), (11, .string (bs [])), (28, .bool b_1)] ⟨e0, e1, e2, e3, e4, e10, e11, e28, trivial⟩ ?_
    refine HW.cond b_1 rfl (fun c_3 => ?_) (fun c_3 => ?_)
    · replace hM := hM.1 c_3
      refine HW.region ?_
      refine HO.val (v := .iface 9 (.string (bs [115, 116, 114, 99, 111, 110, 118, 58, 32, 105, 108, 108, 101, 103, 97, 108, 32, 65, 112, 112, 101, 110, 100, 73, 110, 116, 47, 70, 111, 114, 109, 97, 116, 73, 110, 116, 32, 98, 97, 115, 101]))) (want_none) rfl (q_mkIfaceS Tryz.underlying9 rfl) ?_
      exact hM.elim
    · replace hM := hM.2 c_3
      refine HW.skip (thenQ_normal (?_))
      refine HW.seq ?_
      refine HW.region ?_
      refine HO.eff (want_none) rfl (st_alloc (c := (arrCells (default : Ba 65)).toArray) hS tz_161 rfl) ?_
      rintro _ h_2 ⟨b_2, rfl, hS, hk⟩
      replace hK := hK.trans hk
      replace hG_7 := hG_7.kp hk
      refine HO.nil (thenQ_normal (?_))
      refine HW.seq ?_
      refine HW.region ?_
      refine HO.val (v := .int .i64 65) (want_none) rfl (q_assign rfl) ?_
      refine HO.nil (thenQ_normal (?_))
      refine HW.seq ?_
      refine HW.seq ?_
      refine HW.region ?_
      refine HO.val (v := .bool false) (want_none) rfl (q_move rfl) ?_
      refine HO.nil (thenQ_normal (?_))
      refine HW.condF rfl ?_
      refine HW.skip (thenQ_normal (?_))
      refine HW.seq_mid (fun f h => ∃ (F' : Fz) (a_0_1 : Ba 65) (i_1 : Int), f 0 = .slice none 0 0 ∧ f 3 = .bool false ∧ f 4 = .bool false ∧ f 10 = .slice none 0 0 ∧ f 11 = .string (bs []) ∧ f 12 = .pointer (some ⟨b_2, 0, none⟩) ∧ f 13 = .int .i64 i_1 ∧ Kp F h0 F' h ∧ St F' (Ow.box b_2 161 (arrCells a_0_1).toArray :: fr) h ∧ (RoF (Ow.box 7 164 (arrCells tab64).toArray) F' h) ∧ internal_strconv_formatBits_j2 Q a_0_1 i_1) ?_ ?_
      · refine HW.seq ?_
        refine HW.region ?_
        refine HO.val (v := .int .i64 base) (want_none) rfl (q_move rfl) ?_
        refine HO.call (want_none) rfl (ec en_140 rfl rfl) (internal_strconv_isPowerOfTwo_walk (fr := (Ow.box b_2 161 (arrCells (default : Ba 65)).toArray :: fr)) base hS hM) ?_
        rintro _ h_3 ⟨F_2, r_1, rfl, hk, hS, hM⟩
        replace hK := hK.trans hk
        replace hG_7 := hG_7.kp hk
        refine HO.nil (thenQ_normal (?_))
        refine HW.cond r_1 rfl (fun c_4 => ?_) (fun c_4 => ?_)
        · replace hM := hM.1 c_4
          refine HW.seq ?_
          refine HW.region ?_
          refine HO.val (v := .int .i64 base) (want_none) rfl (q_move rfl) ?_
          refine HO.val (v := .int .u64 (IntKind.u64.wrap base)) (want_none) rfl (q_convInt (n := base) Tryz.underlying3 Tryz.underlying96 rfl rfl) ?_
          refine HO.call (want_none) rfl (ec en_141 rfl rfl) (math_bits_TrailingZeros_walk (fr := (Ow.box b_2 161 (arrCells (default : Ba 65)).toArray :: fr)) (IntKind.u64.wrap base) hS hG_7 hM) ?_
          rintro _ h_4 ⟨F_3, r_2, rfl, hk, hS, _, hM⟩
          replace hK := hK.trans hk
          replace hG_7 := hG_7.kp hk
          refine HO.val (v := .int .u64 (IntKind.u64.wrap r_2)) (want_none) rfl (q_convInt (n := r_2) Tryz.underlying3 Tryz.underlying96 rfl rfl) ?_
          refine HO.val (v := .int .u64 (IntKind.u64.wrap r_2)) (want_none) rfl (q_assign rfl) ?_
          refine HO.nil (thenQ_normal (?_))
          refine HW.seq ?_
          refine HW.region ?_
          refine HO.val (v := .int .i64 base) (want_none) rfl (q_move rfl) ?_
          refine HO.val (v := .int .u64 (IntKind.u64.wrap base)) (want_none) rfl (q_convInt (n := base) Tryz.underlying3 Tryz.underlying73 rfl rfl) ?_
          refine HO.val (v := .int .u64 (IntKind.u64.wrap base)) (want_none) rfl (q_assign rfl) ?_
          refine HO.nil (thenQ_normal (?_))
          refine HW.seq ?_
          refine HW.region ?_
          refine HO.val (v := .int .i64 base) (want_none) rfl (q_move rfl) ?_
          refine HO.val (v := .int .u64 (IntKind.u64.wrap base)) (want_none) rfl (q_convInt (n := base) Tryz.underlying3 Tryz.underlying96 rfl rfl) ?_
          refine HO.val (v := .int .u64 (IntKind.u64.wrap ((IntKind.u64.wrap base) - 1))) (want_none) rfl (q_sub rfl rfl) ?_
          refine HO.val (v := .int .u64 (IntKind.u64.wrap ((IntKind.u64.wrap base) - 1))) (want_none) rfl (q_assign rfl) ?_
          refine HO.nil (thenQ_normal (?_))
          refine HW.seq ?_
          refine HW.block ?_
          obtain ⟨I_1, m_1, hI_1, hR_1⟩ := hM
          refine HW.loop (S := Int × Ba 65 × Int) (fun s f h => match s with | (u_1, a_0_2, i_2) => ∃ (F' : Fz), f 0 = .slice none 0 0 ∧ f 1 = .int .u64 u_1 ∧ f 3 = .bool false ∧ f 4 = .bool false ∧ f 10 = .slice none 0 0 ∧ f 11 = .string (bs []) ∧ f 12 = .pointer (some ⟨b_2, 0, none⟩) ∧ f 13 = .int .i64 i_2 ∧ f 14 = .int .u64 (IntKind.u64.wrap r_2) ∧ f 15 = .int .u64 (IntKind.u64.wrap base) ∧ f 16 = .int .u64 (IntKind.u64.wrap ((IntKind.u64.wrap base) - 1)) ∧ Kp F h0 F' h ∧ St F' (Ow.box b_2 161 (arrCells a_0_2).toArray :: fr) h ∧ (RoF (Ow.box 7 164 (arrCells tab64).toArray) F' h) ∧ I_1 (u_1, a_0_2, i_2)) m_1 (u, (default : Ba 65), 65) ⟨F_3, rfl, rfl, rfl, rfl, rfl, rfl, rfl, rfl, rfl, rfl, rfl, hK, hS, hG_7, hI_1⟩ ?_
          rintro ⟨u_1, a_0_2, i_2⟩ f_2 h_5 ⟨F_4, e0, e1, e3, e4, e10, e11, e12, e13, e14, e15, e16, hK, hS, hG_7, hI0⟩
          obtain ⟨K_1, hKe_1⟩ : ∃ K : Int → (Ba 65) → Int → Prop, K = fun u_1' a_0_2' i_2' => I_1 (u_1', a_0_2', i_2') ∧ m_1 (u_1', a_0_2', i_2') < m_1 (u_1, a_0_2, i_2) := ⟨_, rfl⟩
          have hM : internal_strconv_formatBits_l1 base Q r_2 K_1 u_1 a_0_2 i_2 := by rw [hKe_1]; exact hR_1 (u_1, a_0_2, i_2) hI0
          unfold internal_strconv_formatBits_l1 at hM
          refine HW.fr [(0, .slice none 0 0), (1, .int .u64 u_1), (3, .bool false), (4, .bool false), (10, .slice none 0 0), (11, .string (bs [])), (12, .pointer (some ⟨b_2, 0, none⟩)), (13, .int .i64 i_2), (14, .int .u64 (IntKind.u64.wrap r_2)), (15, .int .u64 (IntKind.u64.wrap base)), (16, .int .u64 (IntKind.u64.wrap ((IntKind.u64.wrap base) - 1)))] ⟨e0, e1, e3, e4, e10, e11, e12, e13, e14, e15, e16, trivial⟩ ?_
          refine HW.seq ?_
          refine HW.seq ?_
          refine HW.region ?_
          refine HO.val (v := .int .u64 u_1) (want_none) rfl (q_move rfl) ?_
          refine HO.val (v := .int .u64 (IntKind.u64.wrap base)) (want_none) rfl (q_move rfl) ?_
          refine HO.val (v := .bool (decide ((IntKind.u64.wrap base) ≤ u_1))) (want_none) rfl (q_geq rfl rfl) ?_
          refine HO.nil (thenQ_normal (?_))
          refine HW.cond (decide ((IntKind.u64.wrap base) ≤ u_1)) rfl (fun c_5 => ?_) (fun c_5 => ?_)
          · replace hM := hM.1 (of_decide_eq_true c_5)
            refine HW.skip (thenQ_normal (?_))
            refine HW.block ?_
            refine HW.seq ?_
            refine HW.region ?_
            refine HO.val (v := .int .i64 i_2) (want_none) rfl (q_move rfl) ?_
            obtain ⟨ho_1, hM⟩ := hM
            refine HO.val (v := .int .i64 (i_2 - 1)) (want_none) rfl (q_subN _ rfl rfl rfl ho_1.1 ho_1.2) ?_
            refine HO.val (v := .int .i64 (i_2 - 1)) (want_none) rfl (q_assign rfl) ?_
            refine HO.nil (thenQ_normal (?_))
            refine HW.seq ?_
            refine HW.region ?_
            refine HO.val (v := .int .i64 (i_2 - 1)) (want_none) rfl (q_move rfl) ?_
            refine HO.val (v := .int .u64 u_1) (want_none) rfl (q_move rfl) ?_
            refine HO.val (v := .int .u64 (IntKind.u64.wrap ((IntKind.u64.wrap base) - 1))) (want_none) rfl (q_move rfl) ?_
            refine HO.val (v := .int .u64 (bits .and .u64 u_1 (IntKind.u64.wrap ((IntKind.u64.wrap base) - 1)))) (want_none) rfl (q_bits (by simp) rfl rfl) ?_
            obtain ⟨ho_2, hM⟩ := hM
            refine HO.val (v := .int .u8 ((gi ([48, 49, 50, 51, 52, 53, 54, 55, 56, 57, 97, 98, 99, 100, 101, 102, 103, 104, 105, 106, 107, 108, 109, 110, 111, 112, 113, 114, 115, 116, 117, 118, 119, 120, 121, 122] : Str) (bits .and .u64 u_1 (IntKind.u64.wrap ((IntKind.u64.wrap base) - 1)))).toNat : Int)) (want_none) rfl (q_idxT Tryz.underlying9 rfl rfl ho_2) ?_
            obtain ⟨ho_3, hM⟩ := hM
            refine HO.val (v := .pointer (some ⟨b_2, 0 + (i_2 - 1).toNat, none⟩)) (want_none) rfl (q_idxA (o := 0) (t := i_2 - 1) tr_161 rfl rfl ho_3) ?_
            refine HO.sto (want_none) rfl (st_storeSeg (n := 65) (o := 0) (X := a_0_2) (t := i_2 - 1) (u := ((gi ([48, 49, 50, 51, 52, 53, 54, 55, 56, 57, 97, 98, 99, 100, 101, 102, 103, 104, 105, 106, 107, 108, 109, 110, 111, 112, 113, 114, 115, 116, 117, 118, 119, 120, 121, 122] : Str) (bits .and .u64 u_1 (IntKind.u64.wrap ((IntKind.u64.wrap base) - 1)))).toNat : Int)) (c' := (arrCells (setB a_0_2 (i_2 - 1) ((gi ([48, 49, 50, 51, 52, 53, 54, 55, 56, 57, 97, 98, 99, 100, 101, 102, 103, 104, 105, 106, 107, 108, 109, 110, 111, 112, 113, 114, 115, 116, 117, 118, 119, 120, 121, 122] : Str) (bits .and .u64 u_1 (IntKind.u64.wrap ((IntKind.u64.wrap base) - 1)))).toNat : Int))).toArray) hS (i := 0) rfl to_5 rfl rfl ho_3 (u8_rng _) rfl rfl) ?_
            rintro h_6 ⟨hS, hk⟩
            replace hS : St F_4 (Ow.box b_2 161 (arrCells (setB a_0_2 (i_2 - 1) ((gi ([48, 49, 50, 51, 52, 53, 54, 55, 56, 57, 97, 98, 99, 100, 101, 102, 103, 104, 105, 106, 107, 108, 109, 110, 111, 112, 113, 114, 115, 116, 117, 118, 119, 120, 121, 122] : Str) (bits .and .u64 u_1 (IntKind.u64.wrap ((IntKind.u64.wrap base) - 1)))).toNat : Int))).toArray :: fr) h_6 := hS
            replace hK := hK.trans hk
            replace hG_7 := hG_7.kp hk
            refine HO.nil (thenQ_normal (?_))
            refine HW.region ?_
            refine HO.val (v := .int .u64 u_1) (want_none) rfl (q_move rfl) ?_
            refine HO.val (v := .int .u64 (IntKind.u64.wrap r_2)) (want_none) rfl (q_move rfl) ?_
            obtain ⟨ho_4, hM⟩ := hM
            refine HO.val (v := .int .u64 (u_1.fdiv (2 ^ (min (IntKind.u64.wrap r_2).toNat IntKind.u64.bits)))) (want_none) rfl (q_shr rfl rfl ho_4 rfl) ?_
            refine HO.val (v := .int .u64 (u_1.fdiv (2 ^ (min (IntKind.u64.wrap r_2).toNat IntKind.u64.bits)))) (want_none) rfl (q_assign rfl) ?_
            refine HO.nil (blockQ_normal (thenQ_normal (?_)))
            rw [hKe_1] at hM
            exact ⟨(u_1.fdiv (2 ^ (min (IntKind.u64.wrap r_2).toNat IntKind.u64.bits)), (setB a_0_2 (i_2 - 1) ((gi ([48, 49, 50, 51, 52, 53, 54, 55, 56, 57, 97, 98, 99, 100, 101, 102, 103, 104, 105, 106, 107, 108, 109, 110, 111, 112, 113, 114, 115, 116, 117, 118, 119, 120, 121, 122] : Str) (bits .and .u64 u_1 (IntKind.u64.wrap ((IntKind.u64.wrap base) - 1)))).toNat : Int)), i_2 - 1), ⟨F_4, rfl, rfl, rfl, rfl, rfl, rfl, rfl, rfl, rfl, rfl, rfl, hK, hS, hG_7, hM.1⟩, hM.2⟩
          · replace hM := hM.2 (of_decide_eq_false c_5)
            refine HW.exit (thenQ_exit (thenQ_exit (blockQ_exit (thenQ_normal (?_)))))
            refine HW.seq ?_
            refine HW.region ?_
            refine HO.val (v := .int .i64 i_2) (want_none) rfl (q_move rfl) ?_
            obtain ⟨ho_5, hM⟩ := hM
            refine HO.val (v := .int .i64 (i_2 - 1)) (want_none) rfl (q_subN _ rfl rfl rfl ho_5.1 ho_5.2) ?_
            refine HO.val (v := .int .i64 (i_2 - 1)) (want_none) rfl (q_assign rfl) ?_
            refine HO.nil (thenQ_normal (?_))
            refine HW.region ?_
            refine HO.val (v := .int .i64 (i_2 - 1)) (want_none) rfl (q_move rfl) ?_
            refine HO.val (v := .int .u64 u_1) (want_none) rfl (q_move rfl) ?_
            obtain ⟨ho_6, hM⟩ := hM
            refine HO.val (v := .int .u8 ((gi ([48, 49, 50, 51, 52, 53, 54, 55, 56, 57, 97, 98, 99, 100, 101, 102, 103, 104, 105, 106, 107, 108, 109, 110, 111, 112, 113, 114, 115, 116, 117, 118, 119, 120, 121, 122] : Str) u_1).toNat : Int)) (want_none) rfl (q_idxT Tryz.underlying9 rfl rfl ho_6) ?_
            obtain ⟨ho_7, hM⟩ := hM
            refine HO.val (v := .pointer (some ⟨b_2, 0 + (i_2 - 1).toNat, none⟩)) (want_none) rfl (q_idxA (o := 0) (t := i_2 - 1) tr_161 rfl rfl ho_7) ?_
            refine HO.sto (want_none) rfl (st_storeSeg (n := 65) (o := 0) (X := a_0_2) (t := i_2 - 1) (u := ((gi ([48, 49, 50, 51, 52, 53, 54, 55, 56, 57, 97, 98, 99, 100, 101, 102, 103, 104, 105, 106, 107, 108, 109, 110, 111, 112, 113, 114, 115, 116, 117, 118, 119, 120, 121, 122] : Str) u_1).toNat : Int)) (c' := (arrCells (setB a_0_2 (i_2 - 1) ((gi ([48, 49, 50, 51, 52, 53, 54, 55, 56, 57, 97, 98, 99, 100, 101, 102, 103, 104, 105, 106, 107, 108, 109, 110, 111, 112, 113, 114, 115, 116, 117, 118, 119, 120, 121, 122] : Str) u_1).toNat : Int))).toArray) hS (i := 0) rfl to_5 rfl rfl ho_7 (u8_rng _) rfl rfl) ?_
            rintro h_7 ⟨hS, hk⟩
            replace hS : St F_4 (Ow.box b_2 161 (arrCells (setB a_0_2 (i_2 - 1) ((gi ([48, 49, 50, 51, 52, 53, 54, 55, 56, 57, 97, 98, 99, 100, 101, 102, 103, 104, 105, 106, 107, 108, 109, 110, 111, 112, 113, 114, 115, 116, 117, 118, 119, 120, 121, 122] : Str) u_1).toNat : Int))).toArray :: fr) h_7 := hS
            replace hK := hK.trans hk
            replace hG_7 := hG_7.kp hk
            refine HO.nil (thenQ_normal (?_))
            exact ⟨F_4, (setB a_0_2 (i_2 - 1) ((gi ([48, 49, 50, 51, 52, 53, 54, 55, 56, 57, 97, 98, 99, 100, 101, 102, 103, 104, 105, 106, 107, 108, 109, 110, 111, 112, 113, 114, 115, 116, 117, 118, 119, 120, 121, 122] : Str) u_1).toNat : Int)), i_2 - 1, rfl, rfl, rfl, rfl, rfl, rfl, rfl, hK, hS, hG_7, hM⟩
        · replace hM := hM.2 c_4
          refine HW.seq ?_
          refine HW.region ?_
          refine HO.val (v := .int .i64 base) (want_none) rfl (q_move rfl) ?_
          refine HO.val (v := .int .u64 (IntKind.u64.wrap base)) (want_none) rfl (q_convInt (n := base) Tryz.underlying3 Tryz.underlying73 rfl rfl) ?_
          refine HO.val (v := .int .u64 (IntKind.u64.wrap base)) (want_none) rfl (q_assign rfl) ?_
          refine HO.nil (thenQ_normal (?_))
          refine HW.seq ?_
          refine HW.block ?_
          obtain ⟨I_2, m_2, hI_2, hR_2⟩ := hM
          refine HW.loop (S := Int × Ba 65 × Int) (fun s f h => match s with | (u_2, a_0_3, i_3) => ∃ (F' : Fz), f 0 = .slice none 0 0 ∧ f 1 = .int .u64 u_2 ∧ f 3 = .bool false ∧ f 4 = .bool false ∧ f 10 = .slice none 0 0 ∧ f 11 = .string (bs []) ∧ f 12 = .pointer (some ⟨b_2, 0, none⟩) ∧ f 13 = .int .i64 i_3 ∧ f 17 = .int .u64 (IntKind.u64.wrap base) ∧ Kp F h0 F' h ∧ St F' (Ow.box b_2 161 (arrCells a_0_3).toArray :: fr) h ∧ (RoF (Ow.box 7 164 (arrCells tab64).toArray) F' h) ∧ I_2 (u_2, a_0_3, i_3)) m_2 (u, (default : Ba 65), 65) ⟨F_2, rfl, rfl, rfl, rfl, rfl, rfl, rfl, rfl, rfl, hK, hS, hG_7, hI_2⟩ ?_
          rintro ⟨u_2, a_0_3, i_3⟩ f_3 h_8 ⟨F_5, e0, e1, e3, e4, e10, e11, e12, e13, e17, hK, hS, hG_7, hI0⟩
          obtain ⟨K_2, hKe_2⟩ : ∃ K : Int → (Ba 65) → Int → Prop, K = fun u_2' a_0_3' i_3' => I_2 (u_2', a_0_3', i_3') ∧ m_2 (u_2', a_0_3', i_3') < m_2 (u_2, a_0_3, i_3) := ⟨_, rfl⟩
          have hM : internal_strconv_formatBits_l2 base Q K_2 u_2 a_0_3 i_3 := by rw [hKe_2]; exact hR_2 (u_2, a_0_3, i_3) hI0
          unfold internal_strconv_formatBits_l2 at hM
          refine HW.fr [(0, .slice none 0 0), (1, .int .u64 u_2), (3, .bool false), (4, .bool false), (10, .slice none 0 0), (11, .string (bs [])), (12, .pointer (some ⟨b_2, 0, none⟩)), (13, .int .i64 i_3), (17, .int .u64 (IntKind.u64.wrap base))] ⟨e0, e1, e3, e4, e10, e11, e12, e13, e17, trivial⟩ ?_
          refine HW.seq ?_
          refine HW.seq ?_
          refine HW.region ?_
          refine HO.val (v := .int .u64 u_2) (want_none) rfl (q_move rfl) ?_
          refine HO.val (v := .int .u64 (IntKind.u64.wrap base)) (want_none) rfl (q_move rfl) ?_
          refine HO.val (v := .bool (decide ((IntKind.u64.wrap base) ≤ u_2))) (want_none) rfl (q_geq rfl rfl) ?_
          refine HO.nil (thenQ_normal (?_))
          refine HW.cond (decide ((IntKind.u64.wrap base) ≤ u_2)) rfl (fun c_6 => ?_) (fun c_6 => ?_)
          · replace hM := hM.1 (of_decide_eq_true c_6)
            refine HW.skip (thenQ_normal (?_))
            refine HW.block ?_
            refine HW.seq ?_
            refine HW.region ?_
            refine HO.val (v := .int .i64 i_3) (want_none) rfl (q_move rfl) ?_
            obtain ⟨ho_8, hM⟩ := hM
            refine HO.val (v := .int .i64 (i_3 - 1)) (want_none) rfl (q_subN _ rfl rfl rfl ho_8.1 ho_8.2) ?_
            refine HO.val (v := .int .i64 (i_3 - 1)) (want_none) rfl (q_assign rfl) ?_
            refine HO.nil (thenQ_normal (?_))
            refine HW.seq ?_
            refine HW.region ?_
            refine HO.val (v := .int .u64 u_2) (want_none) rfl (q_move rfl) ?_
            refine HO.val (v := .int .u64 (IntKind.u64.wrap base)) (want_none) rfl (q_move rfl) ?_
            obtain ⟨ho_9, hM⟩ := hM
            refine HO.val (v := .int .u64 (IntKind.u64.wrap (u_2.tdiv (IntKind.u64.wrap base)))) (want_none) rfl (q_quo rfl rfl ho_9) ?_
            refine HO.val (v := .int .u64 (IntKind.u64.wrap (u_2.tdiv (IntKind.u64.wrap base)))) (want_none) rfl (q_assign rfl) ?_
            refine HO.nil (thenQ_normal (?_))
            refine HW.seq ?_
            refine HW.region ?_
            refine HO.val (v := .int .i64 (i_3 - 1)) (want_none) rfl (q_move rfl) ?_
            refine HO.val (v := .int .u64 u_2) (want_none) rfl (q_move rfl) ?_
            refine HO.val (v := .int .u64 (IntKind.u64.wrap (u_2.tdiv (IntKind.u64.wrap base)))) (want_none) rfl (q_move rfl) ?_
            refine HO.val (v := .int .u64 (IntKind.u64.wrap base)) (want_none) rfl (q_move rfl) ?_
            refine HO.val (v := .int .u64 (IntKind.u64.wrap ((IntKind.u64.wrap (u_2.tdiv (IntKind.u64.wrap base))) * (IntKind.u64.wrap base)))) (want_none) rfl (q_mul rfl rfl) ?_
            refine HO.val (v := .int .u64 (IntKind.u64.wrap (u_2 - (IntKind.u64.wrap ((IntKind.u64.wrap (u_2.tdiv (IntKind.u64.wrap base))) * (IntKind.u64.wrap base)))))) (want_none) rfl (q_sub rfl rfl) ?_
            obtain ⟨ho_10, hM⟩ := hM
            refine HO.val (v := .int .u8 ((gi ([48, 49, 50, 51, 52, 53, 54, 55, 56, 57, 97, 98, 99, 100, 101, 102, 103, 104, 105, 106, 107, 108, 109, 110, 111, 112, 113, 114, 115, 116, 117, 118, 119, 120, 121, 122] : Str) (IntKind.u64.wrap (u_2 - (IntKind.u64.wrap ((IntKind.u64.wrap (u_2.tdiv (IntKind.u64.wrap base))) * (IntKind.u64.wrap base)))))).toNat : Int)) (want_none) rfl (q_idxT Tryz.underlying9 rfl rfl ho_10) ?_
            obtain ⟨ho_11, hM⟩ := hM
            refine HO.val (v := .pointer (some ⟨b_2, 0 + (i_3 - 1).toNat, none⟩)) (want_none) rfl (q_idxA (o := 0) (t := i_3 - 1) tr_161 rfl rfl ho_11) ?_
            refine HO.sto (want_none) rfl (st_storeSeg (n := 65) (o := 0) (X := a_0_3) (t := i_3 - 1) (u := ((gi ([48, 49, 50, 51, 52, 53, 54, 55, 56, 57, 97, 98, 99, 100, 101, 102, 103, 104, 105, 106, 107, 108, 109, 110, 111, 112, 113, 114, 115, 116, 117, 118, 119, 120, 121, 122] : Str) (IntKind.u64.wrap (u_2 - (IntKind.u64.wrap ((IntKind.u64.wrap (u_2.tdiv (IntKind.u64.wrap base))) * (IntKind.u64.wrap base)))))).toNat : Int)) (c' := (arrCells (setB a_0_3 (i_3 - 1) ((gi ([48, 49, 50, 51, 52, 53, 54, 55, 56, 57, 97, 98, 99, 100, 101, 102, 103, 104, 105, 106, 107, 108, 109, 110, 111, 112, 113, 114, 115, 116, 117, 118, 119, 120, 121, 122] : Str) (IntKind.u64.wrap (u_2 - (IntKind.u64.wrap ((IntKind.u64.wrap (u_2.tdiv (IntKind.u64.wrap base))) * (IntKind.u64.wrap base)))))).toNat : Int))).toArray) hS (i := 0) rfl to_5 rfl rfl ho_11 (u8_rng _) rfl rfl) ?_
            rintro h_9 ⟨hS, hk⟩
            replace hS : St F_5 (Ow.box b_2 161 (arrCells (setB a_0_3 (i_3 - 1) ((gi ([48, 49, 50, 51, 52, 53, 54, 55, 56, 57, 97, 98, 99, 100, 101, 102, 103, 104, 105, 106, 107, 108, 109, 110, 111, 112, 113, 114, 115, 116, 117, 118, 119, 120, 121, 122] : Str) (IntKind.u64.wrap (u_2 - (IntKind.u64.wrap ((IntKind.u64.wrap (u_2.tdiv (IntKind.u64.wrap base))) * (IntKind.u64.wrap base)))))).toNat : Int))).toArray :: fr) h_9 := hS
            replace hK := hK.trans hk
            replace hG_7 := hG_7.kp hk
            refine HO.nil (thenQ_normal (?_))
            refine HW.region ?_
            refine HO.val (v := .int .u64 (IntKind.u64.wrap (u_2.tdiv (IntKind.u64.wrap base)))) (want_none) rfl (q_move rfl) ?_
            refine HO.val (v := .int .u64 (IntKind.u64.wrap (u_2.tdiv (IntKind.u64.wrap base)))) (want_none) rfl (q_assign rfl) ?_
            refine HO.nil (blockQ_normal (thenQ_normal (?_)))
            rw [hKe_2] at hM
            exact ⟨(IntKind.u64.wrap (u_2.tdiv (IntKind.u64.wrap base)), (setB a_0_3 (i_3 - 1) ((gi ([48, 49, 50, 51, 52, 53, 54, 55, 56, 57, 97, 98, 99, 100, 101, 102, 103, 104, 105, 106, 107, 108, 109, 110, 111, 112, 113, 114, 115, 116, 117, 118, 119, 120, 121, 122] : Str) (IntKind.u64.wrap (u_2 - (IntKind.u64.wrap ((IntKind.u64.wrap (u_2.tdiv (IntKind.u64.wrap base))) * (IntKind.u64.wrap base)))))).toNat : Int)), i_3 - 1), ⟨F_5, rfl, rfl, rfl, rfl, rfl, rfl, rfl, rfl, rfl, hK, hS, hG_7, hM.1⟩, hM.2⟩
          · replace hM := hM.2 (of_decide_eq_false c_6)
            refine HW.exit (thenQ_exit (thenQ_exit (blockQ_exit (thenQ_normal (?_)))))
            refine HW.seq ?_
            refine HW.region ?_
            refine HO.val (v := .int .i64 i_3) (want_none) rfl (q_move rfl) ?_
            obtain ⟨ho_12, hM⟩ := hM
            refine HO.val (v := .int .i64 (i_3 - 1)) (want_none) rfl (q_subN _ rfl rfl rfl ho_12.1 ho_12.2) ?_
            refine HO.val (v := .int .i64 (i_3 - 1)) (want_none) rfl (q_assign rfl) ?_
            refine HO.nil (thenQ_normal (?_))
            refine HW.region ?_
            refine HO.val (v := .int .i64 (i_3 - 1)) (want_none) rfl (q_move rfl) ?_
            refine HO.val (v := .int .u64 u_2) (want_none) rfl (q_move rfl) ?_
            obtain ⟨ho_13, hM⟩ := hM
            refine HO.val (v := .int .u8 ((gi ([48, 49, 50, 51, 52, 53, 54, 55, 56, 57, 97, 98, 99, 100, 101, 102, 103, 104, 105, 106, 107, 108, 109, 110, 111, 112, 113, 114, 115, 116, 117, 118, 119, 120, 121, 122] : Str) u_2).toNat : Int)) (want_none) rfl (q_idxT Tryz.underlying9 rfl rfl ho_13) ?_
            obtain ⟨ho_14, hM⟩ := hM
            refine HO.val (v := .pointer (some ⟨b_2, 0 + (i_3 - 1).toNat, none⟩)) (want_none) rfl (q_idxA (o := 0) (t := i_3 - 1) tr_161 rfl rfl ho_14) ?_
            refine HO.sto (want_none) rfl (st_storeSeg (n := 65) (o := 0) (X := a_0_3) (t := i_3 - 1) (u := ((gi ([48, 49, 50, 51, 52, 53, 54, 55, 56, 57, 97, 98, 99, 100, 101, 102, 103, 104, 105, 106, 107, 108, 109, 110, 111, 112, 113, 114, 115, 116, 117, 118, 119, 120, 121, 122] : Str) u_2).toNat : Int)) (c' := (arrCells (setB a_0_3 (i_3 - 1) ((gi ([48, 49, 50, 51, 52, 53, 54, 55, 56, 57, 97, 98, 99, 100, 101, 102, 103, 104, 105, 106, 107, 108, 109, 110, 111, 112, 113, 114, 115, 116, 117, 118, 119, 120, 121, 122] : Str) u_2).toNat : Int))).toArray) hS (i := 0) rfl to_5 rfl rfl ho_14 (u8_rng _) rfl rfl) ?_
            rintro h_10 ⟨hS, hk⟩
            replace hS : St F_5 (Ow.box b_2 161 (arrCells (setB a_0_3 (i_3 - 1) ((gi ([48, 49, 50, 51, 52, 53, 54, 55, 56, 57, 97, 98, 99, 100, 101, 102, 103, 104, 105, 106, 107, 108, 109, 110, 111, 112, 113, 114, 115, 116, 117, 118, 119, 120, 121, 122] : Str) u_2).toNat : Int))).toArray :: fr) h_10 := hS
            replace hK := hK.trans hk
            replace hG_7 := hG_7.kp hk
            refine HO.nil (thenQ_normal (?_))
            exact ⟨F_5, (setB a_0_3 (i_3 - 1) ((gi ([48, 49, 50, 51, 52, 53, 54, 55, 56, 57, 97, 98, 99, 100, 101, 102, 103, 104, 105, 106, 107, 108, 109, 110, 111, 112, 113, 114, 115, 116, 117, 118, 119, 120, 121, 122] : Str) u_2).toNat : Int)), i_3 - 1, rfl, rfl, rfl, rfl, rfl, rfl, rfl, hK, hS, hG_7, hM⟩
      · rintro f_4 h_11 ⟨F_6, a_0_1, i_1, e0, e3, e4, e10, e11, e12, e13, hK, hS, hG_7, hM⟩
        unfold internal_strconv_formatBits_j2 at hM
        refine HW.fr [(0, .slice none 0 0), (3, .bool false), (4, .bool false), (10, .slice none 0 0), (11, .string (bs [])), (12, .pointer (some ⟨b_2, 0, none⟩)), (13, .int .i64 i_1)] ⟨e0, e3, e4, e10, e11, e12, e13, trivial⟩ ?_
        refine HW.seq ?_
        refine HW.seq ?_
        refine HW.region ?_
        refine HO.val (v := .bool false) (want_none) rfl (q_move rfl) ?_
        refine HO.nil (thenQ_normal (?_))
        refine HW.condF rfl ?_
        refine HW.skip (thenQ_normal (?_))
        refine HW.seq ?_
        refine HW.seq ?_
        refine HW.region ?_
        refine HO.val (v := .bool false) (want_none) rfl (q_move rfl) ?_
        refine HO.nil (thenQ_normal (?_))
        refine HW.condF rfl ?_
        refine HW.skip (thenQ_normal (?_))
        refine HW.seq ?_
        refine HW.region ?_
        refine HO.val (v := .int .i64 i_1) (want_none) rfl (q_move rfl) ?_
        obtain ⟨ho_15, hM⟩ := hM
        refine HO.val (v := arrV b_2 0 65 i_1 65) (want_none) rfl (q_sliceA (o := 0) (lo := i_1) (hi := 65) (kh := .i64) tr_161 rfl (.inr ⟨_, rfl, rfl⟩) (.inl ⟨rfl, rfl⟩) ho_15) ?_
        refine HO.val (v := .string (bs (cut a_0_1.1 i_1 65))) (want_none) rfl (q_bytesStr ts_79 Tryz.underlying5 Tryz.underlying9 (arrSl (o := 0) (n := 65) (X := a_0_1) (lo := i_1) (hi := 65) (hS.box 0 rfl) rfl ho_15 (by decide)) rfl) ?_
        refine HO.val (v := .string (bs (cut a_0_1.1 i_1 65))) (want_none) rfl (q_assign rfl) ?_
        refine HO.nil (thenQ_normal (?_))
        refine HW.ret (?_)
        refine ⟨.inr rfl, .tuple #[.slice none 0 0, .string (bs (cut a_0_1.1 i_1 65))], res2 rfl (rt rfl) (rt rfl), ?_⟩
        replace hS := hS.nilOwn 5 1 enc8
        replace hS : St F_6 (Ow.own 5 1 enc8 (.slice none 0 0) ([] : List UInt8) :: fr) h_11 := hS.perm2 [0] 2 rfl rfl
        exact ⟨F_6, [], cut a_0_1.1 i_1 65, .slice none 0 0, rfl, hK, hS, hG_7, hM⟩

def internal_strconv_FormatUint_W (i : Int) (base : Int) (Q : Str → Prop) : Prop :=
  (base = 10 → (i < 100 → (I64 i) ∧ (internal_strconv_small_W i (fun r_2 => Q r_2))) ∧ (¬ (i < 100) → False)) ∧ (¬ (base = 10) → internal_strconv_formatBits_W i base (fun r0_1 r1_1 => Q r1_1))
set_option maxHeartbeats 40000000 in
set_option maxRecDepth 100000 in
theorem internal_strconv_FormatUint_walk {F : Fz} {fr : List Ow} {h0 : Heap} (i : Int) (base : Int) (hS : St F (fr) h0) (hG_7 : RoF (Ow.box 7 164 (arrCells tab64).toArray) F h0) {Q : Str → Prop} (hM : internal_strconv_FormatUint_W i base Q) :
    HC Tryz.prog 121 #[.int .u64 i, .int .i64 base] h0 fun u h' => ∃ (F' : Fz) (r_1 : Str), u = .string (bs r_1) ∧ Kp F h0 F' h' ∧ St F' (fr) h' ∧ (RoF (Ow.box 7 164 (arrCells tab64).toArray) F' h') ∧ Q r_1 := by
  unfold internal_strconv_FormatUint_W at hM
  have hK := Kp.refl F h0
  refine HC.of_HW (n := 32) Tryz.func121 rfl rfl (Nat.le_of_ble_eq_true rfl) ?_
  refine HW.seq ?_
  refine HW.region ?_
  refine HO.val (v := .string (bs [])) (want_none) rfl (q_assign rfl) ?_
  refine HO.nil (thenQ_normal (?_))
  refine HW.seq ?_
  refine HW.seq ?_
  refine HW.region ?_
  refine HO.val (v := .int .i64 base) (want_none) rfl (q_move rfl) ?_
  refine HO.val (v := .bool (decide (base = 10))) (want_none) rfl (q_eql rfl rfl) ?_
  refine HO.nil (thenQ_normal (?_))
  refine HW.cond (decide (base = 10)) rfl (fun c_1 => ?_) (fun c_1 => ?_)
  · replace hM := hM.1 (of_decide_eq_true c_1)
    refine HW.seq ?_
    refine HW.seq ?_
    refine HW.region ?_
    refine HO.val (v := .int .u64 i) (want_none) rfl (q_move rfl) ?_
    refine HO.val (v := .bool (decide (i < 100))) (want_none) rfl (q_lss rfl rfl) ?_
    refine HO.nil (thenQ_normal (?_))
    refine HW.cond (decide (i < 100)) rfl (fun c_2 => ?_) (fun c_2 => ?_)
    · replace hM := hM.1 (of_decide_eq_true c_2)
      refine HW.seq ?_
      refine HW.region ?_
      refine HO.val (v := .int .u64 i) (want_none) rfl (q_move rfl) ?_
      obtain ⟨ho_1, hM⟩ := hM
      refine HO.val (v := .int .i64 i) (want_none) rfl (q_convInt Tryz.underlying73 Tryz.underlying3 rfl (wrap_i64 ho_1.1 ho_1.2)) ?_
      refine HO.call (want_none) rfl (ec en_133 rfl rfl) (internal_strconv_small_walk (fr := (fr)) i hS hM) ?_
      rintro _ h_1 ⟨F_1, r_2, rfl, hk, hS, hM⟩
      replace hK := hK.trans hk
      replace hG_7 := hG_7.kp hk
      refine HO.val (v := .string (bs r_2)) (want_none) rfl (q_assign rfl) ?_
      refine HO.nil (thenQ_normal (?_))
      refine HW.ret (thenQ_ret (thenQ_ret (?_)))
      refine ⟨.inr rfl, .string (bs r_2), res1 rfl (rt rfl), ?_⟩
      exact ⟨F_1, r_2, rfl, hK, hS, hG_7, hM⟩
    · replace hM := hM.2 (of_decide_eq_false c_2)
      refine HW.skip (thenQ_normal (?_))
      refine HW.seq ?_
      refine HW.region ?_
      refine HO.eff (want_none) rfl (st_alloc (c := (arrCells (default : Ba 24)).toArray) hS tz_150 rfl) ?_
      rintro _ h_2 ⟨b_1, rfl, hS, hk⟩
      replace hK := hK.trans hk
      refine HO.nil (thenQ_normal (?_))
      refine HW.seq ?_
      refine HW.region ?_
      refine HO.val (v := .int .u64 i) (want_none) rfl (q_move rfl) ?_
      exact hM.elim
  · replace hM := hM.2 (of_decide_eq_false c_1)
    refine HW.skip (thenQ_normal (?_))
    refine HW.seq ?_
    refine HW.region ?_
    refine HO.val (v := .int .u64 i) (want_none) rfl (q_move rfl) ?_
    refine HO.val (v := .int .i64 base) (want_none) rfl (q_move rfl) ?_
    refine HO.call (want_none) rfl (ec en_136 rfl rfl) (internal_strconv_formatBits_walk (fr := (fr)) i base hS hG_7 hM) ?_
    rintro _ h_3 ⟨F_2, r0_1, r1_1, vr0_1, rfl, hk, hS, _, hM⟩
    replace hK := hK.trans hk
    replace hG_7 := hG_7.kp hk
    refine HO.val (v := .tuple #[vr0_1, .string (bs r1_1)]) (want_none) rfl (q_move rfl) ?_
    refine HO.val (v := vr0_1) (want_none) rfl (q_extract rfl rfl) ?_
    refine HO.val (v := .string (bs r1_1)) (want_none) rfl (q_extract rfl rfl) ?_
    refine HO.val (v := vr0_1) (want_none) rfl (q_assign rfl) ?_
    refine HO.val (v := .string (bs r1_1)) (want_none) rfl (q_assign rfl) ?_
    refine HO.nil (thenQ_normal (?_))
    refine HW.seq ?_
    refine HW.region ?_
    refine HO.val (v := .string (bs r1_1)) (want_none) rfl (q_move rfl) ?_
    refine HO.val (v := .string (bs r1_1)) (want_none) rfl (q_assign rfl) ?_
    refine HO.nil (thenQ_normal (?_))
    refine HW.ret (?_)
    refine ⟨.inr rfl, .string (bs r1_1), res1 rfl (rt rfl), ?_⟩
    replace hS : St F_2 (fr) h_3 := hS.perm2 [] 1 rfl rfl
    exact ⟨F_2, r1_1, rfl, hK, hS, hG_7, hM⟩

def strconv_FormatUint_W (i : Int) (base : Int) (Q : Str → Prop) : Prop :=
  internal_strconv_FormatUint_W i base (fun r_2 => Q r_2)
set_option maxHeartbeats 40000000 in
set_option maxRecDepth 100000 in
theorem strconv_FormatUint_walk {F : Fz} {fr : List Ow} {h0 : Heap} (i : Int) (base : Int) (hS : St F (fr) h0) (hG_7 : RoF (Ow.box 7 164 (arrCells tab64).toArray) F h0) {Q : Str → Prop} (hM : strconv_FormatUint_W i base Q) :
    HC Tryz.prog 90 #[.int .u64 i, .int .i64 base] h0 fun u h' => ∃ (F' : Fz) (r_1 : Str), u = .string (bs r_1) ∧ Kp F h0 F' h' ∧ St F' (fr) h' ∧ (RoF (Ow.box 7 164 (arrCells tab64).toArray) F' h') ∧ Q r_1 := by
  unfold strconv_FormatUint_W at hM
  have hK := Kp.refl F h0
  refine HC.of_HW (n := 8) Tryz.func90 rfl rfl (Nat.le_of_ble_eq_true rfl) ?_
  refine HW.seq ?_
  refine HW.region ?_
  refine HO.val (v := .string (bs [])) (want_none) rfl (q_assign rfl) ?_
  refine HO.nil (thenQ_normal (?_))
  refine HW.seq ?_
  refine HW.region ?_
  refine HO.val (v := .int .u64 i) (want_none) rfl (q_move rfl) ?_
  refine HO.val (v := .int .i64 base) (want_none) rfl (q_move rfl) ?_
  refine HO.call (want_none) rfl (ec en_121 rfl rfl) (internal_strconv_FormatUint_walk (fr := (fr)) i base hS hG_7 hM) ?_
  rintro _ h_1 ⟨F_1, r_2, rfl, hk, hS, _, hM⟩
  replace hK := hK.trans hk
  replace hG_7 := hG_7.kp hk
  refine HO.val (v := .string (bs r_2)) (want_none) rfl (q_assign rfl) ?_
  refine HO.nil (thenQ_normal (?_))
  refine HW.ret (?_)
  refine ⟨.inr rfl, .string (bs r_2), res1 rfl (rt rfl), ?_⟩
  exact ⟨F_1, r_2, rfl, hK, hS, hG_7, hM⟩

def addr_list_l2 (a : T_api_Addr) (to1 : Int) (Q : Str → Prop) (K_1 : (List Str) → Int → Prop) (l_1 : List Str) (i_1 : Int) : Prop :=
  (i_1 < to1 → addr_word_W a i_1 (fun r_2 => strconv_FormatUint_W r_2 16 (fun r_3 => ((l_1.length + ([r_3] : List Str).length) * 16 ≤ 140737488355328) ∧ ((I64 (i_1 + 1)) ∧ (K_1 (l_1 ++ ([r_3] : List Str)) (i_1 + 1)))))) ∧ (¬ (i_1 < to1) → ((l_1).length ≤ 140737488355328 ∧ (joinS l_1 ([58] : Str)).length ≤ 140737488355328) ∧ (Q (joinS l_1 ([58] : Str))))
def addr_list_W (a : T_api_Addr) (from1 : Int) (to1 : Int) (Q : Str → Prop) : Prop :=
  loopW (fun (K_1 : (List Str × Int) → Prop) (s : List Str × Int) => addr_list_l2 a to1 Q (fun l_1 i_1 => K_1 (l_1, i_1)) s.1 s.2) ([], from1)
set_option maxHeartbeats 40000000 in
set_option maxRecDepth 100000 in
theorem addr_list_walk {F : Fz} {fr : List Ow} {h0 : Heap} (a : T_api_Addr) (from1 : Int) (to1 : Int) (hS : St F (fr) h0) (hG_7 : RoF (Ow.box 7 164 (arrCells tab64).toArray) F h0) (hD : DM.on = false) {Q : Str → Prop} (hM : addr_list_W a from1 to1 Q) :
    HC Tryz.prog 66 #[.agg (e_api_Addr a).toArray, .int .i64 from1, .int .i64 to1] h0 fun u h' => ∃ (F' : Fz) (r_1 : Str), u = .string (bs r_1) ∧ Kp F h0 F' h' ∧ St F' (fr) h' ∧ (RoF (Ow.box 7 164 (arrCells tab64).toArray) F' h') ∧ Q r_1 := by
  unfold addr_list_W at hM
  have hK := Kp.refl F h0
  refine HC.of_HW (n := 24) Tryz.func66 rfl rfl (Nat.le_of_ble_eq_true rfl) ?_
  refine HW.seq ?_
  refine HW.region ?_
  refine HO.eff (want_none) rfl (st_box (c := (e_api_Addr a).toArray) (k' := 17) hS rfl rfl) ?_
  rintro _ h_1 ⟨b_1, rfl, hS, hk⟩
  replace hK := hK.trans hk
  replace hG_7 := hG_7.kp hk
  refine HO.val (v := .string (bs [])) (want_none) rfl (q_assign rfl) ?_
  refine HO.nil (thenQ_normal (?_))
  refine HW.seq ?_
  refine HW.region ?_
  refine HO.val (v := .slice none 0 0) (want_none) rfl (q_assign rfl) ?_
  refine HO.nil (thenQ_normal (?_))
  refine HW.seq ?_
  refine HW.seq ?_
  refine HW.region ?_
  refine HO.val (v := .int .i64 from1) (want_none) rfl (q_move rfl) ?_
  refine HO.val (v := .int .i64 from1) (want_none) rfl (q_assign rfl) ?_
  refine HO.nil (thenQ_normal (?_))
  refine HW.block ?_
  obtain ⟨I_1, m_1, hI_1, hR_1⟩ := hM
  replace hS := hS.nilOwn 9 1 encT
  replace hS : St F (Ow.box b_1 44 (e_api_Addr a).toArray :: Ow.own 9 1 encT (.slice none 0 0) ([] : List Str) :: fr) h_1 := hS.perm2 [1, 0] 2 rfl rfl
  refine HW.loop (S := List Str × Int) (fun s f h => match s with | (l_1, i_1) => ∃ (F' : Fz) (vl_1 : Value), f 2 = .int .i64 to1 ∧ f 3 = .pointer (some ⟨b_1, 0, none⟩) ∧ f 6 = .string (bs []) ∧ f 7 = vl_1 ∧ f 8 = .int .i64 i_1 ∧ Kp F h0 F' h ∧ St F' (Ow.box b_1 44 (e_api_Addr a).toArray :: Ow.own 9 1 encT vl_1 l_1 :: fr) h ∧ (RoF (Ow.box 7 164 (arrCells tab64).toArray) F' h) ∧ I_1 (l_1, i_1)) m_1 ([], from1) ⟨F, .slice none 0 0, rfl, rfl, rfl, rfl, rfl, hK, hS, hG_7, hI_1⟩ ?_
  rintro ⟨l_1, i_1⟩ f_1 h_2 ⟨F_1, vl_1, e2, e3, e6, e7, e8, hK, hS, hG_7, hI0⟩
  obtain ⟨K_1, hKe_1⟩ : ∃ K : (List Str) → Int → Prop, K = fun l_1' i_1' => I_1 (l_1', i_1') ∧ m_1 (l_1', i_1') < m_1 (l_1, i_1) := ⟨_, rfl⟩
  have hM : addr_list_l2 a to1 Q K_1 l_1 i_1 := by rw [hKe_1]; exact hR_1 (l_1, i_1) hI0
  unfold addr_list_l2 at hM
  refine HW.fr [(2, .int .i64 to1), (3, .pointer (some ⟨b_1, 0, none⟩)), (6, .string (bs [])), (7, vl_1), (8, .int .i64 i_1)] ⟨e2, e3, e6, e7, e8, trivial⟩ ?_
  refine HW.seq ?_
  refine HW.seq ?_
  refine HW.region ?_
  refine HO.val (v := .int .i64 i_1) (want_none) rfl (q_move rfl) ?_
  refine HO.val (v := .int .i64 to1) (want_none) rfl (q_move rfl) ?_
  refine HO.val (v := .bool (decide (i_1 < to1))) (want_none) rfl (q_lss rfl rfl) ?_
  refine HO.nil (thenQ_normal (?_))
  refine HW.cond (decide (i_1 < to1)) rfl (fun c_1 => ?_) (fun c_1 => ?_)
  · replace hM := hM.1 (of_decide_eq_true c_1)
    refine HW.skip (thenQ_normal (?_))
    refine HW.seq ?_
    refine HW.block ?_
    refine HW.region ?_
    refine HO.val (v := vl_1) (want_none) rfl (q_move rfl) ?_
    refine HO.val (v := .agg (e_api_Addr a).toArray) (want_none) rfl (q_loadAgg (cs := (e_api_Addr a)) ta_44 rfl rfl (Blk.cells (k := 17) (hS.box 0 rfl) rfl)) ?_
    refine HO.val (v := .int .i64 i_1) (want_none) rfl (q_move rfl) ?_
    refine HO.call (want_none) rfl (ec en_89 rfl rfl) (addr_word_walk (fr := (Ow.box b_1 44 (e_api_Addr a).toArray :: Ow.own 9 1 encT vl_1 l_1 :: fr)) a i_1 hS hM) ?_
    rintro _ h_3 ⟨F_2, r_2, rfl, hk, hS, hM⟩
    replace hK := hK.trans hk
    replace hG_7 := hG_7.kp hk
    refine HO.call (want_none) rfl (ec en_90 rfl rfl) (strconv_FormatUint_walk (fr := (Ow.box b_1 44 (e_api_Addr a).toArray :: Ow.own 9 1 encT vl_1 l_1 :: fr)) r_2 16 hS hG_7 hM) ?_
    rintro _ h_4 ⟨F_3, r_3, rfl, hk, hS, _, hM⟩
    replace hK := hK.trans hk
    replace hG_7 := hG_7.kp hk
    refine HO.eff (want_none) rfl (st_lit (enc := encT) (cells := #[.string (bs r_3)]) #[.string (bs [])] ([r_3] : List Str) hS tl_45 (by decide) (by decide) (by kernel_rfl) (by kernel_rfl) rfl (by intro x hx; rfl) rfl) ?_
    rintro _ h_5 ⟨b_2, rfl, hS, hk⟩
    replace hK := hK.trans hk
    replace hG_7 := hG_7.kp hk
    obtain ⟨ho_1, hM⟩ := hM
    refine HO.eff (want_none) rfl (st_append te_45 hS (i := 2) rfl (hS.own 0 rfl).slice rfl rfl rfl (by intro a _ u hu; simp [encT, encI, encN, encB, encT] at hu; subst hu; rfl) ho_1 (by omega)) ?_
    rintro v_1 h_6 ⟨hS, hk⟩
    replace hS : St F_3 (Ow.own 9 1 encT (.slice (some ⟨b_2, 0, none⟩) 1 1) ([r_3] : List Str) :: Ow.box b_1 44 (e_api_Addr a).toArray :: Ow.own 9 1 encT v_1 (l_1 ++ ([r_3] : List Str)) :: fr) h_6 := hS
    replace hK := hK.trans hk
    replace hG_7 := hG_7.kp hk
    refine HO.val (v := v_1) (want_none) rfl (q_assign rfl) ?_
    refine HO.nil (blockQ_normal (thenQ_normal (?_)))
    refine HW.region ?_
    refine HO.val (v := .int .i64 i_1) (want_none) rfl (q_move rfl) ?_
    obtain ⟨ho_2, hM⟩ := hM
    refine HO.val (v := .int .i64 (i_1 + 1)) (want_none) rfl (q_addN _ rfl rfl rfl ho_2.1 ho_2.2) ?_
    refine HO.val (v := .int .i64 (i_1 + 1)) (want_none) rfl (q_assign rfl) ?_
    refine HO.nil (thenQ_normal (?_))
    replace hS : St F_3 (Ow.box b_1 44 (e_api_Addr a).toArray :: Ow.own 9 1 encT v_1 (l_1 ++ ([r_3] : List Str)) :: fr) h_6 := hS.perm2 [1, 2] 3 rfl rfl
    rw [hKe_1] at hM
    exact ⟨(l_1 ++ ([r_3] : List Str), i_1 + 1), ⟨F_3, v_1, rfl, rfl, rfl, rfl, rfl, hK, hS, hG_7, hM.1⟩, hM.2⟩
  · replace hM := hM.2 (of_decide_eq_false c_1)
    refine HW.exit (thenQ_exit (thenQ_exit (blockQ_exit (thenQ_normal (?_)))))
    refine HW.seq ?_
    refine HW.region ?_
    refine HO.val (v := vl_1) (want_none) rfl (q_move rfl) ?_
    obtain ⟨ho_3, hM⟩ := hM
    refine HO.call (want_none) rfl (ec en_46 rfl rfl) (strJoin_hc hD Tryz.join Tryz.joinX ([58] : Str) hS (hS.own 1 rfl).slice ho_3.1 ho_3.2) ?_
    rintro _ h_7 ⟨rfl, hS, hk⟩
    replace hK := hK.trans hk
    replace hG_7 := hG_7.kp hk
    refine HO.val (v := .string (bs (joinS l_1 ([58] : Str)))) (want_none) rfl (q_assign rfl) ?_
    refine HO.nil (thenQ_normal (?_))
    refine HW.ret (?_)
    refine ⟨.inr rfl, .string (bs (joinS l_1 ([58] : Str))), res1 rfl (rt rfl), ?_⟩
    replace hS : St F_1 (fr) h_7 := hS.perm2 [] 2 rfl rfl
    exact ⟨F_1, joinS l_1 ([58] : Str), rfl, hK, hS, hG_7, hM⟩

def addr_text_l2 (a : T_api_Addr) (Q : Str → Prop) (K_1 : (List Str) → Int → Prop) (l_1 : List Str) (n_1 : Int) : Prop :=
  (n_1 < ((cut a.2.1 0 4).length : Int) → ((0 : Int) ≤ n_1 ∧ n_1 < ((cut a.2.1 0 4).length : Int)) ∧ ((I64 ((gi (cut a.2.1 0 4) n_1).toNat : Int)) ∧ (((l_1.length + ([itoaS ((gi (cut a.2.1 0 4) n_1).toNat : Int)] : List Str).length) * 16 ≤ 140737488355328) ∧ ((I64 (n_1 + 1)) ∧ (K_1 (l_1 ++ ([itoaS ((gi (cut a.2.1 0 4) n_1).toNat : Int)] : List Str)) (n_1 + 1)))))) ∧ (¬ (n_1 < ((cut a.2.1 0 4).length : Int)) → ((l_1).length ≤ 140737488355328 ∧ (joinS l_1 ([46] : Str)).length ≤ 140737488355328) ∧ (Q (joinS l_1 ([46] : Str))))
def addr_text_W (a : T_api_Addr) (Q : Str → Prop) : Prop :=
  ((!a.1) = true → loopW (fun (K_1 : (List Str × Int) → Prop) (s : List Str × Int) => addr_text_l2 a Q (fun l_1 n_1 => K_1 (l_1, n_1)) s.1 s.2) ([], 0)) ∧ ((!a.1) = false → addr_row_W a (fun r0_1 r1_1 => (r1_1 < 2 → addr_list_W a 0 8 (fun r_2 => Q r_2)) ∧ (¬ (r1_1 < 2) → (I64 (r0_1 + r1_1)) ∧ (addr_list_W a 0 r0_1 (fun r_3 => ((r_3.length : Int) + ((([58, 58] : Str)).length : Int) ≤ 9223372036854775807) ∧ (addr_list_W a (r0_1 + r1_1) 8 (fun r_4 => (((r_3 ++ ([58, 58] : Str)).length : Int) + (r_4.length : Int) ≤ 9223372036854775807) ∧ (Q ((r_3 ++ ([58, 58] : Str)) ++ r_4)))))))))
set_option maxHeartbeats 40000000 in
set_option maxRecDepth 100000 in
theorem addr_text_walk {F : Fz} {fr : List Ow} {h0 : Heap} (a : T_api_Addr) (hS : St F (fr) h0) (hG_5 : RoF (Ow.box 5 160 (tab10 ()).toArray) F h0) (hG_7 : RoF (Ow.box 7 164 (arrCells tab64).toArray) F h0) (hD : DM.on = false) {Q : Str → Prop} (hM : addr_text_W a Q) :
    HC Tryz.prog 41 #[.agg (e_api_Addr a).toArray] h0 fun u h' => ∃ (F' : Fz) (r_1 : Str), u = .string (bs r_1) ∧ Kp F h0 F' h' ∧ St F' (fr) h' ∧ (RoF (Ow.box 5 160 (tab10 ()).toArray) F' h') ∧ (RoF (Ow.box 7 164 (arrCells tab64).toArray) F' h') ∧ Q r_1 := by
  unfold addr_text_W at hM
  have hK := Kp.refl F h0
  refine HC.of_HW (n := 46) Tryz.func41 rfl rfl (Nat.le_of_ble_eq_true rfl) ?_
  refine HW.seq ?_
  refine HW.region ?_
  refine HO.eff (want_none) rfl (st_box (c := (e_api_Addr a).toArray) (k' := 17) hS rfl rfl) ?_
  rintro _ h_1 ⟨b_1, rfl, hS, hk⟩
  replace hK := hK.trans hk
  replace hG_5 := hG_5.kp hk
  replace hG_7 := hG_7.kp hk
  refine HO.val (v := .string (bs [])) (want_none) rfl (q_assign rfl) ?_
  refine HO.nil (thenQ_normal (?_))
  refine HW.seq ?_
  refine HW.seq ?_
  refine HW.region ?_
  refine HO.val (v := .pointer (some ⟨b_1, 0, none⟩)) (want_none) rfl (q_fieldAddr fa_44_0 rfl rfl) ?_
  refine HO.val (v := .bool a.1) (want_none) rfl (q_load to_4 rfl (Blk.cell (hS.box 0 rfl) rfl)) ?_
  refine HO.val (v := .bool (!a.1)) (want_none) rfl (q_not rfl) ?_
  refine HO.nil (thenQ_normal (?_))
  refine HW.cond (!a.1) rfl (fun c_1 => ?_) (fun c_1 => ?_)
  · replace hM := hM.1 c_1
    refine HW.seq ?_
    refine HW.region ?_
    refine HO.val (v := .slice none 0 0) (want_none) rfl (q_assign rfl) ?_
    refine HO.nil (thenQ_normal (?_))
    refine HW.seq ?_
    refine HW.seq ?_
    refine HW.region ?_
    refine HO.val (v := .pointer (some ⟨b_1, 1, none⟩)) (want_none) rfl (q_fieldAddr fa_44_1 rfl rfl) ?_
    refine HO.val (v := arrV b_1 1 16 0 4) (want_none) rfl (q_sliceA (o := 1) (lo := 0) (hi := 4) (kl := .i64) tr_42 rfl (.inl ⟨rfl, rfl⟩) (.inr ⟨_, rfl, rfl⟩) ⟨by decide, by decide, by decide⟩) ?_
    refine HO.val (v := .int .i64 ((cut a.2.1 0 4).length : Int)) (want_none) rfl (q_len ts_79 (shp (arrSl (o := 1) (n := 16) (X := a.2) (lo := 0) (hi := 4) (hS.box 0 rfl) rfl ⟨by decide, by decide, by decide⟩ (by decide))) rfl rfl) ?_
    refine HO.val (v := .int .i64 0) (want_none) rfl (q_move rfl) ?_
    refine HO.nil (thenQ_normal (?_))
    refine HW.block ?_
    obtain ⟨I_1, m_1, hI_1, hR_1⟩ := hM
    replace hS := hS.nilOwn 9 1 encT
    replace hS : St F (Ow.box b_1 44 (e_api_Addr a).toArray :: Ow.own 9 1 encT (.slice none 0 0) ([] : List Str) :: fr) h_1 := hS.perm2 [1, 0] 2 rfl rfl
    refine HW.loop (S := List Str × Int) (fun s f h => match s with | (l_1, n_1) => ∃ (F' : Fz) (vl_1 : Value), f 1 = .pointer (some ⟨b_1, 0, none⟩) ∧ f 2 = .string (bs []) ∧ f 3 = vl_1 ∧ f 12 = arrV b_1 1 16 0 4 ∧ f 13 = .int .i64 ((cut a.2.1 0 4).length : Int) ∧ f 14 = .int .i64 n_1 ∧ Kp F h0 F' h ∧ St F' (Ow.box b_1 44 (e_api_Addr a).toArray :: Ow.own 9 1 encT vl_1 l_1 :: fr) h ∧ (RoF (Ow.box 5 160 (tab10 ()).toArray) F' h) ∧ (RoF (Ow.box 7 164 (arrCells tab64).toArray) F' h) ∧ I_1 (l_1, n_1)) m_1 ([], 0) ⟨F, .slice none 0 0, rfl, rfl, rfl, rfl, rfl, rfl, hK, hS, hG_5, hG_7, hI_1⟩ ?_
    rintro ⟨l_1, n_1⟩ f_1 h_2 ⟨F_1, vl_1, e1, e2, e3, e12, e13, e14, hK, hS, hG_5, hG_7, hI0⟩
    obtain ⟨K_1, hKe_1⟩ : ∃ K : (List Str) → Int → Prop, K = fun l_1' n_1' => I_1 (l_1', n_1') ∧ m_1 (l_1', n_1') < m_1 (l_1, n_1) := ⟨_, rfl⟩
    have hM : addr_text_l2 a Q K_1 l_1 n_1 := by rw [hKe_1]; exact hR_1 (l_1, n_1) hI0
    unfold addr_text_l2 at hM
    refine HW.fr [(1, .pointer (some ⟨b_1, 0, none⟩)), (2, .string (bs [])), (3, vl_1), (12, arrV b_1 1 16 0 4), (13, .int .i64 ((cut a.2.1 0 4).length : Int)), (14, .int .i64 n_1)] ⟨e1, e2, e3, e12, e13, e14, trivial⟩ ?_
    refine HW.seq ?_
    refine HW.region ?_
    refine HO.val (v := .bool (decide (n_1 < ((cut a.2.1 0 4).length : Int)))) (want_none) rfl (q_lss rfl rfl) ?_
    refine HO.nil (thenQ_normal (?_))
    refine HW.seq ?_
    refine HW.cond (decide (n_1 < ((cut a.2.1 0 4).length : Int))) rfl (fun c_2 => ?_) (fun c_2 => ?_)
    · replace hM := hM.1 (of_decide_eq_true c_2)
      refine HW.skip (thenQ_normal (?_))
      refine HW.seq ?_
      refine HW.block ?_
      refine HW.seq ?_
      refine HW.region ?_
      obtain ⟨ho_1, hM⟩ := hM
      refine HO.val (v := elemPtr 1 (arrV b_1 1 16 0 4) (n_1).toNat) (want_none) rfl (q_idx ts_79 (arrSl (o := 1) (n := 16) (X := a.2) (lo := 0) (hi := 4) (hS.box 0 rfl) rfl ⟨by decide, by decide, by decide⟩ (by decide)) rfl rfl ho_1) ?_
      refine HO.val (v := .int .u8 ((gi (cut a.2.1 0 4) n_1).toNat : Int)) (want_none) rfl (q_ldElem to_5 (arrSl (o := 1) (n := 16) (X := a.2) (lo := 0) (hi := 4) (hS.box 0 rfl) rfl ⟨by decide, by decide, by decide⟩ (by decide)) rfl ho_1 rfl) ?_
      refine HO.val (v := .int .u8 ((gi (cut a.2.1 0 4) n_1).toNat : Int)) (want_none) rfl (q_assign rfl) ?_
      refine HO.nil (thenQ_normal (?_))
      refine HW.region ?_
      refine HO.val (v := vl_1) (want_none) rfl (q_move rfl) ?_
      refine HO.val (v := .int .u8 ((gi (cut a.2.1 0 4) n_1).toNat : Int)) (want_none) rfl (q_move rfl) ?_
      obtain ⟨ho_2, hM⟩ := hM
      refine HO.val (v := .int .i64 ((gi (cut a.2.1 0 4) n_1).toNat : Int)) (want_none) rfl (q_convInt Tryz.underlying5 Tryz.underlying3 rfl (wrap_i64 ho_2.1 ho_2.2)) ?_
      refine HO.call (want_none) rfl (ec en_64 rfl rfl) (itoaF_hc hD Tryz.itoa (by kernel_rfl) hG_5 hS ((gi (cut a.2.1 0 4) n_1).toNat : Int) ho_2) ?_
      rintro _ h_3 ⟨rfl, hS, hk⟩
      replace hK := hK.trans hk
      replace hG_5 := hG_5.kp hk
      replace hG_7 := hG_7.kp hk
      refine HO.eff (want_none) rfl (st_lit (enc := encT) (cells := #[.string (bs (itoaS ((gi (cut a.2.1 0 4) n_1).toNat : Int)))]) #[.string (bs [])] ([itoaS ((gi (cut a.2.1 0 4) n_1).toNat : Int)] : List Str) hS tl_45 (by decide) (by decide) (by kernel_rfl) (by kernel_rfl) rfl (by intro x hx; rfl) rfl) ?_
      rintro _ h_4 ⟨b_2, rfl, hS, hk⟩
      replace hK := hK.trans hk
      replace hG_5 := hG_5.kp hk
      replace hG_7 := hG_7.kp hk
      obtain ⟨ho_3, hM⟩ := hM
      refine HO.eff (want_none) rfl (st_append te_45 hS (i := 2) rfl (hS.own 0 rfl).slice rfl rfl rfl (by intro a _ u hu; simp [encT, encI, encN, encB, encT] at hu; subst hu; rfl) ho_3 (by omega)) ?_
      rintro v_1 h_5 ⟨hS, hk⟩
      replace hS : St F_1 (Ow.own 9 1 encT (.slice (some ⟨b_2, 0, none⟩) 1 1) ([itoaS ((gi (cut a.2.1 0 4) n_1).toNat : Int)] : List Str) :: Ow.box b_1 44 (e_api_Addr a).toArray :: Ow.own 9 1 encT v_1 (l_1 ++ ([itoaS ((gi (cut a.2.1 0 4) n_1).toNat : Int)] : List Str)) :: fr) h_5 := hS
      replace hK := hK.trans hk
      replace hG_5 := hG_5.kp hk
      replace hG_7 := hG_7.kp hk
      refine HO.val (v := v_1) (want_none) rfl (q_assign rfl) ?_
      refine HO.nil (blockQ_normal (thenQ_normal (?_)))
      refine HW.region ?_
      obtain ⟨ho_4, hM⟩ := hM
      refine HO.val (v := .int .i64 (n_1 + 1)) (want_none) rfl (q_addN _ rfl rfl rfl ho_4.1 ho_4.2) ?_
      refine HO.val (v := .int .i64 (n_1 + 1)) (want_none) rfl (q_move rfl) ?_
      refine HO.nil (thenQ_normal (?_))
      replace hS : St F_1 (Ow.box b_1 44 (e_api_Addr a).toArray :: Ow.own 9 1 encT v_1 (l_1 ++ ([itoaS ((gi (cut a.2.1 0 4) n_1).toNat : Int)] : List Str)) :: fr) h_5 := hS.perm2 [1, 2] 3 rfl rfl
      rw [hKe_1] at hM
      exact ⟨(l_1 ++ ([itoaS ((gi (cut a.2.1 0 4) n_1).toNat : Int)] : List Str), n_1 + 1), ⟨F_1, v_1, rfl, rfl, rfl, rfl, rfl, rfl, hK, hS, hG_5, hG_7, hM.1⟩, hM.2⟩
    · replace hM := hM.2 (of_decide_eq_false c_2)
      refine HW.exit (thenQ_exit (thenQ_exit (blockQ_exit (thenQ_normal (?_)))))
      refine HW.seq ?_
      refine HW.region ?_
      refine HO.val (v := vl_1) (want_none) rfl (q_move rfl) ?_
      obtain ⟨ho_5, hM⟩ := hM
      refine HO.call (want_none) rfl (ec en_46 rfl rfl) (strJoin_hc hD Tryz.join Tryz.joinX ([46] : Str) hS (hS.own 1 rfl).slice ho_5.1 ho_5.2) ?_
      rintro _ h_6 ⟨rfl, hS, hk⟩
      replace hK := hK.trans hk
      replace hG_5 := hG_5.kp hk
      replace hG_7 := hG_7.kp hk
      refine HO.val (v := .string (bs (joinS l_1 ([46] : Str)))) (want_none) rfl (q_assign rfl) ?_
      refine HO.nil (thenQ_normal (?_))
      refine HW.ret (thenQ_ret (?_))
      refine ⟨.inr rfl, .string (bs (joinS l_1 ([46] : Str))), res1 rfl (rt rfl), ?_⟩
      replace hS : St F_1 (fr) h_6 := hS.perm2 [] 2 rfl rfl
      exact ⟨F_1, joinS l_1 ([46] : Str), rfl, hK, hS, hG_5, hG_7, hM⟩
  · replace hM := hM.2 c_1
    refine HW.skip (thenQ_normal (?_))
    refine HW.seq ?_
    refine HW.region ?_
    refine HO.val (v := .agg (e_api_Addr a).toArray) (want_none) rfl (q_loadAgg (cs := (e_api_Addr a)) ta_44 rfl rfl (Blk.cells (k := 17) (hS.box 0 rfl) rfl)) ?_
    refine HO.call (want_none) rfl (ec en_65 rfl rfl) (addr_row_walk (fr := (Ow.box b_1 44 (e_api_Addr a).toArray :: fr)) a hS hM) ?_
    rintro _ h_7 ⟨F_2, r0_1, r1_1, rfl, hk, hS, hM⟩
    replace hK := hK.trans hk
    replace hG_5 := hG_5.kp hk
    replace hG_7 := hG_7.kp hk
    refine HO.val (v := .tuple #[.int .i64 r0_1, .int .i64 r1_1]) (want_none) rfl (q_move rfl) ?_
    refine HO.val (v := .int .i64 r0_1) (want_none) rfl (q_extract rfl rfl) ?_
    refine HO.val (v := .int .i64 r1_1) (want_none) rfl (q_extract rfl rfl) ?_
    refine HO.val (v := .int .i64 r0_1) (want_none) rfl (q_assign rfl) ?_
    refine HO.val (v := .int .i64 r1_1) (want_none) rfl (q_assign rfl) ?_
    refine HO.nil (thenQ_normal (?_))
    refine HW.seq ?_
    refine HW.seq ?_
    refine HW.region ?_
    refine HO.val (v := .int .i64 r1_1) (want_none) rfl (q_move rfl) ?_
    refine HO.val (v := .bool (decide (r1_1 < 2))) (want_none) rfl (q_lss rfl rfl) ?_
    refine HO.nil (thenQ_normal (?_))
    refine HW.cond (decide (r1_1 < 2)) rfl (fun c_3 => ?_) (fun c_3 => ?_)
    · replace hM := hM.1 (of_decide_eq_true c_3)
      refine HW.seq ?_
      refine HW.region ?_
      refine HO.val (v := .agg (e_api_Addr a).toArray) (want_none) rfl (q_loadAgg (cs := (e_api_Addr a)) ta_44 rfl rfl (Blk.cells (k := 17) (hS.box 0 rfl) rfl)) ?_
      refine HO.call (want_none) rfl (ec en_66 rfl rfl) (addr_list_walk (fr := (Ow.box b_1 44 (e_api_Addr a).toArray :: fr)) a 0 8 hS hG_7 hD hM) ?_
      rintro _ h_8 ⟨F_3, r_2, rfl, hk, hS, _, hM⟩
      replace hK := hK.trans hk
      replace hG_5 := hG_5.kp hk
      replace hG_7 := hG_7.kp hk
      refine HO.val (v := .string (bs r_2)) (want_none) rfl (q_assign rfl) ?_
      refine HO.nil (thenQ_normal (?_))
      refine HW.ret (thenQ_ret (?_))
      refine ⟨.inr rfl, .string (bs r_2), res1 rfl (rt rfl), ?_⟩
      replace hS : St F_3 (fr) h_8 := hS.perm2 [] 1 rfl rfl
      exact ⟨F_3, r_2, rfl, hK, hS, hG_5, hG_7, hM⟩
    · replace hM := hM.2 (of_decide_eq_false c_3)
      refine HW.skip (thenQ_normal (?_))
      refine HW.seq ?_
      refine HW.regionA 11 mixed (fun h => (Blk h b_1 (.cells (e_api_Addr a).toArray 44 (0, 0)))) [] (by kernel_rfl) ?_
      refine HA.val (k := 0) (v := .agg (e_api_Addr a).toArray) rfl rfl (by kernel_rfl) (by kernel_rfl) (want_none) rfl (fun _ c201 => q_loadAgg (cs := (e_api_Addr a)) ta_44 rfl rfl (Blk.cells (k := 17) c201 rfl)) ?_
      refine HA.val (k := 1) (v := .int .i64 r0_1) rfl rfl (by kernel_rfl) (by kernel_rfl) (want_none) rfl (fun _ c201 => q_move rfl) ?_
      refine HA.val (k := 4) (v := .agg (e_api_Addr a).toArray) rfl rfl (by kernel_rfl) (by kernel_rfl) (want_none) rfl (fun _ c201 => q_loadAgg (cs := (e_api_Addr a)) ta_44 rfl rfl (Blk.cells (k := 17) c201 rfl)) ?_
      refine HA.val (k := 5) (v := .int .i64 r0_1) rfl rfl (by kernel_rfl) (by kernel_rfl) (want_none) rfl (fun _ c201 => q_move rfl) ?_
      refine HA.val (k := 6) (v := .int .i64 r1_1) rfl rfl (by kernel_rfl) (by kernel_rfl) (want_none) rfl (fun _ c201 => q_move rfl) ?_
      obtain ⟨ho_6, hM⟩ := hM
      refine HA.val (k := 7) (v := .int .i64 (r0_1 + r1_1)) rfl rfl (by kernel_rfl) (by kernel_rfl) (want_none) rfl (fun _ c201 => q_addN _ rfl rfl rfl ho_6.1 ho_6.2) ?_
      refine HA.one (k := 2) ⟨(hS.box 0 rfl), (Go.Wk.at_nil _ _)⟩ (by kernel_rfl) ?_
      refine HS.call rfl (want_none) rfl (ec en_66 rfl rfl) (addr_list_walk (fr := (Ow.box b_1 44 (e_api_Addr a).toArray :: fr)) a 0 r0_1 hS hG_7 hD hM) ?_
      rintro _ h_9 ⟨F_4, r_3, rfl, hk, hS, _, hM⟩
      replace hK := hK.trans hk
      replace hG_5 := hG_5.kp hk
      replace hG_7 := hG_7.kp hk
      obtain ⟨ho_7, hM⟩ := hM
      refine HA.val (k := 3) (v := .string (bs (r_3 ++ ([58, 58] : Str)))) rfl rfl (by kernel_rfl) (by kernel_rfl) (want_none) rfl (fun _ c201 => q_addT rfl rfl ho_7) ?_
      refine HA.one (k := 8) ⟨(hS.box 0 rfl), (Go.Wk.at_nil _ _)⟩ (by kernel_rfl) ?_
      refine HS.call rfl (want_none) rfl (ec en_66 rfl rfl) (addr_list_walk (fr := (Ow.box b_1 44 (e_api_Addr a).toArray :: fr)) a (r0_1 + r1_1) 8 hS hG_7 hD hM) ?_
      rintro _ h_10 ⟨F_5, r_4, rfl, hk, hS, _, hM⟩
      replace hK := hK.trans hk
      replace hG_5 := hG_5.kp hk
      replace hG_7 := hG_7.kp hk
      obtain ⟨ho_8, hM⟩ := hM
      refine HA.val (k := 9) (v := .string (bs ((r_3 ++ ([58, 58] : Str)) ++ r_4))) rfl rfl (by kernel_rfl) (by kernel_rfl) (want_none) rfl (fun _ c201 => q_addT rfl rfl ho_8) ?_
      refine HA.val (k := 10) (v := .string (bs ((r_3 ++ ([58, 58] : Str)) ++ r_4))) rfl rfl (by kernel_rfl) (by kernel_rfl) (want_none) rfl (fun _ c201 => q_assign rfl) ?_
      refine HA.nil ⟨(hS.box 0 rfl), (Go.Wk.at_nil _ _)⟩ (by kernel_rfl) (thenQ_normal (?_))
      refine HW.ret (?_)
      refine ⟨.inr rfl, .string (bs ((r_3 ++ ([58, 58] : Str)) ++ r_4)), res1 rfl (rt rfl), ?_⟩
      replace hS : St F_5 (fr) h_10 := hS.perm2 [] 1 rfl rfl
      exact ⟨F_5, (r_3 ++ ([58, 58] : Str)) ++ r_4, rfl, hK, hS, hG_5, hG_7, hM⟩

def addr_Parse_j2 (Q : T_api_Addr → Int → Prop) (r0_4 : T_api_Addr) (b_4 : Bool) : Prop :=
  (b_4 = true → Q (false, (default : Ba 16)) 2) ∧ (b_4 = false → Q r0_4 0)
def addr_Parse_j1 (s1 : Str) (Q : T_api_Addr → Int → Prop) (b_2 : Str) (ok_1 : Bool) : Prop :=
  addr_Read_W b_2 (fun r0_4 r1_4 => ((!ok_1) = true → addr_Parse_j2 Q r0_4 true) ∧ ((!ok_1) = false → (¬ (r1_4 = 0) → addr_Parse_j2 Q r0_4 true) ∧ (r1_4 = 0 → addr_text_W r0_4 (fun r_1 => addr_Parse_j2 Q r0_4 (!decide ((r_1 : Str) = s1))))))
def addr_Parse_W (s1 : Str) (Q : T_api_Addr → Int → Prop) : Prop :=
  addr_numbers_W s1 [46] 10 1 (fun r0_2 r1_2 => ((s1.length : Int) < 4294967281) ∧ (((hasS s1 ([58] : Str)) = true → addr_parse6_W s1 (fun r0_3 r1_3 => addr_Parse_j1 s1 Q r0_3 r1_3)) ∧ ((hasS s1 ([58] : Str)) = false → addr_Parse_j1 s1 Q r0_2 r1_2)))
set_option maxHeartbeats 40000000 in
set_option maxRecDepth 100000 in
theorem addr_Parse_walk {F : Fz} {fr : List Ow} {h0 : Heap} (s1 : Str) (gm : Int) (gvS : Value) (gbS : Bool) (gvR : Value) (gbR : Bool) (hS : St F (fr) h0) (hG_0 : RoF (Ow.box 0 3 #[.int .i64 gm]) F h0) (hG_3 : RoF (Ow.box 3 75 #[gvS]) F h0) (hE_gvS : ErrF gbS gvS F h0) (hG_4 : RoF (Ow.box 4 75 #[gvR]) F h0) (hE_gvR : ErrF gbR gvR F h0) (hG_5 : RoF (Ow.box 5 160 (tab10 ()).toArray) F h0) (hG_7 : RoF (Ow.box 7 164 (arrCells tab64).toArray) F h0) (hD : DM.on = false) {Q : T_api_Addr → Int → Prop} (hM : addr_Parse_W s1 Q) :
    HC Tryz.prog 21 #[.string (bs s1)] h0 fun u h' => ∃ (F' : Fz) (r0_1 : T_api_Addr) (r1_1 : Int), u = .tuple #[.agg (e_api_Addr r0_1).toArray, .int .i64 r1_1] ∧ Kp F h0 F' h' ∧ St F' (fr) h' ∧ (RoF (Ow.box 0 3 #[.int .i64 gm]) F' h') ∧ (RoF (Ow.box 3 75 #[gvS]) F' h') ∧ (ErrF gbS gvS F' h') ∧ (RoF (Ow.box 4 75 #[gvR]) F' h') ∧ (ErrF gbR gvR F' h') ∧ (RoF (Ow.box 5 160 (tab10 ()).toArray) F' h') ∧ (RoF (Ow.box 7 164 (arrCells tab64).toArray) F' h') ∧ Q r0_1 r1_1 := by
  unfold addr_Parse_W at hM
  have hK := Kp.refl F h0
  refine HC.of_HW (n := 39) Tryz.func21 rfl rfl (Nat.le_of_ble_eq_true rfl) ?_
  refine HW.seq ?_
  refine HW.region ?_
  refine HO.eff (want_none) rfl (st_alloc (c := (e_api_Addr (false, (default : Ba 16))).toArray) hS tz_44 rfl) ?_
  rintro _ h_1 ⟨b_1, rfl, hS, hk⟩
  replace hK := hK.trans hk
  replace hG_0 := hG_0.kp hk
  replace hG_3 := hG_3.kp hk
  replace hE_gvS := hE_gvS.kp hk
  replace hG_4 := hG_4.kp hk
  replace hE_gvR := hE_gvR.kp hk
  replace hG_5 := hG_5.kp hk
  replace hG_7 := hG_7.kp hk
  refine HO.val (v := .int .i64 0) (want_none) rfl (q_assign rfl) ?_
  refine HO.nil (thenQ_normal (?_))
  refine HW.seq ?_
  refine HW.region ?_
  refine HO.val (v := .string (bs s1)) (want_none) rfl (q_move rfl) ?_
  refine HO.call (want_none) rfl (ec en_37 rfl rfl) (addr_numbers_walk (fr := (Ow.box b_1 44 (e_api_Addr (false, (default : Ba 16))).toArray :: fr)) s1 [46] 10 1 gm gvS gbS gvR gbR hS hG_0 hG_3 hE_gvS hG_4 hE_gvR hD hM) ?_
  rintro _ h_2 ⟨F_1, r0_2, r1_2, rfl, hk, hS, _, _, _, _, _, hM⟩
  replace hK := hK.trans hk
  replace hG_0 := hG_0.kp hk
  replace hG_3 := hG_3.kp hk
  replace hE_gvS := hE_gvS.kp hk
  replace hG_4 := hG_4.kp hk
  replace hE_gvR := hE_gvR.kp hk
  replace hG_5 := hG_5.kp hk
  replace hG_7 := hG_7.kp hk
  refine HO.val (v := .tuple #[.string (bs r0_2), .bool r1_2]) (want_none) rfl (q_move rfl) ?_
  refine HO.val (v := .string (bs r0_2)) (want_none) rfl (q_extract rfl rfl) ?_
  refine HO.val (v := .bool r1_2) (want_none) rfl (q_extract rfl rfl) ?_
  refine HO.val (v := .string (bs r0_2)) (want_none) rfl (q_assign rfl) ?_
  refine HO.val (v := .bool r1_2) (want_none) rfl (q_assign rfl) ?_
  refine HO.nil (thenQ_normal (?_))
  refine HW.seq_mid (fun f h => ∃ (F' : Fz) (b_2 : Str) (ok_1 : Bool), f 0 = .string (bs s1) ∧ f 2 = .pointer (some ⟨b_1, 0, none⟩) ∧ f 3 = .int .i64 0 ∧ f 4 = .string (bs b_2) ∧ f 5 = .bool ok_1 ∧ Kp F h0 F' h ∧ St F' (Ow.box b_1 44 (e_api_Addr (false, (default : Ba 16))).toArray :: fr) h ∧ (RoF (Ow.box 0 3 #[.int .i64 gm]) F' h) ∧ (RoF (Ow.box 3 75 #[gvS]) F' h) ∧ (ErrF gbS gvS F' h) ∧ (RoF (Ow.box 4 75 #[gvR]) F' h) ∧ (ErrF gbR gvR F' h) ∧ (RoF (Ow.box 5 160 (tab10 ()).toArray) F' h) ∧ (RoF (Ow.box 7 164 (arrCells tab64).toArray) F' h) ∧ addr_Parse_j1 s1 Q b_2 ok_1) ?_ ?_
  · refine HW.seq ?_
    refine HW.region ?_
    refine HO.val (v := .string (bs s1)) (want_none) rfl (q_move rfl) ?_
    obtain ⟨ho_1, hM⟩ := hM
    refine HO.call (want_none) rfl (ec en_38 rfl rfl) (strContains_hc Tryz.has hG_0 s1 ([58] : Str) ho_1) ?_
    rintro _ h_3 ⟨rfl, hEq⟩
    rw [hEq]
    refine HO.nil (thenQ_normal (?_))
    refine HW.cond (hasS s1 ([58] : Str)) rfl (fun c_1 => ?_) (fun c_1 => ?_)
    · replace hM := hM.1 c_1
      refine HW.region ?_
      refine HO.val (v := .string (bs s1)) (want_none) rfl (q_move rfl) ?_
      refine HO.call (want_none) rfl (ec en_39 rfl rfl) (addr_parse6_walk (fr := (Ow.box b_1 44 (e_api_Addr (false, (default : Ba 16))).toArray :: fr)) s1 gm gvS gbS gvR gbR hS hG_0 hG_3 hE_gvS hG_4 hE_gvR hD hM) ?_
      rintro _ h_4 ⟨F_2, r0_3, r1_3, rfl, hk, hS, _, _, _, _, _, hM⟩
      replace hK := hK.trans hk
      replace hG_0 := hG_0.kp hk
      replace hG_3 := hG_3.kp hk
      replace hE_gvS := hE_gvS.kp hk
      replace hG_4 := hG_4.kp hk
      replace hE_gvR := hE_gvR.kp hk
      replace hG_5 := hG_5.kp hk
      replace hG_7 := hG_7.kp hk
      refine HO.val (v := .tuple #[.string (bs r0_3), .bool r1_3]) (want_none) rfl (q_move rfl) ?_
      refine HO.val (v := .string (bs r0_3)) (want_none) rfl (q_extract rfl rfl) ?_
      refine HO.val (v := .bool r1_3) (want_none) rfl (q_extract rfl rfl) ?_
      refine HO.val (v := .string (bs r0_3)) (want_none) rfl (q_assign rfl) ?_
      refine HO.val (v := .bool r1_3) (want_none) rfl (q_assign rfl) ?_
      refine HO.nil (thenQ_normal (?_))
      exact ⟨F_2, r0_3, r1_3, rfl, rfl, rfl, rfl, rfl, hK, hS, hG_0, hG_3, hE_gvS, hG_4, hE_gvR, hG_5, hG_7, hM⟩
    · replace hM := hM.2 c_1
      refine HW.skip (thenQ_normal (?_))
      exact ⟨F_1, r0_2, r1_2, rfl, rfl, rfl, rfl, rfl, hK, hS, hG_0, hG_3, hE_gvS, hG_4, hE_gvR, hG_5, hG_7, hM⟩
  · rintro f_1 h_5 ⟨F_3, b_2, ok_1, e0, e2, e3, e4, e5, hK, hS, hG_0, hG_3, hE_gvS, hG_4, hE_gvR, hG_5, hG_7, hM⟩
    unfold addr_Parse_j1 at hM
    refine HW.fr [(0, .string (bs s1)), (2, .pointer (some ⟨b_1, 0, none⟩)), (3, .int .i64 0), (4, .string (bs b_2)), (5, .bool ok_1)] ⟨e0, e2, e3, e4, e5, trivial⟩ ?_
    refine HW.seq ?_
    refine HW.region ?_
    refine HO.val (v := .string (bs b_2)) (want_none) rfl (q_move rfl) ?_
    refine HO.call (want_none) rfl (ec en_40 rfl rfl) (addr_Read_walk (fr := (Ow.box b_1 44 (e_api_Addr (false, (default : Ba 16))).toArray :: fr)) b_2 hS hM) ?_
    rintro _ h_6 ⟨F_4, r0_4, r1_4, rfl, hk, hS, hM⟩
    replace hK := hK.trans hk
    replace hG_0 := hG_0.kp hk
    replace hG_3 := hG_3.kp hk
    replace hE_gvS := hE_gvS.kp hk
    replace hG_4 := hG_4.kp hk
    replace hE_gvR := hE_gvR.kp hk
    replace hG_5 := hG_5.kp hk
    replace hG_7 := hG_7.kp hk
    refine HO.val (v := .tuple #[.agg (e_api_Addr r0_4).toArray, .int .i64 r1_4]) (want_none) rfl (q_move rfl) ?_
    refine HO.val (v := .agg (e_api_Addr r0_4).toArray) (want_none) rfl (q_extract rfl rfl) ?_
    refine HO.val (v := .int .i64 r1_4) (want_none) rfl (q_extract rfl rfl) ?_
    refine HO.eff (want_none) rfl (st_alloc (c := (e_api_Addr (false, (default : Ba 16))).toArray) hS tz_44 rfl) ?_
    rintro _ h_7 ⟨b_3, rfl, hS, hk⟩
    replace hK := hK.trans hk
    replace hG_0 := hG_0.kp hk
    replace hG_3 := hG_3.kp hk
    replace hE_gvS := hE_gvS.kp hk
    replace hG_4 := hG_4.kp hk
    replace hE_gvR := hE_gvR.kp hk
    replace hG_5 := hG_5.kp hk
    replace hG_7 := hG_7.kp hk
    refine HO.sto (want_none) rfl (st_storeAgg (c' := (e_api_Addr r0_4).toArray) hS (i := 0) rfl ta_44 rfl rfl rfl (one_e_api_Addr _) (Nat.le_of_ble_eq_true rfl) rfl) ?_
    rintro h_8 ⟨hS, hk⟩
    replace hS : St F_4 (Ow.box b_3 44 (e_api_Addr r0_4).toArray :: Ow.box b_1 44 (e_api_Addr (false, (default : Ba 16))).toArray :: fr) h_8 := hS
    replace hK := hK.trans hk
    replace hG_0 := hG_0.kp hk
    replace hG_3 := hG_3.kp hk
    replace hE_gvS := hE_gvS.kp hk
    replace hG_4 := hG_4.kp hk
    replace hE_gvR := hE_gvR.kp hk
    replace hG_5 := hG_5.kp hk
    replace hG_7 := hG_7.kp hk
    refine HO.val (v := .int .i64 r1_4) (want_none) rfl (q_assign rfl) ?_
    refine HO.nil (thenQ_normal (?_))
    refine HW.seq ?_
    refine HW.seq_mid (fun f h => ∃ (F' : Fz) (b_4 : Bool), f 2 = .pointer (some ⟨b_1, 0, none⟩) ∧ f 3 = .int .i64 0 ∧ f 6 = .pointer (some ⟨b_3, 0, none⟩) ∧ f 36 = .bool b_4 ∧ Kp F h0 F' h ∧ St F' (Ow.box b_1 44 (e_api_Addr (false, (default : Ba 16))).toArray :: Ow.box b_3 44 (e_api_Addr r0_4).toArray :: fr) h ∧ (RoF (Ow.box 0 3 #[.int .i64 gm]) F' h) ∧ (RoF (Ow.box 3 75 #[gvS]) F' h) ∧ (ErrF gbS gvS F' h) ∧ (RoF (Ow.box 4 75 #[gvR]) F' h) ∧ (ErrF gbR gvR F' h) ∧ (RoF (Ow.box 5 160 (tab10 ()).toArray) F' h) ∧ (RoF (Ow.box 7 164 (arrCells tab64).toArray) F' h) ∧ addr_Parse_j2 Q r0_4 b_4) ?_ ?_
    · refine HW.region ?_
      refine HO.val (v := .bool ok_1) (want_none) rfl (q_move rfl) ?_
      refine HO.val (v := .bool (!ok_1)) (want_none) rfl (q_not rfl) ?_
      refine HO.val (v := .bool (!ok_1)) (want_none) rfl (q_move rfl) ?_
      rcases Bool.eq_false_or_eq_true (!ok_1) with c_2 | c_2
      · replace hM := hM.1 c_2
        refine HO.past (past_by rfl rfl c_2) rfl ?_
        refine HO.past (past_by rfl rfl c_2) rfl ?_
        refine HO.val (v := .bool true) (want_none) rfl (q_pickK true rfl c_2 rfl) ?_
        refine HO.val (v := .bool true) (want_none) rfl (q_move rfl) ?_
        refine HO.past (past_some rfl rfl) rfl ?_
        refine HO.past (past_some rfl rfl) rfl ?_
        refine HO.past (past_some rfl rfl) rfl ?_
        refine HO.past (past_some rfl rfl) rfl ?_
        refine HO.val (v := .bool true) (want_none) rfl (q_pick rfl rfl) ?_
        refine HO.nil (thenQ_normal (?_))
        replace hS : St F_4 (Ow.box b_1 44 (e_api_Addr (false, (default : Ba 16))).toArray :: Ow.box b_3 44 (e_api_Addr r0_4).toArray :: fr) h_8 := hS.perm2 [1, 0] 2 rfl rfl
        exact ⟨F_4, true, rfl, rfl, rfl, rfl, hK, hS, hG_0, hG_3, hE_gvS, hG_4, hE_gvR, hG_5, hG_7, hM⟩
      · replace hM := hM.2 c_2
        refine HO.val (v := .int .i64 r1_4) (want_by rfl rfl c_2) rfl (q_move rfl) ?_
        refine HO.val (v := .bool (!decide (r1_4 = 0))) (want_by rfl rfl c_2) rfl (q_neq rfl rfl) ?_
        refine HO.val (v := .bool (!decide (r1_4 = 0))) (want_none) rfl (q_pickK false rfl c_2 rfl) ?_
        refine HO.val (v := .bool (!decide (r1_4 = 0))) (want_none) rfl (q_move rfl) ?_
        rcases Bool.eq_false_or_eq_true (!decide (r1_4 = 0)) with c_3 | c_3
        · replace hM := hM.1 (nd_true c_3)
          refine HO.past (past_by rfl rfl c_3) rfl ?_
          refine HO.past (past_by rfl rfl c_3) rfl ?_
          refine HO.past (past_by rfl rfl c_3) rfl ?_
          refine HO.past (past_by rfl rfl c_3) rfl ?_
          refine HO.val (v := .bool true) (want_none) rfl (q_pickK true rfl c_3 rfl) ?_
          refine HO.nil (thenQ_normal (?_))
          replace hS : St F_4 (Ow.box b_1 44 (e_api_Addr (false, (default : Ba 16))).toArray :: Ow.box b_3 44 (e_api_Addr r0_4).toArray :: fr) h_8 := hS.perm2 [1, 0] 2 rfl rfl
          exact ⟨F_4, true, rfl, rfl, rfl, rfl, hK, hS, hG_0, hG_3, hE_gvS, hG_4, hE_gvR, hG_5, hG_7, hM⟩
        · replace hM := hM.2 (nd_false c_3)
          refine HO.val (v := .agg (e_api_Addr r0_4).toArray) (want_by rfl rfl c_3) rfl (q_loadAgg (cs := (e_api_Addr r0_4)) ta_44 rfl rfl (Blk.cells (k := 17) (hS.box 0 rfl) rfl)) ?_
          refine HO.call (want_by rfl rfl c_3) rfl (ec en_41 rfl rfl) (addr_text_walk (fr := (Ow.box b_3 44 (e_api_Addr r0_4).toArray :: Ow.box b_1 44 (e_api_Addr (false, (default : Ba 16))).toArray :: fr)) r0_4 hS hG_5 hG_7 hD hM) ?_
          rintro _ h_9 ⟨F_5, r_1, rfl, hk, hS, _, _, hM⟩
          replace hK := hK.trans hk
          replace hG_0 := hG_0.kp hk
          replace hG_3 := hG_3.kp hk
          replace hE_gvS := hE_gvS.kp hk
          replace hG_4 := hG_4.kp hk
          replace hE_gvR := hE_gvR.kp hk
          replace hG_5 := hG_5.kp hk
          replace hG_7 := hG_7.kp hk
          refine HO.val (v := .string (bs s1)) (want_by rfl rfl c_3) rfl (q_move rfl) ?_
          refine HO.val (v := .bool (!decide ((r_1 : Str) = s1))) (want_by rfl rfl c_3) rfl (q_neqT rfl rfl) ?_
          refine HO.val (v := .bool (!decide ((r_1 : Str) = s1))) (want_none) rfl (q_pickK false rfl c_3 rfl) ?_
          refine HO.nil (thenQ_normal (?_))
          replace hS : St F_5 (Ow.box b_1 44 (e_api_Addr (false, (default : Ba 16))).toArray :: Ow.box b_3 44 (e_api_Addr r0_4).toArray :: fr) h_9 := hS.perm2 [1, 0] 2 rfl rfl
          exact ⟨F_5, !decide ((r_1 : Str) = s1), rfl, rfl, rfl, rfl, hK, hS, hG_0, hG_3, hE_gvS, hG_4, hE_gvR, hG_5, hG_7, hM⟩
    · rintro f_2 h_10 ⟨F_6, b_4, e2, e3, e6, e36, hK, hS, hG_0, hG_3, hE_gvS, hG_4, hE_gvR, hG_5, hG_7, hM⟩
      unfold addr_Parse_j2 at hM
      refine HW.fr [(2, .pointer (some ⟨b_1, 0, none⟩)), (3, .int .i64 0), (6, .pointer (some ⟨b_3, 0, none⟩)), (36, .bool b_4)] ⟨e2, e3, e6, e36, trivial⟩ ?_
      refine HW.cond b_4 rfl (fun c_4 => ?_) (fun c_4 => ?_)
      · replace hM := hM.1 c_4
        refine HW.seq ?_
        refine HW.region ?_
        refine HO.val (v := .agg (e_api_Addr (false, (default : Ba 16))).toArray) (want_none) rfl (q_build tp_44 rfl) ?_
        refine HO.sto (want_none) rfl (st_storeAgg (c' := (e_api_Addr (false, (default : Ba 16))).toArray) hS (i := 0) rfl ta_44 rfl rfl rfl (one_e_api_Addr _) (Nat.le_of_ble_eq_true rfl) rfl) ?_
        rintro h_11 ⟨hS, hk⟩
        replace hS : St F_6 (Ow.box b_1 44 (e_api_Addr (false, (default : Ba 16))).toArray :: Ow.box b_3 44 (e_api_Addr r0_4).toArray :: fr) h_11 := hS
        replace hK := hK.trans hk
        replace hG_0 := hG_0.kp hk
        replace hG_3 := hG_3.kp hk
        replace hE_gvS := hE_gvS.kp hk
        replace hG_4 := hG_4.kp hk
        replace hE_gvR := hE_gvR.kp hk
        replace hG_5 := hG_5.kp hk
        replace hG_7 := hG_7.kp hk
        refine HO.val (v := .int .i64 2) (want_none) rfl (q_assign rfl) ?_
        refine HO.nil (thenQ_normal (?_))
        refine HW.ret (thenQ_ret (?_))
        refine ⟨.inr rfl, .tuple #[.agg (e_api_Addr (false, (default : Ba 16))).toArray, .int .i64 2], res2 rfl (rca (cs := (e_api_Addr (false, (default : Ba 16)))) ta_44 rfl rfl (Blk.cells (k := 17) (hS.box 0 rfl) rfl)) (rt rfl), ?_⟩
        replace hS : St F_6 (fr) h_11 := hS.perm2 [] 2 rfl rfl
        exact ⟨F_6, (false, (default : Ba 16)), 2, rfl, hK, hS, hG_0, hG_3, hE_gvS, hG_4, hE_gvR, hG_5, hG_7, hM⟩
      · replace hM := hM.2 c_4
        refine HW.skip (thenQ_normal (?_))
        refine HW.seq ?_
        refine HW.region ?_
        refine HO.val (v := .agg (e_api_Addr r0_4).toArray) (want_none) rfl (q_loadAgg (cs := (e_api_Addr r0_4)) ta_44 rfl rfl (Blk.cells (k := 17) (hS.box 1 rfl) rfl)) ?_
        refine HO.sto (want_none) rfl (st_storeAgg (c' := (e_api_Addr r0_4).toArray) hS (i := 0) rfl ta_44 rfl rfl rfl (one_e_api_Addr _) (Nat.le_of_ble_eq_true rfl) rfl) ?_
        rintro h_12 ⟨hS, hk⟩
        replace hS : St F_6 (Ow.box b_1 44 (e_api_Addr r0_4).toArray :: Ow.box b_3 44 (e_api_Addr r0_4).toArray :: fr) h_12 := hS
        replace hK := hK.trans hk
        replace hG_0 := hG_0.kp hk
        replace hG_3 := hG_3.kp hk
        replace hE_gvS := hE_gvS.kp hk
        replace hG_4 := hG_4.kp hk
        replace hE_gvR := hE_gvR.kp hk
        replace hG_5 := hG_5.kp hk
        replace hG_7 := hG_7.kp hk
        refine HO.val (v := .int .i64 0) (want_none) rfl (q_assign rfl) ?_
        refine HO.nil (thenQ_normal (?_))
        refine HW.ret (?_)
        refine ⟨.inr rfl, .tuple #[.agg (e_api_Addr r0_4).toArray, .int .i64 0], res2 rfl (rca (cs := (e_api_Addr r0_4)) ta_44 rfl rfl (Blk.cells (k := 17) (hS.box 0 rfl) rfl)) (rt rfl), ?_⟩
        replace hS : St F_6 (fr) h_12 := hS.perm2 [] 2 rfl rfl
        exact ⟨F_6, r0_4, 0, rfl, hK, hS, hG_0, hG_3, hE_gvS, hG_4, hE_gvR, hG_5, hG_7, hM⟩

def addr_bytes_W (a : T_api_Addr) (Q : Str → Prop) : Prop :=
  (a.1 = true → Q (cut a.2.1 0 16)) ∧ (a.1 = false → Q (cut a.2.1 0 4))
set_option maxHeartbeats 40000000 in
set_option maxRecDepth 100000 in
theorem addr_bytes_walk {F : Fz} {fr : List Ow} {h0 : Heap} (a : T_api_Addr) (hS : St F (fr) h0)  {Q : Str → Prop} (hM : addr_bytes_W a Q) :
    HC Tryz.prog 43 #[.agg (e_api_Addr a).toArray] h0 fun u h' => ∃ (F' : Fz) (r_1 : Str), u = .string (bs r_1) ∧ Kp F h0 F' h' ∧ St F' (fr) h' ∧ Q r_1 := by
  unfold addr_bytes_W at hM
  have hK := Kp.refl F h0
  refine HC.of_HW (n := 11) Tryz.func43 rfl rfl (Nat.le_of_ble_eq_true rfl) ?_
  refine HW.seq ?_
  refine HW.region ?_
  refine HO.eff (want_none) rfl (st_box (c := (e_api_Addr a).toArray) (k' := 17) hS rfl rfl) ?_
  rintro _ h_1 ⟨b_1, rfl, hS, hk⟩
  replace hK := hK.trans hk
  refine HO.val (v := .string (bs [])) (want_none) rfl (q_assign rfl) ?_
  refine HO.nil (thenQ_normal (?_))
  refine HW.seq ?_
  refine HW.seq ?_
  refine HW.region ?_
  refine HO.val (v := .pointer (some ⟨b_1, 0, none⟩)) (want_none) rfl (q_fieldAddr fa_44_0 rfl rfl) ?_
  refine HO.val (v := .bool a.1) (want_none) rfl (q_load to_4 rfl (Blk.cell (hS.box 0 rfl) rfl)) ?_
  refine HO.nil (thenQ_normal (?_))
  refine HW.cond a.1 rfl (fun c_1 => ?_) (fun c_1 => ?_)
  · replace hM := hM.1 c_1
    refine HW.seq ?_
    refine HW.region ?_
    refine HO.val (v := .pointer (some ⟨b_1, 1, none⟩)) (want_none) rfl (q_fieldAddr fa_44_1 rfl rfl) ?_
    refine HO.val (v := arrV b_1 1 16 0 16) (want_none) rfl (q_sliceA (o := 1) (lo := 0) (hi := 16) (kl := .i64) (kh := .i64) tr_42 rfl (.inl ⟨rfl, rfl⟩) (.inl ⟨rfl, rfl⟩) ⟨by decide, by decide, by decide⟩) ?_
    refine HO.val (v := .string (bs (cut a.2.1 0 16))) (want_none) rfl (q_bytesStr ts_79 Tryz.underlying5 Tryz.underlying9 (arrSl (o := 1) (n := 16) (X := a.2) (lo := 0) (hi := 16) (hS.box 0 rfl) rfl ⟨by decide, by decide, by decide⟩ (by decide)) rfl) ?_
    refine HO.val (v := .string (bs (cut a.2.1 0 16))) (want_none) rfl (q_assign rfl) ?_
    refine HO.nil (thenQ_normal (?_))
    refine HW.ret (thenQ_ret (?_))
    refine ⟨.inr rfl, .string (bs (cut a.2.1 0 16)), res1 rfl (rt rfl), ?_⟩
    replace hS : St F (fr) h_1 := hS.perm2 [] 1 rfl rfl
    exact ⟨F, cut a.2.1 0 16, rfl, hK, hS, hM⟩
  · replace hM := hM.2 c_1
    refine HW.skip (thenQ_normal (?_))
    refine HW.seq ?_
    refine HW.region ?_
    refine HO.val (v := .pointer (some ⟨b_1, 1, none⟩)) (want_none) rfl (q_fieldAddr fa_44_1 rfl rfl) ?_
    refine HO.val (v := arrV b_1 1 16 0 4) (want_none) rfl (q_sliceA (o := 1) (lo := 0) (hi := 4) (kl := .i64) tr_42 rfl (.inl ⟨rfl, rfl⟩) (.inr ⟨_, rfl, rfl⟩) ⟨by decide, by decide, by decide⟩) ?_
    refine HO.val (v := .string (bs (cut a.2.1 0 4))) (want_none) rfl (q_bytesStr ts_79 Tryz.underlying5 Tryz.underlying9 (arrSl (o := 1) (n := 16) (X := a.2) (lo := 0) (hi := 4) (hS.box 0 rfl) rfl ⟨by decide, by decide, by decide⟩ (by decide)) rfl) ?_
    refine HO.val (v := .string (bs (cut a.2.1 0 4))) (want_none) rfl (q_assign rfl) ?_
    refine HO.nil (thenQ_normal (?_))
    refine HW.ret (?_)
    refine ⟨.inr rfl, .string (bs (cut a.2.1 0 4)), res1 rfl (rt rfl), ?_⟩
    replace hS : St F (fr) h_1 := hS.perm2 [] 1 rfl rfl
    exact ⟨F, cut a.2.1 0 4, rfl, hK, hS, hM⟩

def addr_Cmp_j1 (a : T_api_Addr) (b : T_api_Addr) (Q : Int → Prop) : Prop :=
  addr_bytes_W a (fun r_2 => addr_bytes_W b (fun r_3 => Q (scmp r_2 r_3)))
def addr_Cmp_j2 (a : T_api_Addr) (b : T_api_Addr) (Q : Int → Prop) (b_3 : Bool) : Prop :=
  (b_3 = true → Q 1) ∧ (b_3 = false → ((!a.1) = true → (b.1 = true → Q (-1)) ∧ (b.1 = false → addr_Cmp_j1 a b Q)) ∧ ((!a.1) = false → addr_Cmp_j1 a b Q))
def addr_Cmp_W (a : T_api_Addr) (b : T_api_Addr) (Q : Int → Prop) : Prop :=
  (a.1 = true → addr_Cmp_j2 a b Q (!b.1)) ∧ (a.1 = false → addr_Cmp_j2 a b Q false)
set_option maxHeartbeats 40000000 in
set_option maxRecDepth 100000 in
theorem addr_Cmp_walk {F : Fz} {fr : List Ow} {h0 : Heap} (a : T_api_Addr) (b : T_api_Addr) (hS : St F (fr) h0)  {Q : Int → Prop} (hM : addr_Cmp_W a b Q) :
    HC Tryz.prog 22 #[.agg (e_api_Addr a).toArray, .agg (e_api_Addr b).toArray] h0 fun u h' => ∃ (F' : Fz) (r_1 : Int), u = .int .i64 r_1 ∧ Kp F h0 F' h' ∧ St F' (fr) h' ∧ Q r_1 := by
  unfold addr_Cmp_W at hM
  have hK := Kp.refl F h0
  refine HC.of_HW (n := 26) Tryz.func22 rfl rfl (Nat.le_of_ble_eq_true rfl) ?_
  refine HW.seq ?_
  refine HW.region ?_
  refine HO.eff (want_none) rfl (st_box (c := (e_api_Addr a).toArray) (k' := 17) hS rfl rfl) ?_
  rintro _ h_1 ⟨b_1, rfl, hS, hk⟩
  replace hK := hK.trans hk
  refine HO.eff (want_none) rfl (st_box (c := (e_api_Addr b).toArray) (k' := 17) hS rfl rfl) ?_
  rintro _ h_2 ⟨b_2, rfl, hS, hk⟩
  replace hK := hK.trans hk
  refine HO.val (v := .int .i64 0) (want_none) rfl (q_assign rfl) ?_
  refine HO.nil (thenQ_normal (?_))
  refine HW.seq_mid (fun f h => ∃ (F' : Fz), f 2 = .pointer (some ⟨b_1, 0, none⟩) ∧ f 3 = .pointer (some ⟨b_2, 0, none⟩) ∧ f 4 = .int .i64 0 ∧ Kp F h0 F' h ∧ St F' (Ow.box b_1 44 (e_api_Addr a).toArray :: Ow.box b_2 44 (e_api_Addr b).toArray :: fr) h ∧ addr_Cmp_j1 a b Q) ?_ ?_
  · refine HW.block ?_
    refine HW.seq_mid (fun f h => ∃ (F' : Fz) (b_3 : Bool), f 2 = .pointer (some ⟨b_1, 0, none⟩) ∧ f 3 = .pointer (some ⟨b_2, 0, none⟩) ∧ f 4 = .int .i64 0 ∧ f 5 = .bool b_3 ∧ Kp F h0 F' h ∧ St F' (Ow.box b_1 44 (e_api_Addr a).toArray :: Ow.box b_2 44 (e_api_Addr b).toArray :: fr) h ∧ addr_Cmp_j2 a b Q b_3) ?_ ?_
    · refine HW.region ?_
      refine HO.val (v := .pointer (some ⟨b_1, 0, none⟩)) (want_none) rfl (q_fieldAddr fa_44_0 rfl rfl) ?_
      refine HO.val (v := .bool a.1) (want_none) rfl (q_load to_4 rfl (Blk.cell (hS.box 1 rfl) rfl)) ?_
      refine HO.val (v := .bool a.1) (want_none) rfl (q_move rfl) ?_
      rcases Bool.eq_false_or_eq_true a.1 with c_1 | c_1
      · replace hM := hM.1 c_1
        refine HO.val (v := .pointer (some ⟨b_2, 0, none⟩)) (want_by rfl rfl c_1) rfl (q_fieldAddr fa_44_0 rfl rfl) ?_
        refine HO.val (v := .bool b.1) (want_by rfl rfl c_1) rfl (q_load to_4 rfl (Blk.cell (hS.box 0 rfl) rfl)) ?_
        refine HO.val (v := .bool (!b.1)) (want_by rfl rfl c_1) rfl (q_not rfl) ?_
        refine HO.val (v := .bool (!b.1)) (want_none) rfl (q_pickK true rfl c_1 rfl) ?_
        refine HO.val (v := .bool (!b.1)) (want_none) rfl (q_assign rfl) ?_
        refine HO.nil (thenQ_normal (?_))
        replace hS : St F (Ow.box b_1 44 (e_api_Addr a).toArray :: Ow.box b_2 44 (e_api_Addr b).toArray :: fr) h_2 := hS.perm2 [1, 0] 2 rfl rfl
        exact ⟨F, !b.1, rfl, rfl, rfl, rfl, hK, hS, hM⟩
      · replace hM := hM.2 c_1
        refine HO.past (past_by rfl rfl c_1) rfl ?_
        refine HO.past (past_by rfl rfl c_1) rfl ?_
        refine HO.past (past_by rfl rfl c_1) rfl ?_
        refine HO.val (v := .bool false) (want_none) rfl (q_pickK false rfl c_1 rfl) ?_
        refine HO.val (v := .bool false) (want_none) rfl (q_assign rfl) ?_
        refine HO.nil (thenQ_normal (?_))
        replace hS : St F (Ow.box b_1 44 (e_api_Addr a).toArray :: Ow.box b_2 44 (e_api_Addr b).toArray :: fr) h_2 := hS.perm2 [1, 0] 2 rfl rfl
        exact ⟨F, false, rfl, rfl, rfl, rfl, hK, hS, hM⟩
    · rintro f_1 h_3 ⟨F_1, b_3, e2, e3, e4, e5, hK, hS, hM⟩
      unfold addr_Cmp_j2 at hM
      refine HW.fr [(2, .pointer (some ⟨b_1, 0, none⟩)), (3, .pointer (some ⟨b_2, 0, none⟩)), (4, .int .i64 0), (5, .bool b_3)] ⟨e2, e3, e4, e5, trivial⟩ ?_
      refine HW.cond b_3 rfl (fun c_2 => ?_) (fun c_2 => ?_)
      · replace hM := hM.1 c_2
        refine HW.seq ?_
        refine HW.region ?_
        refine HO.val (v := .int .i64 1) (want_none) rfl (q_assign rfl) ?_
        refine HO.nil (thenQ_normal (?_))
        refine HW.ret (blockQ_ret (thenQ_ret (?_)))
        refine ⟨.inr rfl, .int .i64 1, res1 rfl (rt rfl), ?_⟩
        replace hS : St F_1 (fr) h_3 := hS.perm2 [] 2 rfl rfl
        exact ⟨F_1, 1, rfl, hK, hS, hM⟩
      · replace hM := hM.2 c_2
        refine HW.seq ?_
        refine HW.region ?_
        refine HO.val (v := .pointer (some ⟨b_1, 0, none⟩)) (want_none) rfl (q_fieldAddr fa_44_0 rfl rfl) ?_
        refine HO.val (v := .bool a.1) (want_none) rfl (q_load to_4 rfl (Blk.cell (hS.box 0 rfl) rfl)) ?_
        refine HO.val (v := .bool (!a.1)) (want_none) rfl (q_not rfl) ?_
        refine HO.val (v := .bool (!a.1)) (want_none) rfl (q_move rfl) ?_
        rcases Bool.eq_false_or_eq_true (!a.1) with c_3 | c_3
        · replace hM := hM.1 c_3
          refine HO.val (v := .pointer (some ⟨b_2, 0, none⟩)) (want_by rfl rfl c_3) rfl (q_fieldAddr fa_44_0 rfl rfl) ?_
          refine HO.val (v := .bool b.1) (want_by rfl rfl c_3) rfl (q_load to_4 rfl (Blk.cell (hS.box 1 rfl) rfl)) ?_
          refine HO.val (v := .bool b.1) (want_none) rfl (q_pickK true rfl c_3 rfl) ?_
          refine HO.val (v := .bool b.1) (want_none) rfl (q_assign rfl) ?_
          refine HO.nil (thenQ_normal (?_))
          refine HW.cond b.1 rfl (fun c_4 => ?_) (fun c_4 => ?_)
          · replace hM := hM.1 c_4
            refine HW.seq ?_
            refine HW.region ?_
            refine HO.val (v := .int .i64 (-1)) (want_none) rfl (q_assign rfl) ?_
            refine HO.nil (thenQ_normal (?_))
            refine HW.ret (blockQ_ret (thenQ_ret (?_)))
            refine ⟨.inr rfl, .int .i64 (-1), res1 rfl (rt rfl), ?_⟩
            replace hS : St F_1 (fr) h_3 := hS.perm2 [] 2 rfl rfl
            exact ⟨F_1, (-1), rfl, hK, hS, hM⟩
          · replace hM := hM.2 c_4
            refine HW.skip (blockQ_normal (thenQ_normal (?_)))
            exact ⟨F_1, rfl, rfl, rfl, hK, hS, hM⟩
        · replace hM := hM.2 c_3
          refine HO.past (past_by rfl rfl c_3) rfl ?_
          refine HO.past (past_by rfl rfl c_3) rfl ?_
          refine HO.val (v := .bool false) (want_none) rfl (q_pickK false rfl c_3 rfl) ?_
          refine HO.val (v := .bool false) (want_none) rfl (q_assign rfl) ?_
          refine HO.nil (thenQ_normal (?_))
          refine HW.condF rfl ?_
          refine HW.skip (blockQ_normal (thenQ_normal (?_)))
          exact ⟨F_1, rfl, rfl, rfl, hK, hS, hM⟩
  · rintro f_2 h_4 ⟨F_2, e2, e3, e4, hK, hS, hM⟩
    unfold addr_Cmp_j1 at hM
    refine HW.fr [(2, .pointer (some ⟨b_1, 0, none⟩)), (3, .pointer (some ⟨b_2, 0, none⟩)), (4, .int .i64 0)] ⟨e2, e3, e4, trivial⟩ ?_
    refine HW.seq ?_
    refine HW.regionA 6 mixed (fun h => (Blk h b_1 (.cells (e_api_Addr a).toArray 44 (0, 0))) ∧ (Blk h b_2 (.cells (e_api_Addr b).toArray 44 (0, 0)))) [] (by kernel_rfl) ?_
    refine HA.val (k := 0) (v := .agg (e_api_Addr a).toArray) rfl rfl (by kernel_rfl) (by kernel_rfl) (want_none) rfl (fun _ ⟨c203, c204⟩ => q_loadAgg (cs := (e_api_Addr a)) ta_44 rfl rfl (Blk.cells (k := 17) c203 rfl)) ?_
    refine HA.val (k := 2) (v := .agg (e_api_Addr b).toArray) rfl rfl (by kernel_rfl) (by kernel_rfl) (want_none) rfl (fun _ ⟨c203, c204⟩ => q_loadAgg (cs := (e_api_Addr b)) ta_44 rfl rfl (Blk.cells (k := 17) c204 rfl)) ?_
    refine HA.one (k := 1) ⟨⟨(hS.box 0 rfl), (hS.box 1 rfl)⟩, (Go.Wk.at_nil _ _)⟩ (by kernel_rfl) ?_
    refine HS.call rfl (want_none) rfl (ec en_43 rfl rfl) (addr_bytes_walk (fr := (Ow.box b_1 44 (e_api_Addr a).toArray :: Ow.box b_2 44 (e_api_Addr b).toArray :: fr)) a hS hM) ?_
    rintro _ h_5 ⟨F_3, r_2, rfl, hk, hS, hM⟩
    replace hK := hK.trans hk
    refine HA.one (k := 3) ⟨⟨(hS.box 0 rfl), (hS.box 1 rfl)⟩, (Go.Wk.at_nil _ _)⟩ (by kernel_rfl) ?_
    refine HS.call rfl (want_none) rfl (ec en_43 rfl rfl) (addr_bytes_walk (fr := (Ow.box b_1 44 (e_api_Addr a).toArray :: Ow.box b_2 44 (e_api_Addr b).toArray :: fr)) b hS hM) ?_
    rintro _ h_6 ⟨F_4, r_3, rfl, hk, hS, hM⟩
    replace hK := hK.trans hk
    refine HA.one (k := 4) ⟨⟨(hS.box 0 rfl), (hS.box 1 rfl)⟩, (Go.Wk.at_nil _ _)⟩ (by kernel_rfl) ?_
    refine HS.call rfl (want_none) rfl (ec en_42 rfl rfl) (strCompare_hc Tryz.strCmp  r_2 r_3 _) ?_
    rintro _ h_7 ⟨rfl, hEq⟩
    rw [hEq]
    refine HA.val (k := 5) (v := .int .i64 (scmp r_2 r_3)) rfl rfl (by kernel_rfl) (by kernel_rfl) (want_none) rfl (fun _ ⟨c203, c204⟩ => q_assign rfl) ?_
    refine HA.nil ⟨⟨(hS.box 0 rfl), (hS.box 1 rfl)⟩, (Go.Wk.at_nil _ _)⟩ (by kernel_rfl) (thenQ_normal (?_))
    refine HW.ret (?_)
    refine ⟨.inr rfl, .int .i64 (scmp r_2 r_3), res1 rfl (rt rfl), ?_⟩
    replace hS : St F_4 (fr) h_6 := hS.perm2 [] 2 rfl rfl
    exact ⟨F_4, scmp r_2 r_3, rfl, hK, hS, hM⟩

def srcs_Parse_j1 (l_1 : List T_api_Addr) (out_1 : List T_api_Addr) (n_1 : Int) (K_1 : (List T_api_Addr) → (List T_api_Addr) → Int → Prop) (r0_2 : T_api_Addr) : Prop :=
  ((out_1.length + ([r0_2] : List T_api_Addr).length) * 17 ≤ 140737488355328) ∧ ((I64 (n_1 + 1)) ∧ (K_1 l_1 (out_1 ++ ([r0_2] : List T_api_Addr)) (n_1 + 1)))
def srcs_Parse_l2 (s1 : Str) (Q : (List T_api_Addr) → Int → Prop) (K_1 : (List T_api_Addr) → (List T_api_Addr) → Int → Prop) (l_1 : List T_api_Addr) (out_1 : List T_api_Addr) (n_1 : Int) : Prop :=
  (n_1 < ((splitS s1 ([44] : Str)).length : Int) → ((0 : Int) ≤ n_1 ∧ n_1 < ((splitS s1 ([44] : Str)).length : Int)) ∧ (addr_Parse_W (gi (splitS s1 ([44] : Str)) n_1) (fun r0_2 r1_2 => (¬ (r1_2 = 0) → Q [] 2) ∧ (r1_2 = 0 → (0 < (out_1.length : Int) → (I64 ((out_1.length : Int) - 1)) ∧ (((0 : Int) ≤ (out_1.length : Int) - 1 ∧ (out_1.length : Int) - 1 < (out_1.length : Int)) ∧ (addr_Cmp_W ((gi out_1 ((out_1.length : Int) - 1)).1, ((gi out_1 ((out_1.length : Int) - 1)).2)) r0_2 (fun r_1 => (0 ≤ r_1 → Q [] 2) ∧ (¬ (0 ≤ r_1) → srcs_Parse_j1 l_1 out_1 n_1 K_1 r0_2))))) ∧ (¬ (0 < (out_1.length : Int)) → srcs_Parse_j1 l_1 out_1 n_1 K_1 r0_2))))) ∧ (¬ (n_1 < ((splitS s1 ([44] : Str)).length : Int)) → Q out_1 0)
def srcs_Parse_W (s1 : Str) (Q : (List T_api_Addr) → Int → Prop) : Prop :=
  ((s1 : Str) = [45] → Q [] 0) ∧ (¬ ((s1 : Str) = [45]) → ((s1.length : Int) < 4294967281 ∧ 1 ≤ ((([44] : Str)).length : Int)) ∧ (loopW (fun (K_1 : (List T_api_Addr × List T_api_Addr × Int) → Prop) (s : List T_api_Addr × List T_api_Addr × Int) => srcs_Parse_l2 s1 Q (fun l_1 out_1 n_1 => K_1 (l_1, out_1, n_1)) s.1 s.2.1 s.2.2) ([], [], 0)))
set_option maxHeartbeats 40000000 in
set_option maxRecDepth 100000 in
theorem srcs_Parse_walk {F : Fz} {fr : List Ow} {h0 : Heap} (s1 : Str) (gm : Int) (gvS : Value) (gbS : Bool) (gvR : Value) (gbR : Bool) (hS : St F (fr) h0) (hG_0 : RoF (Ow.box 0 3 #[.int .i64 gm]) F h0) (hG_3 : RoF (Ow.box 3 75 #[gvS]) F h0) (hE_gvS : ErrF gbS gvS F h0) (hG_4 : RoF (Ow.box 4 75 #[gvR]) F h0) (hE_gvR : ErrF gbR gvR F h0) (hG_5 : RoF (Ow.box 5 160 (tab10 ()).toArray) F h0) (hG_7 : RoF (Ow.box 7 164 (arrCells tab64).toArray) F h0) (hD : DM.on = false) {Q : (List T_api_Addr) → Int → Prop} (hM : srcs_Parse_W s1 Q) :
    HC Tryz.prog 8 #[.string (bs s1)] h0 fun u h' => ∃ (F' : Fz) (r0_1 : List T_api_Addr) (r1_1 : Int) (vr0_1 : Value), u = .tuple #[vr0_1, .int .i64 r1_1] ∧ Kp F h0 F' h' ∧ St F' (Ow.own 44 17 e_api_Addr vr0_1 r0_1 :: fr) h' ∧ (RoF (Ow.box 0 3 #[.int .i64 gm]) F' h') ∧ (RoF (Ow.box 3 75 #[gvS]) F' h') ∧ (ErrF gbS gvS F' h') ∧ (RoF (Ow.box 4 75 #[gvR]) F' h') ∧ (ErrF gbR gvR F' h') ∧ (RoF (Ow.box 5 160 (tab10 ()).toArray) F' h') ∧ (RoF (Ow.box 7 164 (arrCells tab64).toArray) F' h') ∧ Q r0_1 r1_1 := by
  unfold srcs_Parse_W at hM
  have hK := Kp.refl F h0
  refine HC.of_HW (n := 47) Tryz.func8 rfl rfl (Nat.le_of_ble_eq_true rfl) ?_
  refine HW.seq ?_
  refine HW.region ?_
  refine HO.val (v := .slice none 0 0) (want_none) rfl (q_assign rfl) ?_
  refine HO.val (v := .int .i64 0) (want_none) rfl (q_assign rfl) ?_
  refine HO.nil (thenQ_normal (?_))
  refine HW.seq ?_
  refine HW.region ?_
  refine HO.val (v := .slice none 0 0) (want_none) rfl (q_assign rfl) ?_
  refine HO.nil (thenQ_normal (?_))
  refine HW.seq ?_
  refine HW.seq ?_
  refine HW.region ?_
  refine HO.val (v := .string (bs s1)) (want_none) rfl (q_move rfl) ?_
  refine HO.val (v := .bool (decide ((s1 : Str) = [45]))) (want_none) rfl (q_eqlT rfl rfl) ?_
  refine HO.nil (thenQ_normal (?_))
  refine HW.cond (decide ((s1 : Str) = [45])) rfl (fun c_1 => ?_) (fun c_1 => ?_)
  · replace hM := hM.1 (of_decide_eq_true c_1)
    refine HW.seq ?_
    refine HW.region ?_
    refine HO.val (v := .slice none 0 0) (want_none) rfl (q_assign rfl) ?_
    refine HO.val (v := .int .i64 0) (want_none) rfl (q_assign rfl) ?_
    refine HO.nil (thenQ_normal (?_))
    refine HW.ret (thenQ_ret (?_))
    refine ⟨.inr rfl, .tuple #[.slice none 0 0, .int .i64 0], res2 rfl (rt rfl) (rt rfl), ?_⟩
    replace hS := hS.nilOwn 44 17 e_api_Addr
    exact ⟨F, [], 0, .slice none 0 0, rfl, hK, hS, hG_0, hG_3, hE_gvS, hG_4, hE_gvR, hG_5, hG_7, hM⟩
  · replace hM := hM.2 (of_decide_eq_false c_1)
    refine HW.skip (thenQ_normal (?_))
    refine HW.seq ?_
    refine HW.seq ?_
    refine HW.region ?_
    refine HO.val (v := .string (bs s1)) (want_none) rfl (q_move rfl) ?_
    obtain ⟨ho_1, hM⟩ := hM
    refine HO.call (want_none) rfl (ec en_20 rfl rfl) (strSplit_hc Tryz.split (by kernel_rfl) hG_0 hS s1 ([44] : Str) ho_1) ?_
    rintro v_1 h_1 ⟨hS, hk⟩
    replace hS : St F (Ow.own 9 1 encT v_1 (splitS s1 ([44] : Str)) :: fr) h_1 := hS
    replace hK := hK.trans hk
    replace hG_0 := hG_0.kp hk
    replace hG_3 := hG_3.kp hk
    replace hE_gvS := hE_gvS.kp hk
    replace hG_4 := hG_4.kp hk
    replace hE_gvR := hE_gvR.kp hk
    replace hG_5 := hG_5.kp hk
    replace hG_7 := hG_7.kp hk
    refine HO.val (v := .int .i64 ((splitS s1 ([44] : Str)).length : Int)) (want_none) rfl (q_len ts_45 (shp (hS.own 0 rfl).slice) rfl rfl) ?_
    refine HO.val (v := .int .i64 0) (want_none) rfl (q_move rfl) ?_
    refine HO.nil (thenQ_normal (?_))
    refine HW.block ?_
    obtain ⟨I_1, m_1, hI_1, hR_1⟩ := hM
    replace hS := hS.nilOwn 44 17 e_api_Addr
    replace hS := hS.nilOwn 44 17 e_api_Addr
    replace hS : St F (Ow.own 44 17 e_api_Addr (.slice none 0 0) ([] : List T_api_Addr) :: Ow.own 44 17 e_api_Addr (.slice none 0 0) ([] : List T_api_Addr) :: Ow.own 9 1 encT v_1 (splitS s1 ([44] : Str)) :: fr) h_1 := hS.perm2 [1, 0, 2] 3 rfl rfl
    refine HW.loop (S := List T_api_Addr × List T_api_Addr × Int) (fun s f h => match s with | (l_1, out_1, n_1) => ∃ (F' : Fz) (v_2 : Value) (vout_1 : Value), f 2 = v_2 ∧ f 3 = .int .i64 0 ∧ f 4 = vout_1 ∧ f 12 = v_1 ∧ f 13 = .int .i64 ((splitS s1 ([44] : Str)).length : Int) ∧ f 14 = .int .i64 n_1 ∧ Kp F h0 F' h ∧ St F' (Ow.own 44 17 e_api_Addr v_2 l_1 :: Ow.own 44 17 e_api_Addr vout_1 out_1 :: Ow.own 9 1 encT v_1 (splitS s1 ([44] : Str)) :: fr) h ∧ (RoF (Ow.box 0 3 #[.int .i64 gm]) F' h) ∧ (RoF (Ow.box 3 75 #[gvS]) F' h) ∧ (ErrF gbS gvS F' h) ∧ (RoF (Ow.box 4 75 #[gvR]) F' h) ∧ (ErrF gbR gvR F' h) ∧ (RoF (Ow.box 5 160 (tab10 ()).toArray) F' h) ∧ (RoF (Ow.box 7 164 (arrCells tab64).toArray) F' h) ∧ I_1 (l_1, out_1, n_1)) m_1 ([], [], 0) ⟨F, .slice none 0 0, .slice none 0 0, rfl, rfl, rfl, rfl, rfl, rfl, hK, hS, hG_0, hG_3, hE_gvS, hG_4, hE_gvR, hG_5, hG_7, hI_1⟩ ?_
    rintro ⟨l_1, out_1, n_1⟩ f_1 h_2 ⟨F_1, v_2, vout_1, e2, e3, e4, e12, e13, e14, hK, hS, hG_0, hG_3, hE_gvS, hG_4, hE_gvR, hG_5, hG_7, hI0⟩
    obtain ⟨K_1, hKe_1⟩ : ∃ K : (List T_api_Addr) → (List T_api_Addr) → Int → Prop, K = fun l_1' out_1' n_1' => I_1 (l_1', out_1', n_1') ∧ m_1 (l_1', out_1', n_1') < m_1 (l_1, out_1, n_1) := ⟨_, rfl⟩
    have hM : srcs_Parse_l2 s1 Q K_1 l_1 out_1 n_1 := by rw [hKe_1]; exact hR_1 (l_1, out_1, n_1) hI0
    unfold srcs_Parse_l2 at hM
    refine HW.fr [(2, v_2), (3, .int .i64 0), (4, vout_1), (12, v_1), (13, .int .i64 ((splitS s1 ([44] : Str)).length : Int)), (14, .int .i64 n_1)] ⟨e2, e3, e4, e12, e13, e14, trivial⟩ ?_
    refine HW.seq ?_
    refine HW.region ?_
    refine HO.val (v := .bool (decide (n_1 < ((splitS s1 ([44] : Str)).length : Int)))) (want_none) rfl (q_lss rfl rfl) ?_
    refine HO.nil (thenQ_normal (?_))
    refine HW.seq ?_
    refine HW.cond (decide (n_1 < ((splitS s1 ([44] : Str)).length : Int))) rfl (fun c_2 => ?_) (fun c_2 => ?_)
    · replace hM := hM.1 (of_decide_eq_true c_2)
      refine HW.skip (thenQ_normal (?_))
      refine HW.seq ?_
      refine HW.block ?_
      refine HW.seq ?_
      refine HW.region ?_
      obtain ⟨ho_2, hM⟩ := hM
      refine HO.val (v := elemPtr 1 v_1 (n_1).toNat) (want_none) rfl (q_idx ts_45 (hS.own 2 rfl).slice rfl rfl ho_2) ?_
      refine HO.val (v := .string (bs (gi (splitS s1 ([44] : Str)) n_1))) (want_none) rfl (q_ldElem to_9 (hS.own 2 rfl).slice rfl ho_2 rfl) ?_
      refine HO.val (v := .string (bs (gi (splitS s1 ([44] : Str)) n_1))) (want_none) rfl (q_assign rfl) ?_
      refine HO.nil (thenQ_normal (?_))
      refine HW.seq ?_
      refine HW.region ?_
      refine HO.val (v := .string (bs (gi (splitS s1 ([44] : Str)) n_1))) (want_none) rfl (q_move rfl) ?_
      refine HO.call (want_none) rfl (ec en_21 rfl rfl) (addr_Parse_walk (fr := (Ow.own 44 17 e_api_Addr v_2 l_1 :: Ow.own 44 17 e_api_Addr vout_1 out_1 :: Ow.own 9 1 encT v_1 (splitS s1 ([44] : Str)) :: fr)) (gi (splitS s1 ([44] : Str)) n_1) gm gvS gbS gvR gbR hS hG_0 hG_3 hE_gvS hG_4 hE_gvR hG_5 hG_7 hD hM) ?_
      rintro _ h_3 ⟨F_2, r0_2, r1_2, rfl, hk, hS, _, _, _, _, _, _, _, hM⟩
      replace hK := hK.trans hk
      replace hG_0 := hG_0.kp hk
      replace hG_3 := hG_3.kp hk
      replace hE_gvS := hE_gvS.kp hk
      replace hG_4 := hG_4.kp hk
      replace hE_gvR := hE_gvR.kp hk
      replace hG_5 := hG_5.kp hk
      replace hG_7 := hG_7.kp hk
      refine HO.val (v := .tuple #[.agg (e_api_Addr r0_2).toArray, .int .i64 r1_2]) (want_none) rfl (q_move rfl) ?_
      refine HO.val (v := .agg (e_api_Addr r0_2).toArray) (want_none) rfl (q_extract rfl rfl) ?_
      refine HO.val (v := .int .i64 r1_2) (want_none) rfl (q_extract rfl rfl) ?_
      refine HO.eff (want_none) rfl (st_alloc (c := (e_api_Addr (false, (default : Ba 16))).toArray) hS tz_44 rfl) ?_
      rintro _ h_4 ⟨b_1, rfl, hS, hk⟩
      replace hK := hK.trans hk
      replace hG_0 := hG_0.kp hk
      replace hG_3 := hG_3.kp hk
      replace hE_gvS := hE_gvS.kp hk
      replace hG_4 := hG_4.kp hk
      replace hE_gvR := hE_gvR.kp hk
      replace hG_5 := hG_5.kp hk
      replace hG_7 := hG_7.kp hk
      refine HO.sto (want_none) rfl (st_storeAgg (c' := (e_api_Addr r0_2).toArray) hS (i := 0) rfl ta_44 rfl rfl rfl (one_e_api_Addr _) (Nat.le_of_ble_eq_true rfl) rfl) ?_
      rintro h_5 ⟨hS, hk⟩
      replace hS : St F_2 (Ow.box b_1 44 (e_api_Addr r0_2).toArray :: Ow.own 44 17 e_api_Addr v_2 l_1 :: Ow.own 44 17 e_api_Addr vout_1 out_1 :: Ow.own 9 1 encT v_1 (splitS s1 ([44] : Str)) :: fr) h_5 := hS
      replace hK := hK.trans hk
      replace hG_0 := hG_0.kp hk
      replace hG_3 := hG_3.kp hk
      replace hE_gvS := hE_gvS.kp hk
      replace hG_4 := hG_4.kp hk
      replace hE_gvR := hE_gvR.kp hk
      replace hG_5 := hG_5.kp hk
      replace hG_7 := hG_7.kp hk
      refine HO.val (v := .int .i64 r1_2) (want_none) rfl (q_assign rfl) ?_
      refine HO.nil (thenQ_normal (?_))
      refine HW.seq_mid (fun f h => ∃ (F' : Fz), f 2 = v_2 ∧ f 3 = .int .i64 0 ∧ f 4 = vout_1 ∧ f 7 = .pointer (some ⟨b_1, 0, none⟩) ∧ f 12 = v_1 ∧ f 13 = .int .i64 ((splitS s1 ([44] : Str)).length : Int) ∧ f 14 = .int .i64 n_1 ∧ Kp F h0 F' h ∧ St F' (Ow.own 44 17 e_api_Addr v_2 l_1 :: Ow.own 44 17 e_api_Addr vout_1 out_1 :: Ow.box b_1 44 (e_api_Addr r0_2).toArray :: Ow.own 9 1 encT v_1 (splitS s1 ([44] : Str)) :: fr) h ∧ (RoF (Ow.box 0 3 #[.int .i64 gm]) F' h) ∧ (RoF (Ow.box 3 75 #[gvS]) F' h) ∧ (ErrF gbS gvS F' h) ∧ (RoF (Ow.box 4 75 #[gvR]) F' h) ∧ (ErrF gbR gvR F' h) ∧ (RoF (Ow.box 5 160 (tab10 ()).toArray) F' h) ∧ (RoF (Ow.box 7 164 (arrCells tab64).toArray) F' h) ∧ srcs_Parse_j1 l_1 out_1 n_1 K_1 r0_2) ?_ ?_
      · refine HW.seq ?_
        refine HW.regionA 18 mixed (fun h => (Blk h b_1 (.cells (e_api_Addr r0_2).toArray 44 (0, 0))) ∧ (OwnIs h 0 44 17 e_api_Addr vout_1 out_1)) [] (by kernel_rfl) ?_
        refine HA.val (k := 0) (v := .int .i64 r1_2) rfl rfl (by kernel_rfl) (by kernel_rfl) (want_none) rfl (fun _ ⟨c308, c304⟩ => q_move rfl) ?_
        refine HA.val (k := 1) (v := .bool (!decide (r1_2 = 0))) rfl rfl (by kernel_rfl) (by kernel_rfl) (want_none) rfl (fun _ ⟨c308, c304⟩ => q_neq rfl rfl) ?_
        refine HA.val (k := 2) (v := .bool (!decide (r1_2 = 0))) rfl rfl (by kernel_rfl) (by kernel_rfl) (want_none) rfl (fun _ ⟨c308, c304⟩ => q_move rfl) ?_
        rcases Bool.eq_false_or_eq_true (!decide (r1_2 = 0)) with c_3 | c_3
        · replace hM := hM.1 (nd_true c_3)
          refine HA.past (k := 3) rfl rfl (by kernel_rfl) (by kernel_rfl) (past_by rfl rfl c_3) rfl ?_
          refine HA.past (k := 4) rfl rfl (by kernel_rfl) (by kernel_rfl) (past_by rfl rfl c_3) rfl ?_
          refine HA.past (k := 5) rfl rfl (by kernel_rfl) (by kernel_rfl) (past_by rfl rfl c_3) rfl ?_
          refine HA.past (k := 6) rfl rfl (by kernel_rfl) (by kernel_rfl) (past_by rfl rfl c_3) rfl ?_
          refine HA.past (k := 7) rfl rfl (by kernel_rfl) (by kernel_rfl) (past_undef rfl rfl) rfl ?_
          refine HA.past (k := 8) rfl rfl (by kernel_rfl) (by kernel_rfl) (past_undef rfl rfl) rfl ?_
          refine HA.past (k := 9) rfl rfl (by kernel_rfl) (by kernel_rfl) (past_undef rfl rfl) rfl ?_
          refine HA.past (k := 10) rfl rfl (by kernel_rfl) (by kernel_rfl) (past_undef rfl rfl) rfl ?_
          refine HA.past (k := 11) rfl rfl (by kernel_rfl) (by kernel_rfl) (past_undef rfl rfl) rfl ?_
          refine HA.past (k := 12) rfl rfl (by kernel_rfl) (by kernel_rfl) (past_undef rfl rfl) rfl ?_
          refine HA.past (k := 13) rfl rfl (by kernel_rfl) (by kernel_rfl) (past_undef rfl rfl) rfl ?_
          refine HA.one (k := 14) ⟨⟨(hS.box 0 rfl), (hS.own 2 rfl)⟩, (Go.Wk.at_nil _ _)⟩ (by kernel_rfl) ?_
          refine HS.past rfl (past_undef rfl rfl) rfl ?_
          refine HA.past (k := 15) rfl rfl (by kernel_rfl) (by kernel_rfl) (past_undef rfl rfl) rfl ?_
          refine HA.past (k := 16) rfl rfl (by kernel_rfl) (by kernel_rfl) (past_by rfl rfl c_3) rfl ?_
          refine HA.val (k := 17) (v := .bool true) rfl rfl (by kernel_rfl) (by kernel_rfl) (want_none) rfl (fun _ ⟨c308, c304⟩ => q_pickK true rfl c_3 rfl) ?_
          refine HA.nil ⟨⟨(hS.box 0 rfl), (hS.own 2 rfl)⟩, (Go.Wk.at_nil _ _)⟩ (by kernel_rfl) (thenQ_normal (?_))
          refine HW.condT rfl ?_
          refine HW.seq ?_
          refine HW.region ?_
          refine HO.val (v := .slice none 0 0) (want_none) rfl (q_assign rfl) ?_
          refine HO.val (v := .int .i64 2) (want_none) rfl (q_assign rfl) ?_
          refine HO.nil (thenQ_normal (?_))
          refine HW.ret (thenQ_ret (blockQ_ret (thenQ_ret (thenQ_ret (blockQ_ret (thenQ_ret (?_)))))))
          refine ⟨.inr rfl, .tuple #[.slice none 0 0, .int .i64 2], res2 rfl (rt rfl) (rt rfl), ?_⟩
          replace hS := hS.nilOwn 44 17 e_api_Addr
          replace hS : St F_2 (Ow.own 44 17 e_api_Addr (.slice none 0 0) ([] : List T_api_Addr) :: fr) h_5 := hS.perm2 [0] 5 rfl rfl
          exact ⟨F_2, [], 2, .slice none 0 0, rfl, hK, hS, hG_0, hG_3, hE_gvS, hG_4, hE_gvR, hG_5, hG_7, hM⟩
        · replace hM := hM.2 (nd_false c_3)
          refine HA.val (k := 3) (v := vout_1) rfl rfl (by kernel_rfl) (by kernel_rfl) (want_by rfl rfl c_3) rfl (fun _ ⟨c308, c304⟩ => q_move rfl) ?_
          refine HA.val (k := 4) (v := .int .i64 (out_1.length : Int)) rfl rfl (by kernel_rfl) (by kernel_rfl) (want_by rfl rfl c_3) rfl (fun _ ⟨c308, c304⟩ => q_len ts_22 (shp c304.slice) rfl rfl) ?_
          refine HA.val (k := 5) (v := .bool (decide (0 < (out_1.length : Int)))) rfl rfl (by kernel_rfl) (by kernel_rfl) (want_by rfl rfl c_3) rfl (fun _ ⟨c308, c304⟩ => q_gtr rfl rfl) ?_
          refine HA.val (k := 6) (v := .bool (decide (0 < (out_1.length : Int)))) rfl rfl (by kernel_rfl) (by kernel_rfl) (want_by rfl rfl c_3) rfl (fun _ ⟨c308, c304⟩ => q_move rfl) ?_
          rcases Bool.eq_false_or_eq_true (decide (0 < (out_1.length : Int))) with c_4 | c_4
          · replace hM := hM.1 (of_decide_eq_true c_4)
            refine HA.val (k := 7) (v := vout_1) rfl rfl (by kernel_rfl) (by kernel_rfl) (want_by rfl rfl c_4) rfl (fun _ ⟨c308, c304⟩ => q_move rfl) ?_
            refine HA.val (k := 8) (v := vout_1) rfl rfl (by kernel_rfl) (by kernel_rfl) (want_by rfl rfl c_4) rfl (fun _ ⟨c308, c304⟩ => q_move rfl) ?_
            refine HA.val (k := 9) (v := .int .i64 (out_1.length : Int)) rfl rfl (by kernel_rfl) (by kernel_rfl) (want_by rfl rfl c_4) rfl (fun _ ⟨c308, c304⟩ => q_len ts_22 (shp c304.slice) rfl rfl) ?_
            obtain ⟨ho_3, hM⟩ := hM
            refine HA.val (k := 10) (v := .int .i64 ((out_1.length : Int) - 1)) rfl rfl (by kernel_rfl) (by kernel_rfl) (want_by rfl rfl c_4) rfl (fun _ ⟨c308, c304⟩ => q_subN _ rfl rfl rfl ho_3.1 ho_3.2) ?_
            obtain ⟨ho_4, hM⟩ := hM
            refine HA.val (k := 11) (v := elemPtr 17 vout_1 ((out_1.length : Int) - 1).toNat) rfl rfl (by kernel_rfl) (by kernel_rfl) (want_by rfl rfl c_4) rfl (fun _ ⟨c308, c304⟩ => q_idx ts_22 c304.slice rfl rfl ho_4) ?_
            refine HA.val (k := 12) (v := .agg (e_api_Addr ((gi out_1 ((out_1.length : Int) - 1)).1, ((gi out_1 ((out_1.length : Int) - 1)).2))).toArray) rfl rfl (by kernel_rfl) (by kernel_rfl) (want_by rfl rfl c_4) rfl (fun _ ⟨c308, c304⟩ => q_ldElemAgg (cs := (e_api_Addr ((gi out_1 ((out_1.length : Int) - 1)).1, ((gi out_1 ((out_1.length : Int) - 1)).2)))) ta_44 c304.slice rfl ho_4 rfl) ?_
            refine HA.val (k := 13) (v := .agg (e_api_Addr r0_2).toArray) rfl rfl (by kernel_rfl) (by kernel_rfl) (want_by rfl rfl c_4) rfl (fun _ ⟨c308, c304⟩ => q_loadAgg (cs := (e_api_Addr r0_2)) ta_44 rfl rfl (Blk.cells (k := 17) c308 rfl)) ?_
            refine HA.one (k := 14) ⟨⟨(hS.box 0 rfl), (hS.own 2 rfl)⟩, (Go.Wk.at_nil _ _)⟩ (by kernel_rfl) ?_
            refine HS.call rfl (want_by rfl rfl c_4) rfl (ec en_22 rfl rfl) (addr_Cmp_walk (fr := (Ow.box b_1 44 (e_api_Addr r0_2).toArray :: Ow.own 44 17 e_api_Addr v_2 l_1 :: Ow.own 44 17 e_api_Addr vout_1 out_1 :: Ow.own 9 1 encT v_1 (splitS s1 ([44] : Str)) :: fr)) ((gi out_1 ((out_1.length : Int) - 1)).1, ((gi out_1 ((out_1.length : Int) - 1)).2)) r0_2 hS hM) ?_
            rintro _ h_6 ⟨F_3, r_1, rfl, hk, hS, hM⟩
            replace hK := hK.trans hk
            replace hG_0 := hG_0.kp hk
            replace hG_3 := hG_3.kp hk
            replace hE_gvS := hE_gvS.kp hk
            replace hG_4 := hG_4.kp hk
            replace hE_gvR := hE_gvR.kp hk
            replace hG_5 := hG_5.kp hk
            replace hG_7 := hG_7.kp hk
            refine HA.val (k := 15) (v := .bool (decide (0 ≤ r_1))) rfl rfl (by kernel_rfl) (by kernel_rfl) (want_by rfl rfl c_4) rfl (fun _ ⟨c308, c304⟩ => q_geq rfl rfl) ?_
            refine HA.val (k := 16) (v := .bool (decide (0 ≤ r_1))) rfl rfl (by kernel_rfl) (by kernel_rfl) (want_by rfl rfl c_3) rfl (fun _ ⟨c308, c304⟩ => q_pickK true rfl c_4 rfl) ?_
            refine HA.val (k := 17) (v := .bool (decide (0 ≤ r_1))) rfl rfl (by kernel_rfl) (by kernel_rfl) (want_none) rfl (fun _ ⟨c308, c304⟩ => q_pickK false rfl c_3 rfl) ?_
            refine HA.nil ⟨⟨(hS.box 0 rfl), (hS.own 2 rfl)⟩, (Go.Wk.at_nil _ _)⟩ (by kernel_rfl) (thenQ_normal (?_))
            refine HW.cond (decide (0 ≤ r_1)) rfl (fun c_5 => ?_) (fun c_5 => ?_)
            · replace hM := hM.1 (of_decide_eq_true c_5)
              refine HW.seq ?_
              refine HW.region ?_
              refine HO.val (v := .slice none 0 0) (want_none) rfl (q_assign rfl) ?_
              refine HO.val (v := .int .i64 2) (want_none) rfl (q_assign rfl) ?_
              refine HO.nil (thenQ_normal (?_))
              refine HW.ret (thenQ_ret (blockQ_ret (thenQ_ret (thenQ_ret (blockQ_ret (thenQ_ret (?_)))))))
              refine ⟨.inr rfl, .tuple #[.slice none 0 0, .int .i64 2], res2 rfl (rt rfl) (rt rfl), ?_⟩
              replace hS := hS.nilOwn 44 17 e_api_Addr
              replace hS : St F_3 (Ow.own 44 17 e_api_Addr (.slice none 0 0) ([] : List T_api_Addr) :: fr) h_6 := hS.perm2 [0] 5 rfl rfl
              exact ⟨F_3, [], 2, .slice none 0 0, rfl, hK, hS, hG_0, hG_3, hE_gvS, hG_4, hE_gvR, hG_5, hG_7, hM⟩
            · replace hM := hM.2 (of_decide_eq_false c_5)
              refine HW.skip (thenQ_normal (?_))
              replace hS : St F_3 (Ow.own 44 17 e_api_Addr v_2 l_1 :: Ow.own 44 17 e_api_Addr vout_1 out_1 :: Ow.box b_1 44 (e_api_Addr r0_2).toArray :: Ow.own 9 1 encT v_1 (splitS s1 ([44] : Str)) :: fr) h_6 := hS.perm2 [1, 2, 0, 3] 4 rfl rfl
              exact ⟨F_3, rfl, rfl, rfl, rfl, rfl, rfl, rfl, hK, hS, hG_0, hG_3, hE_gvS, hG_4, hE_gvR, hG_5, hG_7, hM⟩
          · replace hM := hM.2 (of_decide_eq_false c_4)
            refine HA.past (k := 7) rfl rfl (by kernel_rfl) (by kernel_rfl) (past_by rfl rfl c_4) rfl ?_
            refine HA.past (k := 8) rfl rfl (by kernel_rfl) (by kernel_rfl) (past_by rfl rfl c_4) rfl ?_
            refine HA.past (k := 9) rfl rfl (by kernel_rfl) (by kernel_rfl) (past_by rfl rfl c_4) rfl ?_
            refine HA.past (k := 10) rfl rfl (by kernel_rfl) (by kernel_rfl) (past_by rfl rfl c_4) rfl ?_
            refine HA.past (k := 11) rfl rfl (by kernel_rfl) (by kernel_rfl) (past_by rfl rfl c_4) rfl ?_
            refine HA.past (k := 12) rfl rfl (by kernel_rfl) (by kernel_rfl) (past_by rfl rfl c_4) rfl ?_
            refine HA.past (k := 13) rfl rfl (by kernel_rfl) (by kernel_rfl) (past_by rfl rfl c_4) rfl ?_
            refine HA.one (k := 14) ⟨⟨(hS.box 0 rfl), (hS.own 2 rfl)⟩, (Go.Wk.at_nil _ _)⟩ (by kernel_rfl) ?_
            refine HS.past rfl (past_by rfl rfl c_4) rfl ?_
            refine HA.past (k := 15) rfl rfl (by kernel_rfl) (by kernel_rfl) (past_by rfl rfl c_4) rfl ?_
            refine HA.val (k := 16) (v := .bool false) rfl rfl (by kernel_rfl) (by kernel_rfl) (want_by rfl rfl c_3) rfl (fun _ ⟨c308, c304⟩ => q_pickK false rfl c_4 rfl) ?_
            refine HA.val (k := 17) (v := .bool false) rfl rfl (by kernel_rfl) (by kernel_rfl) (want_none) rfl (fun _ ⟨c308, c304⟩ => q_pickK false rfl c_3 rfl) ?_
            refine HA.nil ⟨⟨(hS.box 0 rfl), (hS.own 2 rfl)⟩, (Go.Wk.at_nil _ _)⟩ (by kernel_rfl) (thenQ_normal (?_))
            refine HW.condF rfl ?_
            refine HW.skip (thenQ_normal (?_))
            replace hS : St F_2 (Ow.own 44 17 e_api_Addr v_2 l_1 :: Ow.own 44 17 e_api_Addr vout_1 out_1 :: Ow.box b_1 44 (e_api_Addr r0_2).toArray :: Ow.own 9 1 encT v_1 (splitS s1 ([44] : Str)) :: fr) h_5 := hS.perm2 [1, 2, 0, 3] 4 rfl rfl
            exact ⟨F_2, rfl, rfl, rfl, rfl, rfl, rfl, rfl, hK, hS, hG_0, hG_3, hE_gvS, hG_4, hE_gvR, hG_5, hG_7, hM⟩
      · rintro f_2 h_7 ⟨F_4, e2, e3, e4, e7, e12, e13, e14, hK, hS, hG_0, hG_3, hE_gvS, hG_4, hE_gvR, hG_5, hG_7, hM⟩
        unfold srcs_Parse_j1 at hM
        refine HW.fr [(2, v_2), (3, .int .i64 0), (4, vout_1), (7, .pointer (some ⟨b_1, 0, none⟩)), (12, v_1), (13, .int .i64 ((splitS s1 ([44] : Str)).length : Int)), (14, .int .i64 n_1)] ⟨e2, e3, e4, e7, e12, e13, e14, trivial⟩ ?_
        refine HW.region ?_
        refine HO.val (v := vout_1) (want_none) rfl (q_move rfl) ?_
        refine HO.val (v := .agg (e_api_Addr r0_2).toArray) (want_none) rfl (q_loadAgg (cs := (e_api_Addr r0_2)) ta_44 rfl rfl (Blk.cells (k := 17) (hS.box 2 rfl) rfl)) ?_
        refine HO.eff (want_none) rfl (st_lit (enc := e_api_Addr) (cells := #[.bool r0_2.1, .int .u8 (b8 r0_2.2 0), .int .u8 (b8 r0_2.2 1), .int .u8 (b8 r0_2.2 2), .int .u8 (b8 r0_2.2 3), .int .u8 (b8 r0_2.2 4), .int .u8 (b8 r0_2.2 5), .int .u8 (b8 r0_2.2 6), .int .u8 (b8 r0_2.2 7), .int .u8 (b8 r0_2.2 8), .int .u8 (b8 r0_2.2 9), .int .u8 (b8 r0_2.2 10), .int .u8 (b8 r0_2.2 11), .int .u8 (b8 r0_2.2 12), .int .u8 (b8 r0_2.2 13), .int .u8 (b8 r0_2.2 14), .int .u8 (b8 r0_2.2 15)]) #[.bool false, .int .u8 0, .int .u8 0, .int .u8 0, .int .u8 0, .int .u8 0, .int .u8 0, .int .u8 0, .int .u8 0, .int .u8 0, .int .u8 0, .int .u8 0, .int .u8 0, .int .u8 0, .int .u8 0, .int .u8 0, .int .u8 0] ([r0_2] : List T_api_Addr) hS tl_22 (by decide) (by decide) (by kernel_rfl) (by kernel_rfl) rfl (by intro x hx; rfl) rfl) ?_
        rintro _ h_8 ⟨b_2, rfl, hS, hk⟩
        replace hK := hK.trans hk
        replace hG_0 := hG_0.kp hk
        replace hG_3 := hG_3.kp hk
        replace hE_gvS := hE_gvS.kp hk
        replace hG_4 := hG_4.kp hk
        replace hE_gvR := hE_gvR.kp hk
        replace hG_5 := hG_5.kp hk
        replace hG_7 := hG_7.kp hk
        obtain ⟨ho_5, hM⟩ := hM
        refine HO.eff (want_none) rfl (st_append te_22 hS (i := 2) rfl (hS.own 0 rfl).slice rfl rfl rfl (by intro a _ u hu; simp [e_api_Addr, encI, encN, encB, encT] at hu; rcases hu with rfl | rfl | rfl | rfl | rfl | rfl | rfl | rfl | rfl | rfl | rfl | rfl | rfl | rfl | rfl | rfl | rfl <;> rfl) ho_5 (by omega)) ?_
        rintro v_3 h_9 ⟨hS, hk⟩
        replace hS : St F_4 (Ow.own 44 17 e_api_Addr (.slice (some ⟨b_2, 0, none⟩) 1 1) ([r0_2] : List T_api_Addr) :: Ow.own 44 17 e_api_Addr v_2 l_1 :: Ow.own 44 17 e_api_Addr v_3 (out_1 ++ ([r0_2] : List T_api_Addr)) :: Ow.box b_1 44 (e_api_Addr r0_2).toArray :: Ow.own 9 1 encT v_1 (splitS s1 ([44] : Str)) :: fr) h_9 := hS
        replace hK := hK.trans hk
        replace hG_0 := hG_0.kp hk
        replace hG_3 := hG_3.kp hk
        replace hE_gvS := hE_gvS.kp hk
        replace hG_4 := hG_4.kp hk
        replace hE_gvR := hE_gvR.kp hk
        replace hG_5 := hG_5.kp hk
        replace hG_7 := hG_7.kp hk
        refine HO.val (v := v_3) (want_none) rfl (q_assign rfl) ?_
        refine HO.nil (blockQ_normal (thenQ_normal (?_)))
        refine HW.region ?_
        obtain ⟨ho_6, hM⟩ := hM
        refine HO.val (v := .int .i64 (n_1 + 1)) (want_none) rfl (q_addN _ rfl rfl rfl ho_6.1 ho_6.2) ?_
        refine HO.val (v := .int .i64 (n_1 + 1)) (want_none) rfl (q_move rfl) ?_
        refine HO.nil (thenQ_normal (?_))
        replace hS : St F_4 (Ow.own 44 17 e_api_Addr v_2 l_1 :: Ow.own 44 17 e_api_Addr v_3 (out_1 ++ ([r0_2] : List T_api_Addr)) :: Ow.own 9 1 encT v_1 (splitS s1 ([44] : Str)) :: fr) h_9 := hS.perm2 [1, 2, 4] 5 rfl rfl
        rw [hKe_1] at hM
        exact ⟨(l_1, out_1 ++ ([r0_2] : List T_api_Addr), n_1 + 1), ⟨F_4, v_2, v_3, rfl, rfl, rfl, rfl, rfl, rfl, hK, hS, hG_0, hG_3, hE_gvS, hG_4, hE_gvR, hG_5, hG_7, hM.1⟩, hM.2⟩
    · replace hM := hM.2 (of_decide_eq_false c_2)
      refine HW.exit (thenQ_exit (thenQ_exit (blockQ_exit (thenQ_normal (?_)))))
      refine HW.seq ?_
      refine HW.region ?_
      refine HO.val (v := vout_1) (want_none) rfl (q_move rfl) ?_
      refine HO.val (v := vout_1) (want_none) rfl (q_assign rfl) ?_
      refine HO.val (v := .int .i64 0) (want_none) rfl (q_assign rfl) ?_
      refine HO.nil (thenQ_normal (?_))
      refine HW.ret (?_)
      refine ⟨.inr rfl, .tuple #[vout_1, .int .i64 0], res2 rfl (rt rfl) (rt rfl), ?_⟩
      replace hS : St F_1 (Ow.own 44 17 e_api_Addr vout_1 out_1 :: fr) h_2 := hS.perm2 [1] 3 rfl rfl
      exact ⟨F_1, out_1, 0, vout_1, rfl, hK, hS, hG_0, hG_3, hE_gvS, hG_4, hE_gvR, hG_5, hG_7, hM⟩

def addr_Print_W (a : T_api_Addr) (Q : Str → Prop) : Prop :=
  addr_text_W a (fun r_2 => Q r_2)
set_option maxHeartbeats 40000000 in
set_option maxRecDepth 100000 in
theorem addr_Print_walk {F : Fz} {fr : List Ow} {h0 : Heap} (a : T_api_Addr) (hS : St F (fr) h0) (hG_5 : RoF (Ow.box 5 160 (tab10 ()).toArray) F h0) (hG_7 : RoF (Ow.box 7 164 (arrCells tab64).toArray) F h0) (hD : DM.on = false) {Q : Str → Prop} (hM : addr_Print_W a Q) :
    HC Tryz.prog 45 #[.agg (e_api_Addr a).toArray] h0 fun u h' => ∃ (F' : Fz) (r_1 : Str), u = .string (bs r_1) ∧ Kp F h0 F' h' ∧ St F' (fr) h' ∧ (RoF (Ow.box 5 160 (tab10 ()).toArray) F' h') ∧ (RoF (Ow.box 7 164 (arrCells tab64).toArray) F' h') ∧ Q r_1 := by
  unfold addr_Print_W at hM
  have hK := Kp.refl F h0
  refine HC.of_HW (n := 5) Tryz.func45 rfl rfl (Nat.le_of_ble_eq_true rfl) ?_
  refine HW.seq ?_
  refine HW.region ?_
  refine HO.eff (want_none) rfl (st_box (c := (e_api_Addr a).toArray) (k' := 17) hS rfl rfl) ?_
  rintro _ h_1 ⟨b_1, rfl, hS, hk⟩
  replace hK := hK.trans hk
  replace hG_5 := hG_5.kp hk
  replace hG_7 := hG_7.kp hk
  refine HO.val (v := .string (bs [])) (want_none) rfl (q_assign rfl) ?_
  refine HO.nil (thenQ_normal (?_))
  refine HW.seq ?_
  refine HW.region ?_
  refine HO.val (v := .agg (e_api_Addr a).toArray) (want_none) rfl (q_loadAgg (cs := (e_api_Addr a)) ta_44 rfl rfl (Blk.cells (k := 17) (hS.box 0 rfl) rfl)) ?_
  refine HO.call (want_none) rfl (ec en_41 rfl rfl) (addr_text_walk (fr := (Ow.box b_1 44 (e_api_Addr a).toArray :: fr)) a hS hG_5 hG_7 hD hM) ?_
  rintro _ h_2 ⟨F_1, r_2, rfl, hk, hS, _, _, hM⟩
  replace hK := hK.trans hk
  replace hG_5 := hG_5.kp hk
  replace hG_7 := hG_7.kp hk
  refine HO.val (v := .string (bs r_2)) (want_none) rfl (q_assign rfl) ?_
  refine HO.nil (thenQ_normal (?_))
  refine HW.ret (?_)
  refine ⟨.inr rfl, .string (bs r_2), res1 rfl (rt rfl), ?_⟩
  replace hS : St F_1 (fr) h_2 := hS.perm2 [] 1 rfl rfl
  exact ⟨F_1, r_2, rfl, hK, hS, hG_5, hG_7, hM⟩

def srcs_text_l1 (l : List T_api_Addr) (Q : Str → Prop) (K_1 : (List Str) → Int → Prop) (out_1 : List Str) (n_1 : Int) : Prop :=
  (n_1 < (l.length : Int) → ((0 : Int) ≤ n_1 ∧ n_1 < (l.length : Int)) ∧ (addr_Print_W (gi l n_1) (fun r_2 => ((out_1.length + ([r_2] : List Str).length) * 16 ≤ 140737488355328) ∧ ((I64 (n_1 + 1)) ∧ (K_1 (out_1 ++ ([r_2] : List Str)) (n_1 + 1)))))) ∧ (¬ (n_1 < (l.length : Int)) → ((out_1).length ≤ 140737488355328 ∧ (joinS out_1 ([44] : Str)).length ≤ 140737488355328) ∧ (Q (joinS out_1 ([44] : Str))))
def srcs_text_W (l : List T_api_Addr) (Q : Str → Prop) : Prop :=
  ((l.length : Int) = 0 → Q [45]) ∧ (¬ ((l.length : Int) = 0) → loopW (fun (K_1 : (List Str × Int) → Prop) (s : List Str × Int) => srcs_text_l1 l Q (fun out_1 n_1 => K_1 (out_1, n_1)) s.1 s.2) ([], 0))
set_option maxHeartbeats 40000000 in
set_option maxRecDepth 100000 in
theorem srcs_text_walk {F : Fz} {fr : List Ow} {h0 : Heap} (l : List T_api_Addr) (vl : Value) (hS : St F (fr) h0) (hL_l : SliceF F h0 17 e_api_Addr vl l) (hG_5 : RoF (Ow.box 5 160 (tab10 ()).toArray) F h0) (hG_7 : RoF (Ow.box 7 164 (arrCells tab64).toArray) F h0) (hD : DM.on = false) {Q : Str → Prop} (hM : srcs_text_W l Q) :
    HC Tryz.prog 24 #[vl] h0 fun u h' => ∃ (F' : Fz) (r_1 : Str), u = .string (bs r_1) ∧ Kp F h0 F' h' ∧ St F' (fr) h' ∧ (SliceF F' h' 17 e_api_Addr vl l) ∧ (RoF (Ow.box 5 160 (tab10 ()).toArray) F' h') ∧ (RoF (Ow.box 7 164 (arrCells tab64).toArray) F' h') ∧ Q r_1 := by
  unfold srcs_text_W at hM
  have hK := Kp.refl F h0
  refine HC.of_HW (n := 23) Tryz.func24 rfl rfl (Nat.le_of_ble_eq_true rfl) ?_
  refine HW.seq ?_
  refine HW.region ?_
  refine HO.val (v := .string (bs [])) (want_none) rfl (q_assign rfl) ?_
  refine HO.nil (thenQ_normal (?_))
  refine HW.seq ?_
  refine HW.seq ?_
  refine HW.region ?_
  refine HO.val (v := vl) (want_none) rfl (q_move rfl) ?_
  refine HO.val (v := .int .i64 (l.length : Int)) (want_none) rfl (q_len ts_22 (shp hL_l.is) rfl rfl) ?_
  refine HO.val (v := .bool (decide ((l.length : Int) = 0))) (want_none) rfl (q_eql rfl rfl) ?_
  refine HO.nil (thenQ_normal (?_))
  refine HW.cond (decide ((l.length : Int) = 0)) rfl (fun c_1 => ?_) (fun c_1 => ?_)
  · replace hM := hM.1 (of_decide_eq_true c_1)
    refine HW.seq ?_
    refine HW.region ?_
    refine HO.val (v := .string (bs [45])) (want_none) rfl (q_assign rfl) ?_
    refine HO.nil (thenQ_normal (?_))
    refine HW.ret (thenQ_ret (?_))
    refine ⟨.inr rfl, .string (bs [45]), res1 rfl (rt rfl), ?_⟩
    exact ⟨F, [45], rfl, hK, hS, hL_l, hG_5, hG_7, hM⟩
  · replace hM := hM.2 (of_decide_eq_false c_1)
    refine HW.skip (thenQ_normal (?_))
    refine HW.seq ?_
    refine HW.region ?_
    refine HO.val (v := .slice none 0 0) (want_none) rfl (q_assign rfl) ?_
    refine HO.nil (thenQ_normal (?_))
    refine HW.seq ?_
    refine HW.seq ?_
    refine HW.region ?_
    refine HO.val (v := vl) (want_none) rfl (q_move rfl) ?_
    refine HO.val (v := .int .i64 (l.length : Int)) (want_none) rfl (q_len ts_22 (shp hL_l.is) rfl rfl) ?_
    refine HO.val (v := .int .i64 0) (want_none) rfl (q_move rfl) ?_
    refine HO.nil (thenQ_normal (?_))
    refine HW.block ?_
    obtain ⟨I_1, m_1, hI_1, hR_1⟩ := hM
    replace hS := hS.nilOwn 9 1 encT
    refine HW.loop (S := List Str × Int) (fun s f h => match s with | (out_1, n_1) => ∃ (F' : Fz) (vout_1 : Value), f 2 = .string (bs []) ∧ f 3 = vout_1 ∧ f 9 = vl ∧ f 10 = .int .i64 (l.length : Int) ∧ f 11 = .int .i64 n_1 ∧ Kp F h0 F' h ∧ St F' (Ow.own 9 1 encT vout_1 out_1 :: fr) h ∧ (SliceF F' h 17 e_api_Addr vl l) ∧ (RoF (Ow.box 5 160 (tab10 ()).toArray) F' h) ∧ (RoF (Ow.box 7 164 (arrCells tab64).toArray) F' h) ∧ I_1 (out_1, n_1)) m_1 ([], 0) ⟨F, .slice none 0 0, rfl, rfl, rfl, rfl, rfl, hK, hS, hL_l, hG_5, hG_7, hI_1⟩ ?_
    rintro ⟨out_1, n_1⟩ f_1 h_1 ⟨F_1, vout_1, e2, e3, e9, e10, e11, hK, hS, hL_l, hG_5, hG_7, hI0⟩
    obtain ⟨K_1, hKe_1⟩ : ∃ K : (List Str) → Int → Prop, K = fun out_1' n_1' => I_1 (out_1', n_1') ∧ m_1 (out_1', n_1') < m_1 (out_1, n_1) := ⟨_, rfl⟩
    have hM : srcs_text_l1 l Q K_1 out_1 n_1 := by rw [hKe_1]; exact hR_1 (out_1, n_1) hI0
    unfold srcs_text_l1 at hM
    refine HW.fr [(2, .string (bs [])), (3, vout_1), (9, vl), (10, .int .i64 (l.length : Int)), (11, .int .i64 n_1)] ⟨e2, e3, e9, e10, e11, trivial⟩ ?_
    refine HW.seq ?_
    refine HW.region ?_
    refine HO.val (v := .bool (decide (n_1 < (l.length : Int)))) (want_none) rfl (q_lss rfl rfl) ?_
    refine HO.nil (thenQ_normal (?_))
    refine HW.seq ?_
    refine HW.cond (decide (n_1 < (l.length : Int))) rfl (fun c_2 => ?_) (fun c_2 => ?_)
    · replace hM := hM.1 (of_decide_eq_true c_2)
      refine HW.skip (thenQ_normal (?_))
      refine HW.seq ?_
      refine HW.block ?_
      refine HW.seq ?_
      refine HW.region ?_
      obtain ⟨ho_1, hM⟩ := hM
      refine HO.val (v := elemPtr 17 vl (n_1).toNat) (want_none) rfl (q_idx ts_22 hL_l.is rfl rfl ho_1) ?_
      refine HO.val (v := .agg (e_api_Addr (gi l n_1)).toArray) (want_none) rfl (q_ldElemAgg (cs := (e_api_Addr (gi l n_1))) ta_44 hL_l.is rfl ho_1 rfl) ?_
      refine HO.eff (want_none) rfl (st_alloc (c := (e_api_Addr (false, (default : Ba 16))).toArray) hS tz_44 rfl) ?_
      rintro _ h_2 ⟨b_1, rfl, hS, hk⟩
      replace hK := hK.trans hk
      replace hL_l := hL_l.kp hk
      replace hG_5 := hG_5.kp hk
      replace hG_7 := hG_7.kp hk
      refine HO.sto (want_none) rfl (st_storeAgg (c' := (e_api_Addr (gi l n_1)).toArray) hS (i := 0) rfl ta_44 rfl rfl rfl (one_e_api_Addr _) (Nat.le_of_ble_eq_true rfl) rfl) ?_
      rintro h_3 ⟨hS, hk⟩
      replace hS : St F_1 (Ow.box b_1 44 (e_api_Addr (gi l n_1)).toArray :: Ow.own 9 1 encT vout_1 out_1 :: fr) h_3 := hS
      replace hK := hK.trans hk
      replace hL_l := hL_l.kp hk
      replace hG_5 := hG_5.kp hk
      replace hG_7 := hG_7.kp hk
      refine HO.nil (thenQ_normal (?_))
      refine HW.region ?_
      refine HO.val (v := vout_1) (want_none) rfl (q_move rfl) ?_
      refine HO.val (v := .agg (e_api_Addr (gi l n_1)).toArray) (want_none) rfl (q_loadAgg (cs := (e_api_Addr (gi l n_1))) ta_44 rfl rfl (Blk.cells (k := 17) (hS.box 0 rfl) rfl)) ?_
      refine HO.call (want_none) rfl (ec en_45 rfl rfl) (addr_Print_walk (fr := (Ow.box b_1 44 (e_api_Addr (gi l n_1)).toArray :: Ow.own 9 1 encT vout_1 out_1 :: fr)) (gi l n_1) hS hG_5 hG_7 hD hM) ?_
      rintro _ h_4 ⟨F_2, r_2, rfl, hk, hS, _, _, hM⟩
      replace hK := hK.trans hk
      replace hL_l := hL_l.kp hk
      replace hG_5 := hG_5.kp hk
      replace hG_7 := hG_7.kp hk
      refine HO.eff (want_none) rfl (st_lit (enc := encT) (cells := #[.string (bs r_2)]) #[.string (bs [])] ([r_2] : List Str) hS tl_45 (by decide) (by decide) (by kernel_rfl) (by kernel_rfl) rfl (by intro x hx; rfl) rfl) ?_
      rintro _ h_5 ⟨b_2, rfl, hS, hk⟩
      replace hK := hK.trans hk
      replace hL_l := hL_l.kp hk
      replace hG_5 := hG_5.kp hk
      replace hG_7 := hG_7.kp hk
      obtain ⟨ho_2, hM⟩ := hM
      refine HO.eff (want_none) rfl (st_append te_45 hS (i := 2) rfl (hS.own 0 rfl).slice rfl rfl rfl (by intro a _ u hu; simp [encT, encI, encN, encB, encT] at hu; subst hu; rfl) ho_2 (by omega)) ?_
      rintro v_1 h_6 ⟨hS, hk⟩
      replace hS : St F_2 (Ow.own 9 1 encT (.slice (some ⟨b_2, 0, none⟩) 1 1) ([r_2] : List Str) :: Ow.box b_1 44 (e_api_Addr (gi l n_1)).toArray :: Ow.own 9 1 encT v_1 (out_1 ++ ([r_2] : List Str)) :: fr) h_6 := hS
      replace hK := hK.trans hk
      replace hL_l := hL_l.kp hk
      replace hG_5 := hG_5.kp hk
      replace hG_7 := hG_7.kp hk
      refine HO.val (v := v_1) (want_none) rfl (q_assign rfl) ?_
      refine HO.nil (blockQ_normal (thenQ_normal (?_)))
      refine HW.region ?_
      obtain ⟨ho_3, hM⟩ := hM
      refine HO.val (v := .int .i64 (n_1 + 1)) (want_none) rfl (q_addN _ rfl rfl rfl ho_3.1 ho_3.2) ?_
      refine HO.val (v := .int .i64 (n_1 + 1)) (want_none) rfl (q_move rfl) ?_
      refine HO.nil (thenQ_normal (?_))
      replace hS : St F_2 (Ow.own 9 1 encT v_1 (out_1 ++ ([r_2] : List Str)) :: fr) h_6 := hS.perm2 [2] 3 rfl rfl
      rw [hKe_1] at hM
      exact ⟨(out_1 ++ ([r_2] : List Str), n_1 + 1), ⟨F_2, v_1, rfl, rfl, rfl, rfl, rfl, hK, hS, hL_l, hG_5, hG_7, hM.1⟩, hM.2⟩
    · replace hM := hM.2 (of_decide_eq_false c_2)
      refine HW.exit (thenQ_exit (thenQ_exit (blockQ_exit (thenQ_normal (?_)))))
      refine HW.seq ?_
      refine HW.region ?_
      refine HO.val (v := vout_1) (want_none) rfl (q_move rfl) ?_
      obtain ⟨ho_4, hM⟩ := hM
      refine HO.call (want_none) rfl (ec en_46 rfl rfl) (strJoin_hc hD Tryz.join Tryz.joinX ([44] : Str) hS (hS.own 0 rfl).slice ho_4.1 ho_4.2) ?_
      rintro _ h_7 ⟨rfl, hS, hk⟩
      replace hK := hK.trans hk
      replace hL_l := hL_l.kp hk
      replace hG_5 := hG_5.kp hk
      replace hG_7 := hG_7.kp hk
      refine HO.val (v := .string (bs (joinS out_1 ([44] : Str)))) (want_none) rfl (q_assign rfl) ?_
      refine HO.nil (thenQ_normal (?_))
      refine HW.ret (?_)
      refine ⟨.inr rfl, .string (bs (joinS out_1 ([44] : Str))), res1 rfl (rt rfl), ?_⟩
      replace hS : St F_1 (fr) h_7 := hS.perm2 [] 1 rfl rfl
      exact ⟨F_1, joinS out_1 ([44] : Str), rfl, hK, hS, hL_l, hG_5, hG_7, hM⟩

def srcs_Print_W (l : List T_api_Addr) (Q : Str → Prop) : Prop :=
  srcs_text_W l (fun r_2 => Q r_2)
set_option maxHeartbeats 40000000 in
set_option maxRecDepth 100000 in
theorem srcs_Print_walk {F : Fz} {fr : List Ow} {h0 : Heap} (l : List T_api_Addr) (vl : Value) (hS : St F (fr) h0) (hL_l : SliceF F h0 17 e_api_Addr vl l) (hG_5 : RoF (Ow.box 5 160 (tab10 ()).toArray) F h0) (hG_7 : RoF (Ow.box 7 164 (arrCells tab64).toArray) F h0) (hD : DM.on = false) {Q : Str → Prop} (hM : srcs_Print_W l Q) :
    HC Tryz.prog 10 #[vl] h0 fun u h' => ∃ (F' : Fz) (r_1 : Str), u = .string (bs r_1) ∧ Kp F h0 F' h' ∧ St F' (fr) h' ∧ (SliceF F' h' 17 e_api_Addr vl l) ∧ (RoF (Ow.box 5 160 (tab10 ()).toArray) F' h') ∧ (RoF (Ow.box 7 164 (arrCells tab64).toArray) F' h') ∧ Q r_1 := by
  unfold srcs_Print_W at hM
  have hK := Kp.refl F h0
  refine HC.of_HW (n := 5) Tryz.func10 rfl rfl (Nat.le_of_ble_eq_true rfl) ?_
  refine HW.seq ?_
  refine HW.region ?_
  refine HO.val (v := .string (bs [])) (want_none) rfl (q_assign rfl) ?_
  refine HO.nil (thenQ_normal (?_))
  refine HW.seq ?_
  refine HW.region ?_
  refine HO.val (v := vl) (want_none) rfl (q_move rfl) ?_
  refine HO.call (want_none) rfl (ec en_24 rfl rfl) (srcs_text_walk (fr := (fr)) l vl hS hL_l hG_5 hG_7 hD hM) ?_
  rintro _ h_1 ⟨F_1, r_2, rfl, hk, hS, _, _, _, hM⟩
  replace hK := hK.trans hk
  replace hL_l := hL_l.kp hk
  replace hG_5 := hG_5.kp hk
  replace hG_7 := hG_7.kp hk
  refine HO.val (v := .string (bs r_2)) (want_none) rfl (q_assign rfl) ?_
  refine HO.nil (thenQ_normal (?_))
  refine HW.ret (?_)
  refine ⟨.inr rfl, .string (bs r_2), res1 rfl (rt rfl), ?_⟩
  exact ⟨F_1, r_2, rfl, hK, hS, hL_l, hG_5, hG_7, hM⟩

def merge_text_W (f_Exclude : Bool) (f_Sources : List T_api_Addr) (Q : Str → Prop) : Prop :=
  (f_Exclude = true → srcs_Print_W f_Sources (fun r_2 => (((([101, 120, 32] : Str)).length : Int) + (r_2.length : Int) ≤ 9223372036854775807) ∧ (Q (([101, 120, 32] : Str) ++ r_2)))) ∧ (f_Exclude = false → srcs_Print_W f_Sources (fun r_3 => (((([105, 110, 32] : Str)).length : Int) + (r_3.length : Int) ≤ 9223372036854775807) ∧ (Q (([105, 110, 32] : Str) ++ r_3))))
set_option maxHeartbeats 40000000 in
set_option maxRecDepth 100000 in
theorem merge_text_walk {F : Fz} {fr : List Ow} {h0 : Heap} (f_Exclude : Bool) (f_Sources : List T_api_Addr) (vf_Sources : Value) (hS : St F (fr) h0) (hL_f_Sources : SliceF F h0 17 e_api_Addr vf_Sources f_Sources) (hG_5 : RoF (Ow.box 5 160 (tab10 ()).toArray) F h0) (hG_7 : RoF (Ow.box 7 164 (arrCells tab64).toArray) F h0) (hD : DM.on = false) {Q : Str → Prop} (hM : merge_text_W f_Exclude f_Sources Q) :
    HC Tryz.prog 30 #[.agg #[.bool f_Exclude, vf_Sources]] h0 fun u h' => ∃ (F' : Fz) (r_1 : Str), u = .string (bs r_1) ∧ Kp F h0 F' h' ∧ St F' (fr) h' ∧ (SliceF F' h' 17 e_api_Addr vf_Sources f_Sources) ∧ (RoF (Ow.box 5 160 (tab10 ()).toArray) F' h') ∧ (RoF (Ow.box 7 164 (arrCells tab64).toArray) F' h') ∧ Q r_1 := by
  unfold merge_text_W at hM
  have hK := Kp.refl F h0
  refine HC.of_HW (n := 13) Tryz.func30 rfl rfl (Nat.le_of_ble_eq_true rfl) ?_
  refine HW.seq ?_
  refine HW.region ?_
  refine HO.eff (want_none) rfl (st_box (c := #[.bool f_Exclude, vf_Sources]) (k' := 2) hS rfl rfl) ?_
  rintro _ h_1 ⟨b_1, rfl, hS, hk⟩
  replace hK := hK.trans hk
  replace hL_f_Sources := hL_f_Sources.kp hk
  replace hG_5 := hG_5.kp hk
  replace hG_7 := hG_7.kp hk
  refine HO.val (v := .string (bs [])) (want_none) rfl (q_assign rfl) ?_
  refine HO.nil (thenQ_normal (?_))
  refine HW.seq ?_
  refine HW.seq ?_
  refine HW.region ?_
  refine HO.val (v := .pointer (some ⟨b_1, 0, none⟩)) (want_none) rfl (q_fieldAddr fa_34_0 rfl rfl) ?_
  refine HO.val (v := .bool f_Exclude) (want_none) rfl (q_load to_4 rfl (Blk.cell (hS.box 0 rfl) rfl)) ?_
  refine HO.nil (thenQ_normal (?_))
  refine HW.cond f_Exclude rfl (fun c_1 => ?_) (fun c_1 => ?_)
  · replace hM := hM.1 c_1
    refine HW.seq ?_
    refine HW.region ?_
    refine HO.val (v := .pointer (some ⟨b_1, 1, none⟩)) (want_none) rfl (q_fieldAddr fa_34_1 rfl rfl) ?_
    refine HO.val (v := vf_Sources) (want_none) rfl (q_load to_22 rfl (Blk.cell (hS.box 0 rfl) rfl)) ?_
    refine HO.call (want_none) rfl (ec en_10 rfl rfl) (srcs_Print_walk (fr := (Ow.box b_1 34 #[.bool f_Exclude, vf_Sources] :: fr)) f_Sources vf_Sources hS hL_f_Sources hG_5 hG_7 hD hM) ?_
    rintro _ h_2 ⟨F_1, r_2, rfl, hk, hS, _, _, _, hM⟩
    replace hK := hK.trans hk
    replace hL_f_Sources := hL_f_Sources.kp hk
    replace hG_5 := hG_5.kp hk
    replace hG_7 := hG_7.kp hk
    obtain ⟨ho_1, hM⟩ := hM
    refine HO.val (v := .string (bs (([101, 120, 32] : Str) ++ r_2))) (want_none) rfl (q_addT rfl rfl ho_1) ?_
    refine HO.val (v := .string (bs (([101, 120, 32] : Str) ++ r_2))) (want_none) rfl (q_assign rfl) ?_
    refine HO.nil (thenQ_normal (?_))
    refine HW.ret (thenQ_ret (?_))
    refine ⟨.inr rfl, .string (bs (([101, 120, 32] : Str) ++ r_2)), res1 rfl (rt rfl), ?_⟩
    replace hS : St F_1 (fr) h_2 := hS.perm2 [] 1 rfl rfl
    exact ⟨F_1, ([101, 120, 32] : Str) ++ r_2, rfl, hK, hS, hL_f_Sources, hG_5, hG_7, hM⟩
  · replace hM := hM.2 c_1
    refine HW.skip (thenQ_normal (?_))
    refine HW.seq ?_
    refine HW.region ?_
    refine HO.val (v := .pointer (some ⟨b_1, 1, none⟩)) (want_none) rfl (q_fieldAddr fa_34_1 rfl rfl) ?_
    refine HO.val (v := vf_Sources) (want_none) rfl (q_load to_22 rfl (Blk.cell (hS.box 0 rfl) rfl)) ?_
    refine HO.call (want_none) rfl (ec en_10 rfl rfl) (srcs_Print_walk (fr := (Ow.box b_1 34 #[.bool f_Exclude, vf_Sources] :: fr)) f_Sources vf_Sources hS hL_f_Sources hG_5 hG_7 hD hM) ?_
    rintro _ h_3 ⟨F_2, r_3, rfl, hk, hS, _, _, _, hM⟩
    replace hK := hK.trans hk
    replace hL_f_Sources := hL_f_Sources.kp hk
    replace hG_5 := hG_5.kp hk
    replace hG_7 := hG_7.kp hk
    obtain ⟨ho_2, hM⟩ := hM
    refine HO.val (v := .string (bs (([105, 110, 32] : Str) ++ r_3))) (want_none) rfl (q_addT rfl rfl ho_2) ?_
    refine HO.val (v := .string (bs (([105, 110, 32] : Str) ++ r_3))) (want_none) rfl (q_assign rfl) ?_
    refine HO.nil (thenQ_normal (?_))
    refine HW.ret (?_)
    refine ⟨.inr rfl, .string (bs (([105, 110, 32] : Str) ++ r_3)), res1 rfl (rt rfl), ?_⟩
    replace hS : St F_2 (fr) h_3 := hS.perm2 [] 1 rfl rfl
    exact ⟨F_2, ([105, 110, 32] : Str) ++ r_3, rfl, hK, hS, hL_f_Sources, hG_5, hG_7, hM⟩

def merge_Parse_j1 (s1 : Str) (Q : Bool → (List T_api_Addr) → Int → Prop) (r0_1 : List T_api_Addr) (b_3 : Bool) : Prop :=
  (b_3 = true → Q false [] 2) ∧ (b_3 = false → Q (decide (((cutS s1 ([32] : Str)).1 : Str) = [101, 120])) r0_1 0)
def merge_Parse_W (s1 : Str) (Q : Bool → (List T_api_Addr) → Int → Prop) : Prop :=
  ((s1.length : Int) < 4294967281) ∧ (srcs_Parse_W ((cutS s1 ([32] : Str)).2.1) (fun r0_1 r1_2 => (¬ (r1_2 = 0) → merge_Parse_j1 s1 Q r0_1 true) ∧ (r1_2 = 0 → merge_text_W (decide (((cutS s1 ([32] : Str)).1 : Str) = [101, 120])) r0_1 (fun r_1 => merge_Parse_j1 s1 Q r0_1 (!decide ((r_1 : Str) = s1))))))
set_option maxHeartbeats 40000000 in
set_option maxRecDepth 100000 in
theorem merge_Parse_walk {F : Fz} {fr : List Ow} {h0 : Heap} (s1 : Str) (gm : Int) (gvS : Value) (gbS : Bool) (gvR : Value) (gbR : Bool) (hS : St F (fr) h0) (hG_0 : RoF (Ow.box 0 3 #[.int .i64 gm]) F h0) (hG_3 : RoF (Ow.box 3 75 #[gvS]) F h0) (hE_gvS : ErrF gbS gvS F h0) (hG_4 : RoF (Ow.box 4 75 #[gvR]) F h0) (hE_gvR : ErrF gbR gvR F h0) (hG_5 : RoF (Ow.box 5 160 (tab10 ()).toArray) F h0) (hG_7 : RoF (Ow.box 7 164 (arrCells tab64).toArray) F h0) (hD : DM.on = false) {Q : Bool → (List T_api_Addr) → Int → Prop} (hM : merge_Parse_W s1 Q) :
    HC Tryz.prog 14 #[.string (bs s1)] h0 fun u h' => ∃ (F' : Fz) (r0_0_1 : Bool) (r0_1_1 : List T_api_Addr) (r1_1 : Int) (vr0_1_1 : Value), u = .tuple #[.agg #[.bool r0_0_1, vr0_1_1], .int .i64 r1_1] ∧ Kp F h0 F' h' ∧ St F' (Ow.own 44 17 e_api_Addr vr0_1_1 r0_1_1 :: fr) h' ∧ (RoF (Ow.box 0 3 #[.int .i64 gm]) F' h') ∧ (RoF (Ow.box 3 75 #[gvS]) F' h') ∧ (ErrF gbS gvS F' h') ∧ (RoF (Ow.box 4 75 #[gvR]) F' h') ∧ (ErrF gbR gvR F' h') ∧ (RoF (Ow.box 5 160 (tab10 ()).toArray) F' h') ∧ (RoF (Ow.box 7 164 (arrCells tab64).toArray) F' h') ∧ Q r0_0_1 r0_1_1 r1_1 := by
  unfold merge_Parse_W at hM
  have hK := Kp.refl F h0
  refine HC.of_HW (n := 35) Tryz.func14 rfl rfl (Nat.le_of_ble_eq_true rfl) ?_
  refine HW.seq ?_
  refine HW.region ?_
  refine HO.eff (want_none) rfl (st_alloc (c := #[.bool false, .slice none 0 0]) hS tz_34 rfl) ?_
  rintro _ h_1 ⟨b_1, rfl, hS, hk⟩
  replace hK := hK.trans hk
  replace hG_0 := hG_0.kp hk
  replace hG_3 := hG_3.kp hk
  replace hE_gvS := hE_gvS.kp hk
  replace hG_4 := hG_4.kp hk
  replace hE_gvR := hE_gvR.kp hk
  replace hG_5 := hG_5.kp hk
  replace hG_7 := hG_7.kp hk
  refine HO.val (v := .int .i64 0) (want_none) rfl (q_assign rfl) ?_
  refine HO.nil (thenQ_normal (?_))
  refine HW.seq ?_
  refine HW.region ?_
  refine HO.val (v := .string (bs s1)) (want_none) rfl (q_move rfl) ?_
  obtain ⟨ho_1, hM⟩ := hM
  refine HO.call (want_none) rfl (ec en_29 rfl rfl) (strCut_hc Tryz.cut hG_0 s1 ([32] : Str) ho_1) ?_
  rintro _ h_2 ⟨rfl, hEq⟩
  rw [hEq]
  refine HO.val (v := .tuple #[.string (bs ((cutS s1 ([32] : Str)).1)), .string (bs ((cutS s1 ([32] : Str)).2.1)), .bool ((cutS s1 ([32] : Str)).2.2)]) (want_none) rfl (q_move rfl) ?_
  refine HO.val (v := .string (bs ((cutS s1 ([32] : Str)).1))) (want_none) rfl (q_extract rfl rfl) ?_
  refine HO.val (v := .string (bs ((cutS s1 ([32] : Str)).2.1))) (want_none) rfl (q_extract rfl rfl) ?_
  refine HO.val (v := .bool ((cutS s1 ([32] : Str)).2.2)) (want_none) rfl (q_extract rfl rfl) ?_
  refine HO.val (v := .string (bs ((cutS s1 ([32] : Str)).1))) (want_none) rfl (q_assign rfl) ?_
  refine HO.val (v := .string (bs ((cutS s1 ([32] : Str)).2.1))) (want_none) rfl (q_assign rfl) ?_
  refine HO.val (v := .bool ((cutS s1 ([32] : Str)).2.2)) (want_none) rfl (q_assign rfl) ?_
  refine HO.nil (thenQ_normal (?_))
  refine HW.seq ?_
  refine HW.region ?_
  refine HO.val (v := .string (bs ((cutS s1 ([32] : Str)).2.1))) (want_none) rfl (q_move rfl) ?_
  refine HO.call (want_none) rfl (ec en_8 rfl rfl) (srcs_Parse_walk (fr := (Ow.box b_1 34 #[.bool false, .slice none 0 0] :: fr)) ((cutS s1 ([32] : Str)).2.1) gm gvS gbS gvR gbR hS hG_0 hG_3 hE_gvS hG_4 hE_gvR hG_5 hG_7 hD hM) ?_
  rintro _ h_3 ⟨F_1, r0_1, r1_2, vr0_1, rfl, hk, hS, _, _, _, _, _, _, _, hM⟩
  replace hK := hK.trans hk
  replace hG_0 := hG_0.kp hk
  replace hG_3 := hG_3.kp hk
  replace hE_gvS := hE_gvS.kp hk
  replace hG_4 := hG_4.kp hk
  replace hE_gvR := hE_gvR.kp hk
  replace hG_5 := hG_5.kp hk
  replace hG_7 := hG_7.kp hk
  refine HO.val (v := .tuple #[vr0_1, .int .i64 r1_2]) (want_none) rfl (q_move rfl) ?_
  refine HO.val (v := vr0_1) (want_none) rfl (q_extract rfl rfl) ?_
  refine HO.val (v := .int .i64 r1_2) (want_none) rfl (q_extract rfl rfl) ?_
  refine HO.val (v := vr0_1) (want_none) rfl (q_assign rfl) ?_
  refine HO.val (v := .int .i64 r1_2) (want_none) rfl (q_assign rfl) ?_
  refine HO.nil (thenQ_normal (?_))
  refine HW.seq ?_
  refine HW.region ?_
  refine HO.val (v := .string (bs ((cutS s1 ([32] : Str)).1))) (want_none) rfl (q_move rfl) ?_
  refine HO.val (v := .bool (decide (((cutS s1 ([32] : Str)).1 : Str) = [101, 120]))) (want_none) rfl (q_eqlT rfl rfl) ?_
  refine HO.val (v := vr0_1) (want_none) rfl (q_move rfl) ?_
  refine HO.val (v := .agg #[.bool (decide (((cutS s1 ([32] : Str)).1 : Str) = [101, 120])), vr0_1]) (want_none) rfl (q_build tp_34 (fill_cons (cs' := #[.bool (decide (((cutS s1 ([32] : Str)).1 : Str) = [101, 120])), .slice none 0 0]) (vc := #[.bool (decide (((cutS s1 ([32] : Str)).1 : Str) = [101, 120]))]) rfl rfl rfl (Nat.le_of_ble_eq_true rfl) rfl (fill_cons (cs' := #[.bool (decide (((cutS s1 ([32] : Str)).1 : Str) = [101, 120])), vr0_1]) (vc := #[vr0_1]) rfl (shp (hS.own 0 rfl).slice).cells rfl (Nat.le_of_ble_eq_true rfl) rfl rfl))) ?_
  refine HO.eff (want_none) rfl (st_alloc (c := #[.bool false, .slice none 0 0]) hS tz_34 rfl) ?_
  rintro _ h_4 ⟨b_2, rfl, hS, hk⟩
  replace hK := hK.trans hk
  replace hG_0 := hG_0.kp hk
  replace hG_3 := hG_3.kp hk
  replace hE_gvS := hE_gvS.kp hk
  replace hG_4 := hG_4.kp hk
  replace hE_gvR := hE_gvR.kp hk
  replace hG_5 := hG_5.kp hk
  replace hG_7 := hG_7.kp hk
  refine HO.sto (want_none) rfl (st_storeAgg (c' := #[.bool (decide (((cutS s1 ([32] : Str)).1 : Str) = [101, 120])), vr0_1]) hS (i := 0) rfl ta_34 rfl rfl rfl (List.forall_mem_cons.2 ⟨rfl, (List.forall_mem_cons.2 ⟨(shp (hS.own 1 rfl).slice).one, (fun _ h => by cases h)⟩)⟩) (Nat.le_of_ble_eq_true rfl) rfl) ?_
  rintro h_5 ⟨hS, hk⟩
  replace hS : St F_1 (Ow.box b_2 34 #[.bool (decide (((cutS s1 ([32] : Str)).1 : Str) = [101, 120])), vr0_1] :: Ow.own 44 17 e_api_Addr vr0_1 r0_1 :: Ow.box b_1 34 #[.bool false, .slice none 0 0] :: fr) h_5 := hS
  replace hK := hK.trans hk
  replace hG_0 := hG_0.kp hk
  replace hG_3 := hG_3.kp hk
  replace hE_gvS := hE_gvS.kp hk
  replace hG_4 := hG_4.kp hk
  replace hE_gvR := hE_gvR.kp hk
  replace hG_5 := hG_5.kp hk
  replace hG_7 := hG_7.kp hk
  refine HO.nil (thenQ_normal (?_))
  refine HW.seq ?_
  refine HW.seq_mid (fun f h => ∃ (F' : Fz) (b_3 : Bool), f 2 = .pointer (some ⟨b_1, 0, none⟩) ∧ f 3 = .int .i64 0 ∧ f 9 = .pointer (some ⟨b_2, 0, none⟩) ∧ f 32 = .bool b_3 ∧ Kp F h0 F' h ∧ St F' (Ow.box b_1 34 #[.bool false, .slice none 0 0] :: Ow.box b_2 34 #[.bool (decide (((cutS s1 ([32] : Str)).1 : Str) = [101, 120])), vr0_1] :: Ow.own 44 17 e_api_Addr vr0_1 r0_1 :: fr) h ∧ (RoF (Ow.box 0 3 #[.int .i64 gm]) F' h) ∧ (RoF (Ow.box 3 75 #[gvS]) F' h) ∧ (ErrF gbS gvS F' h) ∧ (RoF (Ow.box 4 75 #[gvR]) F' h) ∧ (ErrF gbR gvR F' h) ∧ (RoF (Ow.box 5 160 (tab10 ()).toArray) F' h) ∧ (RoF (Ow.box 7 164 (arrCells tab64).toArray) F' h) ∧ merge_Parse_j1 s1 Q r0_1 b_3) ?_ ?_
  · refine HW.region ?_
    refine HO.val (v := .int .i64 r1_2) (want_none) rfl (q_move rfl) ?_
    refine HO.val (v := .bool (!decide (r1_2 = 0))) (want_none) rfl (q_neq rfl rfl) ?_
    refine HO.val (v := .bool (!decide (r1_2 = 0))) (want_none) rfl (q_move rfl) ?_
    rcases Bool.eq_false_or_eq_true (!decide (r1_2 = 0)) with c_1 | c_1
    · replace hM := hM.1 (nd_true c_1)
      refine HO.past (past_by rfl rfl c_1) rfl ?_
      refine HO.past (past_by rfl rfl c_1) rfl ?_
      refine HO.past (past_by rfl rfl c_1) rfl ?_
      refine HO.past (past_by rfl rfl c_1) rfl ?_
      refine HO.val (v := .bool true) (want_none) rfl (q_pickK true rfl c_1 rfl) ?_
      refine HO.nil (thenQ_normal (?_))
      replace hS : St F_1 (Ow.box b_1 34 #[.bool false, .slice none 0 0] :: Ow.box b_2 34 #[.bool (decide (((cutS s1 ([32] : Str)).1 : Str) = [101, 120])), vr0_1] :: Ow.own 44 17 e_api_Addr vr0_1 r0_1 :: fr) h_5 := hS.perm2 [2, 0, 1] 3 rfl rfl
      exact ⟨F_1, true, rfl, rfl, rfl, rfl, hK, hS, hG_0, hG_3, hE_gvS, hG_4, hE_gvR, hG_5, hG_7, hM⟩
    · replace hM := hM.2 (nd_false c_1)
      refine HO.val (v := .agg #[.bool (decide (((cutS s1 ([32] : Str)).1 : Str) = [101, 120])), vr0_1]) (want_by rfl rfl c_1) rfl (q_loadAgg (cs := [.bool (decide (((cutS s1 ([32] : Str)).1 : Str) = [101, 120])), vr0_1]) ta_34 rfl rfl (Blk.cells (k := 2) (hS.box 0 rfl) rfl)) ?_
      replace hS : St F_1 (Ow.own 44 17 e_api_Addr vr0_1 r0_1 :: Ow.box b_2 34 #[.bool (decide (((cutS s1 ([32] : Str)).1 : Str) = [101, 120])), vr0_1] :: Ow.box b_1 34 #[.bool false, .slice none 0 0] :: fr) h_5 := hS.perm2 [1, 0, 2] 3 rfl rfl
      have hZ_1 := hS
      have hkz_1 := (hS.freeze).2
      replace hS := hS.freeze.1
      have hL_1 : SliceF (fun b => F_1 b ∨ (Ow.own 44 17 e_api_Addr vr0_1 r0_1).foot b) h_5 17 e_api_Addr vr0_1 r0_1 := ⟨(hZ_1.own 0 rfl).slice, fun _ b hb => .inr hb⟩
      refine HO.call (want_by rfl rfl c_1) rfl (ec en_30 rfl rfl) (merge_text_walk (fr := (Ow.box b_2 34 #[.bool (decide (((cutS s1 ([32] : Str)).1 : Str) = [101, 120])), vr0_1] :: Ow.box b_1 34 #[.bool false, .slice none 0 0] :: fr)) (decide (((cutS s1 ([32] : Str)).1 : Str) = [101, 120])) r0_1 vr0_1 hS hL_1 (hG_5.kp hkz_1) (hG_7.kp hkz_1) hD hM) ?_
      rintro _ h_6 ⟨F_2, r_1, rfl, hk, hS, _, _, _, hM⟩
      obtain ⟨hS, hk⟩ := hZ_1.back hk hS
      generalize (fun b => F_2 b ∧ ¬ (Ow.own 44 17 e_api_Addr vr0_1 r0_1).foot b) = F_3 at hS hk
      replace hK := hK.trans hk
      replace hG_0 := hG_0.kp hk
      replace hG_3 := hG_3.kp hk
      replace hE_gvS := hE_gvS.kp hk
      replace hG_4 := hG_4.kp hk
      replace hE_gvR := hE_gvR.kp hk
      replace hG_5 := hG_5.kp hk
      replace hG_7 := hG_7.kp hk
      refine HO.val (v := .string (bs s1)) (want_by rfl rfl c_1) rfl (q_move rfl) ?_
      refine HO.val (v := .bool (!decide ((r_1 : Str) = s1))) (want_by rfl rfl c_1) rfl (q_neqT rfl rfl) ?_
      refine HO.val (v := .bool (!decide ((r_1 : Str) = s1))) (want_none) rfl (q_pickK false rfl c_1 rfl) ?_
      refine HO.nil (thenQ_normal (?_))
      replace hS : St F_3 (Ow.box b_1 34 #[.bool false, .slice none 0 0] :: Ow.box b_2 34 #[.bool (decide (((cutS s1 ([32] : Str)).1 : Str) = [101, 120])), vr0_1] :: Ow.own 44 17 e_api_Addr vr0_1 r0_1 :: fr) h_6 := hS.perm2 [2, 1, 0] 3 rfl rfl
      exact ⟨F_3, !decide ((r_1 : Str) = s1), rfl, rfl, rfl, rfl, hK, hS, hG_0, hG_3, hE_gvS, hG_4, hE_gvR, hG_5, hG_7, hM⟩
  · rintro f_1 h_7 ⟨F_4, b_3, e2, e3, e9, e32, hK, hS, hG_0, hG_3, hE_gvS, hG_4, hE_gvR, hG_5, hG_7, hM⟩
    unfold merge_Parse_j1 at hM
    refine HW.fr [(2, .pointer (some ⟨b_1, 0, none⟩)), (3, .int .i64 0), (9, .pointer (some ⟨b_2, 0, none⟩)), (32, .bool b_3)] ⟨e2, e3, e9, e32, trivial⟩ ?_
    refine HW.cond b_3 rfl (fun c_2 => ?_) (fun c_2 => ?_)
    · replace hM := hM.1 c_2
      refine HW.seq ?_
      refine HW.region ?_
      refine HO.val (v := .agg #[.bool false, .slice none 0 0]) (want_none) rfl (q_build tp_34 rfl) ?_
      refine HO.sto (want_none) rfl (st_storeAgg (c' := #[.bool false, .slice none 0 0]) hS (i := 0) rfl ta_34 rfl rfl rfl (by simp [Value.oneCell']) (Nat.le_of_ble_eq_true rfl) rfl) ?_
      rintro h_8 ⟨hS, hk⟩
      replace hS : St F_4 (Ow.box b_1 34 #[.bool false, .slice none 0 0] :: Ow.box b_2 34 #[.bool (decide (((cutS s1 ([32] : Str)).1 : Str) = [101, 120])), vr0_1] :: Ow.own 44 17 e_api_Addr vr0_1 r0_1 :: fr) h_8 := hS
      replace hK := hK.trans hk
      replace hG_0 := hG_0.kp hk
      replace hG_3 := hG_3.kp hk
      replace hE_gvS := hE_gvS.kp hk
      replace hG_4 := hG_4.kp hk
      replace hE_gvR := hE_gvR.kp hk
      replace hG_5 := hG_5.kp hk
      replace hG_7 := hG_7.kp hk
      refine HO.val (v := .int .i64 2) (want_none) rfl (q_assign rfl) ?_
      refine HO.nil (thenQ_normal (?_))
      refine HW.ret (thenQ_ret (?_))
      refine ⟨.inr rfl, .tuple #[.agg #[.bool false, .slice none 0 0], .int .i64 2], res2 rfl (rca (cs := [.bool false, .slice none 0 0]) ta_34 rfl rfl (Blk.cells (k := 2) (hS.box 0 rfl) rfl)) (rt rfl), ?_⟩
      replace hS := hS.nilOwn 44 17 e_api_Addr
      replace hS : St F_4 (Ow.own 44 17 e_api_Addr (.slice none 0 0) ([] : List T_api_Addr) :: fr) h_8 := hS.perm2 [0] 4 rfl rfl
      exact ⟨F_4, false, [], 2, .slice none 0 0, rfl, hK, hS, hG_0, hG_3, hE_gvS, hG_4, hE_gvR, hG_5, hG_7, hM⟩
    · replace hM := hM.2 c_2
      refine HW.skip (thenQ_normal (?_))
      refine HW.seq ?_
      refine HW.region ?_
      refine HO.val (v := .agg #[.bool (decide (((cutS s1 ([32] : Str)).1 : Str) = [101, 120])), vr0_1]) (want_none) rfl (q_loadAgg (cs := [.bool (decide (((cutS s1 ([32] : Str)).1 : Str) = [101, 120])), vr0_1]) ta_34 rfl rfl (Blk.cells (k := 2) (hS.box 1 rfl) rfl)) ?_
      refine HO.sto (want_none) rfl (st_storeAgg (c' := #[.bool (decide (((cutS s1 ([32] : Str)).1 : Str) = [101, 120])), vr0_1]) hS (i := 0) rfl ta_34 rfl rfl rfl (List.forall_mem_cons.2 ⟨rfl, (List.forall_mem_cons.2 ⟨(shp (hS.own 2 rfl).slice).one, (fun _ h => by cases h)⟩)⟩) (Nat.le_of_ble_eq_true rfl) rfl) ?_
      rintro h_9 ⟨hS, hk⟩
      replace hS : St F_4 (Ow.box b_1 34 #[.bool (decide (((cutS s1 ([32] : Str)).1 : Str) = [101, 120])), vr0_1] :: Ow.box b_2 34 #[.bool (decide (((cutS s1 ([32] : Str)).1 : Str) = [101, 120])), vr0_1] :: Ow.own 44 17 e_api_Addr vr0_1 r0_1 :: fr) h_9 := hS
      replace hK := hK.trans hk
      replace hG_0 := hG_0.kp hk
      replace hG_3 := hG_3.kp hk
      replace hE_gvS := hE_gvS.kp hk
      replace hG_4 := hG_4.kp hk
      replace hE_gvR := hE_gvR.kp hk
      replace hG_5 := hG_5.kp hk
      replace hG_7 := hG_7.kp hk
      refine HO.val (v := .int .i64 0) (want_none) rfl (q_assign rfl) ?_
      refine HO.nil (thenQ_normal (?_))
      refine HW.ret (?_)
      refine ⟨.inr rfl, .tuple #[.agg #[.bool (decide (((cutS s1 ([32] : Str)).1 : Str) = [101, 120])), vr0_1], .int .i64 0], res2 rfl (rca (cs := [.bool (decide (((cutS s1 ([32] : Str)).1 : Str) = [101, 120])), vr0_1]) ta_34 rfl rfl (Blk.cells (k := 2) (hS.box 0 rfl) rfl)) (rt rfl), ?_⟩
      replace hS : St F_4 (Ow.own 44 17 e_api_Addr vr0_1 r0_1 :: fr) h_9 := hS.perm2 [2] 3 rfl rfl
      exact ⟨F_4, decide (((cutS s1 ([32] : Str)).1 : Str) = [101, 120]), r0_1, 0, vr0_1, rfl, hK, hS, hG_0, hG_3, hE_gvS, hG_4, hE_gvR, hG_5, hG_7, hM⟩

def merge_Print_W (f_Exclude : Bool) (f_Sources : List T_api_Addr) (Q : Str → Prop) : Prop :=
  merge_text_W f_Exclude f_Sources (fun r_2 => Q r_2)
set_option maxHeartbeats 40000000 in
set_option maxRecDepth 100000 in
theorem merge_Print_walk {F : Fz} {fr : List Ow} {h0 : Heap} (f_Exclude : Bool) (f_Sources : List T_api_Addr) (vf_Sources : Value) (hS : St F (fr) h0) (hL_f_Sources : SliceF F h0 17 e_api_Addr vf_Sources f_Sources) (hG_5 : RoF (Ow.box 5 160 (tab10 ()).toArray) F h0) (hG_7 : RoF (Ow.box 7 164 (arrCells tab64).toArray) F h0) (hD : DM.on = false) {Q : Str → Prop} (hM : merge_Print_W f_Exclude f_Sources Q) :
    HC Tryz.prog 16 #[.agg #[.bool f_Exclude, vf_Sources]] h0 fun u h' => ∃ (F' : Fz) (r_1 : Str), u = .string (bs r_1) ∧ Kp F h0 F' h' ∧ St F' (fr) h' ∧ (SliceF F' h' 17 e_api_Addr vf_Sources f_Sources) ∧ (RoF (Ow.box 5 160 (tab10 ()).toArray) F' h') ∧ (RoF (Ow.box 7 164 (arrCells tab64).toArray) F' h') ∧ Q r_1 := by
  unfold merge_Print_W at hM
  have hK := Kp.refl F h0
  refine HC.of_HW (n := 5) Tryz.func16 rfl rfl (Nat.le_of_ble_eq_true rfl) ?_
  refine HW.seq ?_
  refine HW.region ?_
  refine HO.eff (want_none) rfl (st_box (c := #[.bool f_Exclude, vf_Sources]) (k' := 2) hS rfl rfl) ?_
  rintro _ h_1 ⟨b_1, rfl, hS, hk⟩
  replace hK := hK.trans hk
  replace hL_f_Sources := hL_f_Sources.kp hk
  replace hG_5 := hG_5.kp hk
  replace hG_7 := hG_7.kp hk
  refine HO.val (v := .string (bs [])) (want_none) rfl (q_assign rfl) ?_
  refine HO.nil (thenQ_normal (?_))
  refine HW.seq ?_
  refine HW.region ?_
  refine HO.val (v := .agg #[.bool f_Exclude, vf_Sources]) (want_none) rfl (q_loadAgg (cs := [.bool f_Exclude, vf_Sources]) ta_34 rfl rfl (Blk.cells (k := 2) (hS.box 0 rfl) rfl)) ?_
  refine HO.call (want_none) rfl (ec en_30 rfl rfl) (merge_text_walk (fr := (Ow.box b_1 34 #[.bool f_Exclude, vf_Sources] :: fr)) f_Exclude f_Sources vf_Sources hS hL_f_Sources hG_5 hG_7 hD hM) ?_
  rintro _ h_2 ⟨F_1, r_2, rfl, hk, hS, _, _, _, hM⟩
  replace hK := hK.trans hk
  replace hL_f_Sources := hL_f_Sources.kp hk
  replace hG_5 := hG_5.kp hk
  replace hG_7 := hG_7.kp hk
  refine HO.val (v := .string (bs r_2)) (want_none) rfl (q_assign rfl) ?_
  refine HO.nil (thenQ_normal (?_))
  refine HW.ret (?_)
  refine ⟨.inr rfl, .string (bs r_2), res1 rfl (rt rfl), ?_⟩
  replace hS : St F_1 (fr) h_2 := hS.perm2 [] 1 rfl rfl
  exact ⟨F_1, r_2, rfl, hK, hS, hL_f_Sources, hG_5, hG_7, hM⟩

def ref11_Same_l1 (a : List T_api_Addr) (b : List T_api_Addr) (Q : Bool → Prop) (K_1 : Int → Prop) (i_1 : Int) : Prop :=
  (i_1 < (a.length : Int) → ((0 : Int) ≤ i_1 ∧ i_1 < (a.length : Int)) ∧ (((0 : Int) ≤ i_1 ∧ i_1 < (b.length : Int)) ∧ ((¬ (((gi a i_1) : T_api_Addr) = (gi b i_1)) → Q false) ∧ (((gi a i_1) : T_api_Addr) = (gi b i_1) → (I64 (i_1 + 1)) ∧ (K_1 (i_1 + 1)))))) ∧ (¬ (i_1 < (a.length : Int)) → Q true)
def ref11_Same_W (a : List T_api_Addr) (b : List T_api_Addr) (Q : Bool → Prop) : Prop :=
  (¬ ((a.length : Int) = (b.length : Int)) → Q false) ∧ ((a.length : Int) = (b.length : Int) → loopW (fun (K_1 : Int → Prop) (s : Int) => ref11_Same_l1 a b Q K_1 s) 0)
set_option maxHeartbeats 40000000 in
set_option maxRecDepth 100000 in
theorem ref11_Same_walk {F : Fz} {fr : List Ow} {h0 : Heap} (a : List T_api_Addr) (b : List T_api_Addr) (va : Value) (vb : Value) (hS : St F (fr) h0) (hL_a : SliceF F h0 17 e_api_Addr va a) (hL_b : SliceF F h0 17 e_api_Addr vb b) {Q : Bool → Prop} (hM : ref11_Same_W a b Q) :
    HC Tryz.prog 11 #[va, vb] h0 fun u h' => ∃ (F' : Fz) (r_1 : Bool), u = .bool r_1 ∧ Kp F h0 F' h' ∧ St F' (fr) h' ∧ (SliceF F' h' 17 e_api_Addr va a) ∧ (SliceF F' h' 17 e_api_Addr vb b) ∧ Q r_1 := by
  unfold ref11_Same_W at hM
  have hK := Kp.refl F h0
  refine HC.of_HW (n := 26) Tryz.func11 rfl rfl (Nat.le_of_ble_eq_true rfl) ?_
  refine HW.seq ?_
  refine HW.region ?_
  refine HO.val (v := .bool false) (want_none) rfl (q_assign rfl) ?_
  refine HO.nil (thenQ_normal (?_))
  refine HW.seq ?_
  refine HW.seq ?_
  refine HW.region ?_
  refine HO.val (v := va) (want_none) rfl (q_move rfl) ?_
  refine HO.val (v := .int .i64 (a.length : Int)) (want_none) rfl (q_len ts_22 (shp hL_a.is) rfl rfl) ?_
  refine HO.val (v := vb) (want_none) rfl (q_move rfl) ?_
  refine HO.val (v := .int .i64 (b.length : Int)) (want_none) rfl (q_len ts_22 (shp hL_b.is) rfl rfl) ?_
  refine HO.val (v := .bool (!decide ((a.length : Int) = (b.length : Int)))) (want_none) rfl (q_neq rfl rfl) ?_
  refine HO.nil (thenQ_normal (?_))
  refine HW.cond (!decide ((a.length : Int) = (b.length : Int))) rfl (fun c_1 => ?_) (fun c_1 => ?_)
  · replace hM := hM.1 (nd_true c_1)
    refine HW.seq ?_
    refine HW.region ?_
    refine HO.val (v := .bool false) (want_none) rfl (q_assign rfl) ?_
    refine HO.nil (thenQ_normal (?_))
    refine HW.ret (thenQ_ret (?_))
    refine ⟨.inr rfl, .bool false, res1 rfl (rt rfl), ?_⟩
    exact ⟨F, false, rfl, hK, hS, hL_a, hL_b, hM⟩
  · replace hM := hM.2 (nd_false c_1)
    refine HW.skip (thenQ_normal (?_))
    refine HW.seq ?_
    refine HW.seq ?_
    refine HW.region ?_
    refine HO.val (v := .int .i64 0) (want_none) rfl (q_assign rfl) ?_
    refine HO.nil (thenQ_normal (?_))
    refine HW.block ?_
    obtain ⟨I_1, m_1, hI_1, hR_1⟩ := hM
    refine HW.loop (S := Int) (fun i_1 f h => ∃ (F' : Fz), f 0 = va ∧ f 1 = vb ∧ f 4 = .bool false ∧ f 5 = .int .i64 i_1 ∧ Kp F h0 F' h ∧ St F' (fr) h ∧ (SliceF F' h 17 e_api_Addr va a) ∧ (SliceF F' h 17 e_api_Addr vb b) ∧ I_1 i_1) m_1 0 ⟨F, rfl, rfl, rfl, rfl, hK, hS, hL_a, hL_b, hI_1⟩ ?_
    rintro i_1 f_1 h_1 ⟨F_1, e0, e1, e4, e5, hK, hS, hL_a, hL_b, hI0⟩
    obtain ⟨K_1, hKe_1⟩ : ∃ K : Int → Prop, K = fun i_1' => I_1 i_1' ∧ m_1 i_1' < m_1 i_1 := ⟨_, rfl⟩
    have hM : ref11_Same_l1 a b Q K_1 i_1 := by rw [hKe_1]; exact hR_1 i_1 hI0
    unfold ref11_Same_l1 at hM
    refine HW.fr [(0, va), (1, vb), (4, .bool false), (5, .int .i64 i_1)] ⟨e0, e1, e4, e5, trivial⟩ ?_
    refine HW.seq ?_
    refine HW.seq ?_
    refine HW.region ?_
    refine HO.val (v := .int .i64 i_1) (want_none) rfl (q_move rfl) ?_
    refine HO.val (v := va) (want_none) rfl (q_move rfl) ?_
    refine HO.val (v := .int .i64 (a.length : Int)) (want_none) rfl (q_len ts_22 (shp hL_a.is) rfl rfl) ?_
    refine HO.val (v := .bool (decide (i_1 < (a.length : Int)))) (want_none) rfl (q_lss rfl rfl) ?_
    refine HO.nil (thenQ_normal (?_))
    refine HW.cond (decide (i_1 < (a.length : Int))) rfl (fun c_2 => ?_) (fun c_2 => ?_)
    · replace hM := hM.1 (of_decide_eq_true c_2)
      refine HW.skip (thenQ_normal (?_))
      refine HW.seq ?_
      refine HW.block ?_
      refine HW.seq ?_
      refine HW.regionA 9 mixed (fun h => (SliceIs h 17 e_api_Addr va a) ∧ (SliceIs h 17 e_api_Addr vb b)) [] (by kernel_rfl) ?_
      refine HA.val (k := 0) (v := va) rfl rfl (by kernel_rfl) (by kernel_rfl) (want_none) rfl (fun _ ⟨hL_a, hL_b⟩ => q_move rfl) ?_
      refine HA.val (k := 1) (v := .int .i64 i_1) rfl rfl (by kernel_rfl) (by kernel_rfl) (want_none) rfl (fun _ ⟨hL_a, hL_b⟩ => q_move rfl) ?_
      obtain ⟨ho_1, hM⟩ := hM
      refine HA.val (k := 2) (v := elemPtr 17 va (i_1).toNat) rfl rfl (by kernel_rfl) (by kernel_rfl) (want_none) rfl (fun _ ⟨hL_a, hL_b⟩ => q_idx ts_22 hL_a rfl rfl ho_1) ?_
      refine HA.val (k := 3) (v := .agg (e_api_Addr (gi a i_1)).toArray) rfl rfl (by kernel_rfl) (by kernel_rfl) (want_none) rfl (fun _ ⟨hL_a, hL_b⟩ => q_ldElemAgg (cs := (e_api_Addr (gi a i_1))) ta_44 hL_a rfl ho_1 rfl) ?_
      refine HA.val (k := 4) (v := vb) rfl rfl (by kernel_rfl) (by kernel_rfl) (want_none) rfl (fun _ ⟨hL_a, hL_b⟩ => q_move rfl) ?_
      refine HA.val (k := 5) (v := .int .i64 i_1) rfl rfl (by kernel_rfl) (by kernel_rfl) (want_none) rfl (fun _ ⟨hL_a, hL_b⟩ => q_move rfl) ?_
      obtain ⟨ho_2, hM⟩ := hM
      refine HA.val (k := 6) (v := elemPtr 17 vb (i_1).toNat) rfl rfl (by kernel_rfl) (by kernel_rfl) (want_none) rfl (fun _ ⟨hL_a, hL_b⟩ => q_idx ts_22 hL_b rfl rfl ho_2) ?_
      refine HA.val (k := 7) (v := .agg (e_api_Addr (gi b i_1)).toArray) rfl rfl (by kernel_rfl) (by kernel_rfl) (want_none) rfl (fun _ ⟨hL_a, hL_b⟩ => q_ldElemAgg (cs := (e_api_Addr (gi b i_1))) ta_44 hL_b rfl ho_2 rfl) ?_
      refine HA.val (k := 8) (v := .bool (!decide (((gi a i_1) : T_api_Addr) = (gi b i_1)))) rfl rfl (by kernel_rfl) (by kernel_rfl) (want_none) rfl (fun _ ⟨hL_a, hL_b⟩ => q_neqAgg (a := (gi a i_1)) (b := (gi b i_1)) (fun a b w => teq_44 9997 a b w) (by kernel_rfl) rfl rfl rfl rfl) ?_
      refine HA.nil ⟨⟨hL_a.is, hL_b.is⟩, (Go.Wk.at_nil _ _)⟩ (by kernel_rfl) (thenQ_normal (?_))
      refine HW.cond (!decide (((gi a i_1) : T_api_Addr) = (gi b i_1))) rfl (fun c_3 => ?_) (fun c_3 => ?_)
      · replace hM := hM.1 (nd_true c_3)
        refine HW.seq ?_
        refine HW.region ?_
        refine HO.val (v := .bool false) (want_none) rfl (q_assign rfl) ?_
        refine HO.nil (thenQ_normal (?_))
        refine HW.ret (blockQ_ret (thenQ_ret (thenQ_ret (blockQ_ret (thenQ_ret (?_))))))
        refine ⟨.inr rfl, .bool false, res1 rfl (rt rfl), ?_⟩
        exact ⟨F_1, false, rfl, hK, hS, hL_a, hL_b, hM⟩
      · replace hM := hM.2 (nd_false c_3)
        refine HW.skip (blockQ_normal (thenQ_normal (?_)))
        refine HW.region ?_
        refine HO.val (v := .int .i64 i_1) (want_none) rfl (q_move rfl) ?_
        obtain ⟨ho_3, hM⟩ := hM
        refine HO.val (v := .int .i64 (i_1 + 1)) (want_none) rfl (q_addN _ rfl rfl rfl ho_3.1 ho_3.2) ?_
        refine HO.val (v := .int .i64 (i_1 + 1)) (want_none) rfl (q_assign rfl) ?_
        refine HO.nil (thenQ_normal (?_))
        rw [hKe_1] at hM
        exact ⟨i_1 + 1, ⟨F_1, rfl, rfl, rfl, rfl, hK, hS, hL_a, hL_b, hM.1⟩, hM.2⟩
    · replace hM := hM.2 (of_decide_eq_false c_2)
      refine HW.exit (thenQ_exit (thenQ_exit (blockQ_exit (thenQ_normal (?_)))))
      refine HW.seq ?_
      refine HW.region ?_
      refine HO.val (v := .bool true) (want_none) rfl (q_assign rfl) ?_
      refine HO.nil (thenQ_normal (?_))
      refine HW.ret (?_)
      refine ⟨.inr rfl, .bool true, res1 rfl (rt rfl), ?_⟩
      exact ⟨F_1, true, rfl, hK, hS, hL_a, hL_b, hM⟩

def ref19_Same_W (a_Exclude : Bool) (a_Sources : List T_api_Addr) (b_Exclude : Bool) (b_Sources : List T_api_Addr) (Q : Bool → Prop) : Prop :=
  ((a_Exclude == b_Exclude) = true → ref11_Same_W a_Sources b_Sources (fun r_2 => Q r_2)) ∧ ((a_Exclude == b_Exclude) = false → Q false)
set_option maxHeartbeats 40000000 in
set_option maxRecDepth 100000 in
theorem ref19_Same_walk {F : Fz} {fr : List Ow} {h0 : Heap} (a_Exclude : Bool) (a_Sources : List T_api_Addr) (b_Exclude : Bool) (b_Sources : List T_api_Addr) (va_Sources : Value) (vb_Sources : Value) (hS : St F (fr) h0) (hL_a_Sources : SliceF F h0 17 e_api_Addr va_Sources a_Sources) (hL_b_Sources : SliceF F h0 17 e_api_Addr vb_Sources b_Sources) {Q : Bool → Prop} (hM : ref19_Same_W a_Exclude a_Sources b_Exclude b_Sources Q) :
    HC Tryz.prog 17 #[.agg #[.bool a_Exclude, va_Sources], .agg #[.bool b_Exclude, vb_Sources]] h0 fun u h' => ∃ (F' : Fz) (r_1 : Bool), u = .bool r_1 ∧ Kp F h0 F' h' ∧ St F' (fr) h' ∧ (SliceF F' h' 17 e_api_Addr va_Sources a_Sources) ∧ (SliceF F' h' 17 e_api_Addr vb_Sources b_Sources) ∧ Q r_1 := by
  unfold ref19_Same_W at hM
  have hK := Kp.refl F h0
  refine HC.of_HW (n := 17) Tryz.func17 rfl rfl (Nat.le_of_ble_eq_true rfl) ?_
  refine HW.seq ?_
  refine HW.region ?_
  refine HO.eff (want_none) rfl (st_box (c := #[.bool a_Exclude, va_Sources]) (k' := 2) hS rfl rfl) ?_
  rintro _ h_1 ⟨b_1, rfl, hS, hk⟩
  replace hK := hK.trans hk
  replace hL_a_Sources := hL_a_Sources.kp hk
  replace hL_b_Sources := hL_b_Sources.kp hk
  refine HO.eff (want_none) rfl (st_box (c := #[.bool b_Exclude, vb_Sources]) (k' := 2) hS rfl rfl) ?_
  rintro _ h_2 ⟨b_2, rfl, hS, hk⟩
  replace hK := hK.trans hk
  replace hL_a_Sources := hL_a_Sources.kp hk
  replace hL_b_Sources := hL_b_Sources.kp hk
  refine HO.val (v := .bool false) (want_none) rfl (q_assign rfl) ?_
  refine HO.nil (thenQ_normal (?_))
  refine HW.seq ?_
  refine HW.region ?_
  refine HO.val (v := .pointer (some ⟨b_1, 0, none⟩)) (want_none) rfl (q_fieldAddr fa_34_0 rfl rfl) ?_
  refine HO.val (v := .bool a_Exclude) (want_none) rfl (q_load to_4 rfl (Blk.cell (hS.box 1 rfl) rfl)) ?_
  refine HO.val (v := .pointer (some ⟨b_2, 0, none⟩)) (want_none) rfl (q_fieldAddr fa_34_0 rfl rfl) ?_
  refine HO.val (v := .bool b_Exclude) (want_none) rfl (q_load to_4 rfl (Blk.cell (hS.box 0 rfl) rfl)) ?_
  refine HO.val (v := .bool (a_Exclude == b_Exclude)) (want_none) rfl (q_eqlB Tryz.underlying4 rfl rfl) ?_
  refine HO.val (v := .bool (a_Exclude == b_Exclude)) (want_none) rfl (q_move rfl) ?_
  rcases Bool.eq_false_or_eq_true (a_Exclude == b_Exclude) with c_1 | c_1
  · replace hM := hM.1 c_1
    refine HO.val (v := .pointer (some ⟨b_1, 1, none⟩)) (want_by rfl rfl c_1) rfl (q_fieldAddr fa_34_1 rfl rfl) ?_
    refine HO.val (v := va_Sources) (want_by rfl rfl c_1) rfl (q_load to_22 rfl (Blk.cell (hS.box 1 rfl) rfl)) ?_
    refine HO.val (v := .pointer (some ⟨b_2, 1, none⟩)) (want_by rfl rfl c_1) rfl (q_fieldAddr fa_34_1 rfl rfl) ?_
    refine HO.val (v := vb_Sources) (want_by rfl rfl c_1) rfl (q_load to_22 rfl (Blk.cell (hS.box 0 rfl) rfl)) ?_
    refine HO.call (want_by rfl rfl c_1) rfl (ec en_11 rfl rfl) (ref11_Same_walk (fr := (Ow.box b_2 34 #[.bool b_Exclude, vb_Sources] :: Ow.box b_1 34 #[.bool a_Exclude, va_Sources] :: fr)) a_Sources b_Sources va_Sources vb_Sources hS hL_a_Sources hL_b_Sources hM) ?_
    rintro _ h_3 ⟨F_1, r_2, rfl, hk, hS, _, _, hM⟩
    replace hK := hK.trans hk
    replace hL_a_Sources := hL_a_Sources.kp hk
    replace hL_b_Sources := hL_b_Sources.kp hk
    refine HO.val (v := .bool r_2) (want_none) rfl (q_pickK true rfl c_1 rfl) ?_
    refine HO.val (v := .bool r_2) (want_none) rfl (q_assign rfl) ?_
    refine HO.nil (thenQ_normal (?_))
    refine HW.ret (?_)
    refine ⟨.inr rfl, .bool r_2, res1 rfl (rt rfl), ?_⟩
    replace hS : St F_1 (fr) h_3 := hS.perm2 [] 2 rfl rfl
    exact ⟨F_1, r_2, rfl, hK, hS, hL_a_Sources, hL_b_Sources, hM⟩
  · replace hM := hM.2 c_1
    refine HO.past (past_by rfl rfl c_1) rfl ?_
    refine HO.past (past_by rfl rfl c_1) rfl ?_
    refine HO.past (past_by rfl rfl c_1) rfl ?_
    refine HO.past (past_by rfl rfl c_1) rfl ?_
    refine HO.past (past_by rfl rfl c_1) rfl ?_
    refine HO.val (v := .bool false) (want_none) rfl (q_pickK false rfl c_1 rfl) ?_
    refine HO.val (v := .bool false) (want_none) rfl (q_assign rfl) ?_
    refine HO.nil (thenQ_normal (?_))
    refine HW.ret (?_)
    refine ⟨.inr rfl, .bool false, res1 rfl (rt rfl), ?_⟩
    replace hS : St F (fr) h_2 := hS.perm2 [] 2 rfl rfl
    exact ⟨F, false, rfl, hK, hS, hL_a_Sources, hL_b_Sources, hM⟩

def law19_four_W (last : Int) (Q : T_api_Addr → Prop) : Prop :=
  ((0 : Int) ≤ last ∧ last < 256) ∧ (Q (false, mkB 16 [10, 0, 0, last, 0, 0, 0, 0, 0, 0, 0, 0, 0, 0, 0, 0]))
set_option maxHeartbeats 40000000 in
set_option maxRecDepth 100000 in
theorem law19_four_walk {F : Fz} {fr : List Ow} {h0 : Heap} (last : Int) (hS : St F (fr) h0)  {Q : T_api_Addr → Prop} (hM : law19_four_W last Q) :
    HC Tryz.prog 32 #[.int .u8 last] h0 fun u h' => ∃ (F' : Fz) (r_1 : T_api_Addr), u = .agg (e_api_Addr r_1).toArray ∧ Kp F h0 F' h' ∧ St F' (fr) h' ∧ Q r_1 := by
  unfold law19_four_W at hM
  have hK := Kp.refl F h0
  refine HC.of_HW (n := 6) Tryz.func32 rfl rfl (Nat.le_of_ble_eq_true rfl) ?_
  refine HW.seq ?_
  refine HW.region ?_
  refine HO.eff (want_none) rfl (st_alloc (c := (e_api_Addr (false, (default : Ba 16))).toArray) hS tz_44 rfl) ?_
  rintro _ h_1 ⟨b_1, rfl, hS, hk⟩
  replace hK := hK.trans hk
  refine HO.nil (thenQ_normal (?_))
  refine HW.seq ?_
  refine HW.region ?_
  refine HO.val (v := .int .u8 last) (want_none) rfl (q_move rfl) ?_
  obtain ⟨ho_1, hM⟩ := hM
  refine HO.val (v := .agg (arrCells (mkB 16 [10, 0, 0, last, 0, 0, 0, 0, 0, 0, 0, 0, 0, 0, 0, 0])).toArray) (want_none) rfl ((q_buildA (cells := #[.int .u8 10, .int .u8 0, .int .u8 0, .int .u8 last, .int .u8 0, .int .u8 0, .int .u8 0, .int .u8 0, .int .u8 0, .int .u8 0, .int .u8 0, .int .u8 0, .int .u8 0, .int .u8 0, .int .u8 0, .int .u8 0]) tb_42 rfl).of_eq (mkB_agg (n := 16) (l := [10, 0, 0, last, 0, 0, 0, 0, 0, 0, 0, 0, 0, 0, 0, 0]) rfl ⟨⟨by decide, by decide⟩, ⟨⟨by decide, by decide⟩, ⟨⟨by decide, by decide⟩, ⟨ho_1, ⟨⟨by decide, by decide⟩, ⟨⟨by decide, by decide⟩, ⟨⟨by decide, by decide⟩, ⟨⟨by decide, by decide⟩, ⟨⟨by decide, by decide⟩, ⟨⟨by decide, by decide⟩, ⟨⟨by decide, by decide⟩, ⟨⟨by decide, by decide⟩, ⟨⟨by decide, by decide⟩, ⟨⟨by decide, by decide⟩, ⟨⟨by decide, by decide⟩, ⟨⟨by decide, by decide⟩, trivial⟩⟩⟩⟩⟩⟩⟩⟩⟩⟩⟩⟩⟩⟩⟩⟩)) ?_
  refine HO.val (v := .agg (e_api_Addr (false, mkB 16 [10, 0, 0, last, 0, 0, 0, 0, 0, 0, 0, 0, 0, 0, 0, 0])).toArray) (want_none) rfl (q_build tp_44 (fill_cons (cs' := (e_api_Addr (false, mkB 16 [10, 0, 0, last, 0, 0, 0, 0, 0, 0, 0, 0, 0, 0, 0, 0])).toArray) (vc := (arrCells (mkB 16 [10, 0, 0, last, 0, 0, 0, 0, 0, 0, 0, 0, 0, 0, 0, 0])).toArray) rfl rfl rfl (Nat.le_of_ble_eq_true rfl) rfl rfl)) ?_
  refine HO.sto (want_none) rfl (st_storeAgg (c' := (e_api_Addr (false, mkB 16 [10, 0, 0, last, 0, 0, 0, 0, 0, 0, 0, 0, 0, 0, 0, 0])).toArray) hS (i := 0) rfl ta_44 rfl rfl rfl (one_e_api_Addr _) (Nat.le_of_ble_eq_true rfl) rfl) ?_
  rintro h_2 ⟨hS, hk⟩
  replace hS : St F (Ow.box b_1 44 (e_api_Addr (false, mkB 16 [10, 0, 0, last, 0, 0, 0, 0, 0, 0, 0, 0, 0, 0, 0, 0])).toArray :: fr) h_2 := hS
  replace hK := hK.trans hk
  refine HO.nil (thenQ_normal (?_))
  refine HW.ret (?_)
  refine ⟨.inr rfl, .agg (e_api_Addr (false, mkB 16 [10, 0, 0, last, 0, 0, 0, 0, 0, 0, 0, 0, 0, 0, 0, 0])).toArray, res1 rfl (rca (cs := (e_api_Addr (false, mkB 16 [10, 0, 0, last, 0, 0, 0, 0, 0, 0, 0, 0, 0, 0, 0, 0]))) ta_44 rfl rfl (Blk.cells (k := 17) (hS.box 0 rfl) rfl)), ?_⟩
  replace hS : St F (fr) h_2 := hS.perm2 [] 1 rfl rfl
  exact ⟨F, (false, mkB 16 [10, 0, 0, last, 0, 0, 0, 0, 0, 0, 0, 0, 0, 0, 0, 0]), rfl, hK, hS, hM⟩

def srcs_walk_1_api_Addr_W (x : T_api_Addr) (is : Bool) (c0_v : List T_api_Addr) (Q : (List T_api_Addr) → Prop) : Prop :=
  (is = true → ((c0_v.length + ([x] : List T_api_Addr).length) * 17 ≤ 140737488355328) ∧ (Q (c0_v ++ ([x] : List T_api_Addr)))) ∧ (is = false → Q c0_v)
set_option maxHeartbeats 40000000 in
set_option maxRecDepth 100000 in
theorem srcs_walk_1_api_Addr_walk {F : Fz} {fr : List Ow} {h0 : Heap} (x : T_api_Addr) (is : Bool) (c0_v : List T_api_Addr) (bc0 : Nat) (vc0_v : Value) (hS : St F (Ow.box bc0 22 #[vc0_v] :: Ow.own 44 17 e_api_Addr vc0_v c0_v :: fr) h0)  {Q : (List T_api_Addr) → Prop} (hM : srcs_walk_1_api_Addr_W x is c0_v Q) :
    HC Tryz.prog 108 #[.agg (e_api_Addr x).toArray, .bool is, .pointer (some ⟨bc0, 0, none⟩)] h0 fun u h' => ∃ (F' : Fz) (a2_0_2 : List T_api_Addr) (v_1 : Value), u = .tuple #[] ∧ Kp F h0 F' h' ∧ St F' (Ow.box bc0 22 #[v_1] :: Ow.own 44 17 e_api_Addr v_1 a2_0_2 :: fr) h' ∧ Q a2_0_2 := by
  unfold srcs_walk_1_api_Addr_W at hM
  have hK := Kp.refl F h0
  refine HC.of_HW (n := 10) Tryz.func108 rfl rfl (Nat.le_of_ble_eq_true rfl) ?_
  refine HW.seq ?_
  refine HW.region ?_
  refine HO.eff (want_none) rfl (st_box (c := (e_api_Addr x).toArray) (k' := 17) hS rfl rfl) ?_
  rintro _ h_1 ⟨b_1, rfl, hS, hk⟩
  replace hK := hK.trans hk
  refine HO.nil (thenQ_normal (?_))
  refine HW.seq ?_
  refine HW.region ?_
  refine HO.val (v := .bool is) (want_none) rfl (q_move rfl) ?_
  refine HO.nil (thenQ_normal (?_))
  refine HW.cond is rfl (fun c_1 => ?_) (fun c_1 => ?_)
  · replace hM := hM.1 c_1
    refine HW.region ?_
    refine HO.val (v := vc0_v) (want_none) rfl (q_load to_22 rfl (Blk.cell (hS.box 1 rfl) rfl)) ?_
    refine HO.val (v := .agg (e_api_Addr x).toArray) (want_none) rfl (q_loadAgg (cs := (e_api_Addr x)) ta_44 rfl rfl (Blk.cells (k := 17) (hS.box 0 rfl) rfl)) ?_
    refine HO.eff (want_none) rfl (st_lit (enc := e_api_Addr) (cells := #[.bool x.1, .int .u8 (b8 x.2 0), .int .u8 (b8 x.2 1), .int .u8 (b8 x.2 2), .int .u8 (b8 x.2 3), .int .u8 (b8 x.2 4), .int .u8 (b8 x.2 5), .int .u8 (b8 x.2 6), .int .u8 (b8 x.2 7), .int .u8 (b8 x.2 8), .int .u8 (b8 x.2 9), .int .u8 (b8 x.2 10), .int .u8 (b8 x.2 11), .int .u8 (b8 x.2 12), .int .u8 (b8 x.2 13), .int .u8 (b8 x.2 14), .int .u8 (b8 x.2 15)]) #[.bool false, .int .u8 0, .int .u8 0, .int .u8 0, .int .u8 0, .int .u8 0, .int .u8 0, .int .u8 0, .int .u8 0, .int .u8 0, .int .u8 0, .int .u8 0, .int .u8 0, .int .u8 0, .int .u8 0, .int .u8 0, .int .u8 0] ([x] : List T_api_Addr) hS tl_22 (by decide) (by decide) (by kernel_rfl) (by kernel_rfl) rfl (by intro x hx; rfl) rfl) ?_
    rintro _ h_2 ⟨b_2, rfl, hS, hk⟩
    replace hK := hK.trans hk
    obtain ⟨ho_1, hM⟩ := hM
    refine HO.eff (want_none) rfl (st_append te_22 hS (i := 3) rfl (hS.own 0 rfl).slice rfl rfl rfl (by intro a _ u hu; simp [e_api_Addr, encI, encN, encB, encT] at hu; rcases hu with rfl | rfl | rfl | rfl | rfl | rfl | rfl | rfl | rfl | rfl | rfl | rfl | rfl | rfl | rfl | rfl | rfl <;> rfl) ho_1 (by omega)) ?_
    rintro v_2 h_3 ⟨hS, hk⟩
    replace hS : St F (Ow.own 44 17 e_api_Addr (.slice (some ⟨b_2, 0, none⟩) 1 1) ([x] : List T_api_Addr) :: Ow.box b_1 44 (e_api_Addr x).toArray :: Ow.box bc0 22 #[vc0_v] :: Ow.own 44 17 e_api_Addr v_2 (c0_v ++ ([x] : List T_api_Addr)) :: fr) h_3 := hS
    replace hK := hK.trans hk
    refine HO.sto (want_none) rfl (st_store (c' := #[v_2]) hS (i := 2) rfl to_22 rfl rfl (shp (hS.own 3 rfl).slice).cells (shp (hS.own 3 rfl).slice).one (Nat.le_of_ble_eq_true rfl) rfl) ?_
    rintro h_4 ⟨hS, hk⟩
    replace hS : St F (Ow.own 44 17 e_api_Addr (.slice (some ⟨b_2, 0, none⟩) 1 1) ([x] : List T_api_Addr) :: Ow.box b_1 44 (e_api_Addr x).toArray :: Ow.box bc0 22 #[v_2] :: Ow.own 44 17 e_api_Addr v_2 (c0_v ++ ([x] : List T_api_Addr)) :: fr) h_4 := hS
    replace hK := hK.trans hk
    refine HO.nil (?_)
    refine ⟨.inl rfl, .tuple #[], res0 rfl , ?_⟩
    replace hS : St F (Ow.box bc0 22 #[v_2] :: Ow.own 44 17 e_api_Addr v_2 (c0_v ++ ([x] : List T_api_Addr)) :: fr) h_4 := hS.perm2 [2, 3] 4 rfl rfl
    exact ⟨F, c0_v ++ ([x] : List T_api_Addr), v_2, rfl, hK, hS, hM⟩
  · replace hM := hM.2 c_1
    refine HW.skip (?_)
    refine ⟨.inl rfl, .tuple #[], res0 rfl , ?_⟩
    replace hS : St F (Ow.box bc0 22 #[vc0_v] :: Ow.own 44 17 e_api_Addr vc0_v c0_v :: fr) h_1 := hS.perm2 [1, 2] 3 rfl rfl
    exact ⟨F, c0_v, vc0_v, rfl, hK, hS, hM⟩
end Go.Wk
