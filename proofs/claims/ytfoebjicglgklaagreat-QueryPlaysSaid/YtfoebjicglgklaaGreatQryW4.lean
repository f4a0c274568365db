/- Walks of Query. -/
import Derived.Test.YtfoebjicglgklaaGreatQryW3
set_option linter.unusedSimpArgs false
set_option linter.unusedVariables false
set_option linter.unusedSectionVars false
set_option maxHeartbeats 40000000
set_option maxRecDepth 100000
namespace Go.Wk
open Go.HL
open Go.Proofs hiding encI
variable [DM]
def clock_Clock_before_string_W (c_at : List (Str × Int)) (a : Str) (b : Str) (Q : Int → Prop) : Prop :=
 cmp_Compare_int_W (mget0 c_at a) (mget0 c_at b) (fun r_2 => cmp_Compare_string_W a b (fun r_3 => cmp_Or_int_W ([r_2, r_3] : List Int) (fun r_4 => Q r_4)))
theorem clock_Clock_before_string_walk {F : Fz} {fr : List Ow} {h0 : Heap} (c_at : List (Str × Int)) (a : Str) (b : Str) (bc : Nat) (rc_at : Nat) (hS : St F (fr) h0) (hM_rc_at : RoF (Ow.map rc_at kT kI c_at) F h0) (hB_bc : RoF (Ow.box bc 222 #[.map (some rc_at)]) F h0) {Q : Int → Prop} (hM : clock_Clock_before_string_W c_at a b Q) :
  HC Tryz.prog 189 #[.pointer (some ⟨bc, 0, none⟩), .string (bs a), .string (bs b)] h0 fun u h' => ∃ (F' : Fz) (r_1 : Int), u = .int .i64 r_1 ∧ Kp F h0 F' h' ∧ St F' (fr) h' ∧ (RoF (Ow.map rc_at kT kI c_at) F' h') ∧ (RoF (Ow.box bc 222 #[.map (some rc_at)]) F' h') ∧ Q r_1 := by
 unfold clock_Clock_before_string_W at hM
 have hK := Kp.refl F h0
 refine HC.of_HW (n := 25) Tryz.func189 rfl rfl (Nat.le_of_ble_eq_true rfl) ?_
 refine HW.seq ?_
 refine HW.region ?_
 refine oA (.int .i64 0) rfl rfl ?_
 refine HO.nil (thenQ_normal (?_))
 refine HW.seq ?_
 refine HW.regionA 19 mixed (fun h => (MapIs h rc_at kT kI c_at) ∧ (Blk h bc (.cells #[.map (some rc_at)] 222 (0, 0)))) [] (by kernel_rfl) ?_
 refine HA.val (k := 0) (v := .pointer (some ⟨bc, 0, none⟩)) rfl rfl (by kernel_rfl) (by kernel_rfl) (want_none) rfl (fun _ ⟨hM_rc_at, hB_bc⟩ => q_move rfl) ?_
 refine HA.val (k := 1) (v := .pointer (some ⟨bc, 0, none⟩)) rfl rfl (by kernel_rfl) (by kernel_rfl) (want_none) rfl (fun _ ⟨hM_rc_at, hB_bc⟩ => q_nilCheck rfl) ?_
 refine HA.val (k := 2) (v := .pointer (some ⟨bc, 0, none⟩)) rfl rfl (by kernel_rfl) (by kernel_rfl) (want_none) rfl (fun _ ⟨hM_rc_at, hB_bc⟩ => q_fieldAddr fa_222_0 rfl rfl) ?_
 refine HA.val (k := 3) (v := .map (some rc_at)) rfl rfl (by kernel_rfl) (by kernel_rfl) (want_none) rfl (fun _ ⟨hM_rc_at, hB_bc⟩ => q_load to_220 rfl (Blk.cell hB_bc rfl)) ?_
 refine HA.val (k := 4) (v := .string (bs a)) rfl rfl (by kernel_rfl) (by kernel_rfl) (want_none) rfl (fun _ ⟨hM_rc_at, hB_bc⟩ => q_move rfl) ?_
 refine HA.val (k := 5) (v := .int .i64 (mget0 c_at a)) rfl rfl (by kernel_rfl) (by kernel_rfl) (want_none) rfl (fun _ ⟨hM_rc_at, hB_bc⟩ => (q_lookup (k := a) ka_9 tmk_220 hM_rc_at rfl rfl).of_eq (mval0 (z := .int .i64 0) rfl)) ?_
 refine HA.val (k := 6) (v := .pointer (some ⟨bc, 0, none⟩)) rfl rfl (by kernel_rfl) (by kernel_rfl) (want_none) rfl (fun _ ⟨hM_rc_at, hB_bc⟩ => q_move rfl) ?_
 refine HA.val (k := 7) (v := .pointer (some ⟨bc, 0, none⟩)) rfl rfl (by kernel_rfl) (by kernel_rfl) (want_none) rfl (fun _ ⟨hM_rc_at, hB_bc⟩ => q_nilCheck rfl) ?_
 refine HA.val (k := 8) (v := .pointer (some ⟨bc, 0, none⟩)) rfl rfl (by kernel_rfl) (by kernel_rfl) (want_none) rfl (fun _ ⟨hM_rc_at, hB_bc⟩ => q_fieldAddr fa_222_0 rfl rfl) ?_
 refine HA.val (k := 9) (v := .map (some rc_at)) rfl rfl (by kernel_rfl) (by kernel_rfl) (want_none) rfl (fun _ ⟨hM_rc_at, hB_bc⟩ => q_load to_220 rfl (Blk.cell hB_bc rfl)) ?_
 refine HA.val (k := 10) (v := .string (bs b)) rfl rfl (by kernel_rfl) (by kernel_rfl) (want_none) rfl (fun _ ⟨hM_rc_at, hB_bc⟩ => q_move rfl) ?_
 refine HA.val (k := 11) (v := .int .i64 (mget0 c_at b)) rfl rfl (by kernel_rfl) (by kernel_rfl) (want_none) rfl (fun _ ⟨hM_rc_at, hB_bc⟩ => (q_lookup (k := b) ka_9 tmk_220 hM_rc_at rfl rfl).of_eq (mval0 (z := .int .i64 0) rfl)) ?_
 refine HA.val (k := 13) (v := .string (bs a)) rfl rfl (by kernel_rfl) (by kernel_rfl) (want_none) rfl (fun _ ⟨hM_rc_at, hB_bc⟩ => q_move rfl) ?_
 refine HA.val (k := 14) (v := .string (bs b)) rfl rfl (by kernel_rfl) (by kernel_rfl) (want_none) rfl (fun _ ⟨hM_rc_at, hB_bc⟩ => q_move rfl) ?_
 refine HA.one (k := 12) ⟨⟨hM_rc_at.mp, hB_bc.box⟩, (Go.Wk.at_nil _ _)⟩ (by kernel_rfl) ?_
 refine HS.call rfl (want_none) rfl (ec en_215 rfl rfl) (cmp_Compare_int_walk (fr := (fr)) (mget0 c_at a) (mget0 c_at b) hS hM) ?_
 rintro _ h_1 ⟨F_1, r_2, rfl, hk, hS, hM⟩
 replace hK := hK.trans hk
 replace hM_rc_at := hM_rc_at.kp hk
 replace hB_bc := hB_bc.kp hk
 refine HA.one (k := 15) ⟨⟨hM_rc_at.mp, hB_bc.box⟩, (Go.Wk.at_nil _ _)⟩ (by kernel_rfl) ?_
 refine HS.call rfl (want_none) rfl (ec en_216 rfl rfl) (cmp_Compare_string_walk (fr := (fr)) a b hS hM) ?_
 rintro _ h_2 ⟨F_2, r_3, rfl, hk, hS, hM⟩
 replace hK := hK.trans hk
 replace hM_rc_at := hM_rc_at.kp hk
 replace hB_bc := hB_bc.kp hk
 refine HA.one (k := 16) ⟨⟨hM_rc_at.mp, hB_bc.box⟩, (Go.Wk.at_nil _ _)⟩ (by kernel_rfl) ?_
 refine HS.eff rfl (want_none) rfl (st_lit (enc := encI) (cells := #[.int .i64 r_2, .int .i64 r_3]) #[.int .i64 0, .int .i64 0] ([r_2, r_3] : List Int) hS tl_265 (by decide) (by decide) (by kernel_rfl) (by kernel_rfl) rfl (by intro x hx; rfl) rfl) ?_
 rintro _ h_3 ⟨b_1, rfl, hS, hk⟩
 replace hK := hK.trans hk
 replace hM_rc_at := hM_rc_at.kp hk
 replace hB_bc := hB_bc.kp hk
 refine HA.one (k := 17) ⟨⟨hM_rc_at.mp, hB_bc.box⟩, (Go.Wk.at_nil _ _)⟩ (by kernel_rfl) ?_
 replace hS : St F_2 (Ow.own 3 1 encI (.slice (some ⟨b_1, 0, none⟩) 2 2) ([r_2, r_3] : List Int) :: fr) h_3 := hS
 have hZ_1 := hS
 have hkz_1 := (hS.freeze).2
 replace hS := hS.freeze.1
 have hL_1 : SliceF (fun bz_ => F_2 bz_ ∨ (Ow.own 3 1 encI (.slice (some ⟨b_1, 0, none⟩) 2 2) ([r_2, r_3] : List Int)).foot bz_) h_3 1 encI (.slice (some ⟨b_1, 0, none⟩) 2 2) ([r_2, r_3] : List Int) := ⟨(hZ_1.own 0 rfl).slice, fun _ b hb => .inr hb⟩
 refine HS.call rfl (want_none) rfl (ec en_214 rfl rfl) (cmp_Or_int_walk (fr := (fr)) ([r_2, r_3] : List Int) (.slice (some ⟨b_1, 0, none⟩) 2 2) hS hL_1 hM) ?_
 rintro _ h_4 ⟨F_3, r_4, rfl, hk, hS, _, hM⟩
 obtain ⟨hS, hk⟩ := hZ_1.back hk hS
 generalize (fun bz_ => F_3 bz_ ∧ ¬ (Ow.own 3 1 encI (.slice (some ⟨b_1, 0, none⟩) 2 2) ([r_2, r_3] : List Int)).foot bz_) = F_4 at hS hk
 replace hK := hK.trans hk
 replace hM_rc_at := hM_rc_at.kp hk
 replace hB_bc := hB_bc.kp hk
 refine HA.val (k := 18) (v := .int .i64 r_4) rfl rfl (by kernel_rfl) (by kernel_rfl) (want_none) rfl (fun _ ⟨hM_rc_at, hB_bc⟩ => q_assign rfl) ?_
 refine HA.nil ⟨⟨hM_rc_at.mp, hB_bc.box⟩, (Go.Wk.at_nil _ _)⟩ (by kernel_rfl) (thenQ_normal (?_))
 refine HW.ret (?_)
 refine ⟨.inr rfl, .int .i64 r_4, res1 rfl (rt rfl), ?_⟩
 replace hS : St F_4 (fr) h_4 := hS.perm2 [] 1 rfl rfl
 exact ⟨F_4, r_4, rfl, hK, hS, hM_rc_at, hB_bc, hM⟩
def clock_Clock_Next_string_l1 (c_at : List (Str × Int)) (Q : Str → Int → Bool → (List (Str × Int)) → Prop) (K_1 : (List (Str × Int)) → Str → Bool → Prop) (rem_1 : List (Str × Int)) (out_1 : Str) (found_1 : Bool) : Prop :=
 (rem_1 = [] → Q out_1 (mget0 c_at out_1) found_1 c_at) ∧ (∀ (p_1 : Str × Int) (rem_2 : List (Str × Int)), List.Perm rem_1 (p_1 :: rem_2) → ((!found_1) = true → K_1 rem_2 p_1.1 true) ∧ ((!found_1) = false → clock_Clock_before_string_W c_at p_1.1 out_1 (fun r_1 => (r_1 < 0 → K_1 rem_2 p_1.1 true) ∧ (¬ (r_1 < 0) → K_1 rem_2 out_1 found_1))))
def clock_Clock_Next_string_W (c_at : List (Str × Int)) (Q : Str → Int → Bool → (List (Str × Int)) → Prop) : Prop :=
 loopW (fun (K_1 : ((List (Str × Int)) × Str × Bool) → Prop) (s : (List (Str × Int)) × Str × Bool) => clock_Clock_Next_string_l1 c_at Q (fun rem_1 out_1 found_1 => K_1 (rem_1, out_1, found_1)) s.1 s.2.1 s.2.2) (c_at, [], false)
theorem clock_Clock_Next_string_walk {F : Fz} {fr : List Ow} {h0 : Heap} (c_at : List (Str × Int)) (bc : Nat) (rc_at : Nat) (hS : St F (Ow.box bc 222 #[.map (some rc_at)] :: Ow.map rc_at kT kI c_at :: fr) h0)  {Q : Str → Int → Bool → (List (Str × Int)) → Prop} (hM : clock_Clock_Next_string_W c_at Q) :
  HC Tryz.prog 129 #[.pointer (some ⟨bc, 0, none⟩)] h0 fun u h' => ∃ (F' : Fz) (r0_1 : Str) (r1_1 : Int) (r2_1 : Bool) (cm_1 : List (Str × Int)), u = .tuple #[.string (bs r0_1), .int .i64 r1_1, .bool r2_1] ∧ Kp F h0 F' h' ∧ St F' (Ow.box bc 222 #[.map (some rc_at)] :: Ow.map rc_at kT kI cm_1 :: fr) h' ∧ Q r0_1 r1_1 r2_1 cm_1 := by
 unfold clock_Clock_Next_string_W at hM
 have hK := Kp.refl F h0
 refine HC.of_HW (n := 38) Tryz.func129 rfl rfl (Nat.le_of_ble_eq_true rfl) ?_
 refine HW.seq ?_
 refine HW.region ?_
 refine oA (.string (bs [])) rfl rfl ?_
 refine oA (.int .i64 0) rfl rfl ?_
 refine oA (.bool false) rfl rfl ?_
 refine HO.nil (thenQ_normal (?_))
 refine HW.seq ?_
 refine HW.region ?_
 refine oA (.string (bs [])) rfl rfl ?_
 refine HO.nil (thenQ_normal (?_))
 refine HW.seq ?_
 refine HW.region ?_
 refine oA (.bool false) rfl rfl ?_
 refine HO.nil (thenQ_normal (?_))
 refine HW.seq ?_
 refine HW.seq ?_
 refine HW.region ?_
 refine oM (.pointer (some ⟨bc, 0, none⟩)) rfl rfl ?_
 refine oV (.bool false) (q_eqlPnil Tryz.underlying163 rfl rfl rfl) rfl ?_
 refine HO.nil (thenQ_normal (?_))
 refine HW.condF rfl ?_
 refine HW.skip (thenQ_normal (?_))
 refine HW.seq ?_
 refine HW.seq ?_
 refine HW.region ?_
 refine oM (.pointer (some ⟨bc, 0, none⟩)) rfl rfl ?_
 refine oV (.pointer (some ⟨bc, 0, none⟩)) (q_nilCheck rfl) rfl ?_
 refine oV (.pointer (some ⟨bc, 0, none⟩)) (q_fieldAddr fa_222_0 rfl rfl) rfl ?_
 refine oV (.map (some rc_at)) (q_load to_220 rfl (Blk.cell (hS.box 0 rfl) rfl)) rfl ?_
 refine HO.eff (want_none) rfl (st_range hS (i := 1) rfl Tryz.underlying220 rfl) ?_
 rintro _ h_1 ⟨it_1, rfl, hS, hk⟩
 replace hK := hK.trans hk
 refine HO.nil (thenQ_normal (?_))
 refine HW.block ?_
 obtain ⟨I_1, m_1, hI_1, hR_1⟩ := hM
 refine HW.loop (S := (List (Str × Int)) × Str × Bool) (fun s f h => match s with | (rem_1, out_1, found_1) => ∃ (F' : Fz), f 0 = .pointer (some ⟨bc, 0, none⟩) ∧ f 2 = .string (bs []) ∧ f 3 = .int .i64 0 ∧ f 4 = .bool false ∧ f 5 = .string (bs out_1) ∧ f 6 = .bool found_1 ∧ f 15 = .pointer (some ⟨it_1, 0, none⟩) ∧ Kp F h0 F' h ∧ St F' (Ow.box bc 222 #[.map (some rc_at)] :: Ow.iter it_1 rc_at kT kI c_at rem_1 :: fr) h ∧ I_1 (rem_1, out_1, found_1)) m_1 (c_at, [], false) ⟨F, rfl, rfl, rfl, rfl, rfl, rfl, rfl, hK, hS, hI_1⟩ ?_
 rintro ⟨rem_1, out_1, found_1⟩ f_1 h_2 ⟨F_1, e0, e2, e3, e4, e5, e6, e15, hK, hS, hI0⟩
 obtain ⟨K_1, hKe_1⟩ : ∃ K : (List (Str × Int)) → Str → Bool → Prop, K = fun rem_1' out_1' found_1' => I_1 (rem_1', out_1', found_1') ∧ m_1 (rem_1', out_1', found_1') < m_1 (rem_1, out_1, found_1) := ⟨_, rfl⟩
 have hM : clock_Clock_Next_string_l1 c_at Q K_1 rem_1 out_1 found_1 := by rw [hKe_1]; exact hR_1 (rem_1, out_1, found_1) hI0
 unfold clock_Clock_Next_string_l1 at hM
 refine HW.fr [(0, .pointer (some ⟨bc, 0, none⟩)), (2, .string (bs [])), (3, .int .i64 0), (4, .bool false), (5, .string (bs out_1)), (6, .bool found_1), (15, .pointer (some ⟨it_1, 0, none⟩))] ⟨e0, e2, e3, e4, e5, e6, e15, trivial⟩ ?_
 refine HW.seq ?_
 refine HW.region ?_
 refine HO.eff (want_none) rfl (st_next hS (i := 1) rfl rfl) ?_
 rintro _ h_3 (⟨hrem, rfl, hEq⟩ | ⟨p_1, rem_2, hperm, rfl, hS, hk⟩)
 ·
  rw [hEq]
  replace hM := hM.1 hrem
  replace hS := hS.done 1 rfl
  refine oV (.bool false) (q_extract rfl rfl) rfl ?_
  refine HO.nil (thenQ_normal (?_))
  refine HW.seq ?_
  refine HW.condF rfl ?_
  refine HW.exit (thenQ_exit (thenQ_exit (blockQ_exit (thenQ_normal (?_)))))
  refine HW.seq ?_
  refine HW.regionA 11 mixed (fun h => (Blk h bc (.cells #[.map (some rc_at)] 222 (0, 0))) ∧ (MapIs h rc_at kT kI c_at)) [] (by kernel_rfl) ?_
  refine HA.val (k := 0) (v := .string (bs out_1)) rfl rfl (by kernel_rfl) (by kernel_rfl) (want_none) rfl (fun _ ⟨c307, c308⟩ => q_move rfl) ?_
  refine HA.val (k := 1) (v := .pointer (some ⟨bc, 0, none⟩)) rfl rfl (by kernel_rfl) (by kernel_rfl) (want_none) rfl (fun _ ⟨c307, c308⟩ => q_move rfl) ?_
  refine HA.val (k := 2) (v := .pointer (some ⟨bc, 0, none⟩)) rfl rfl (by kernel_rfl) (by kernel_rfl) (want_none) rfl (fun _ ⟨c307, c308⟩ => q_nilCheck rfl) ?_
  refine HA.val (k := 3) (v := .pointer (some ⟨bc, 0, none⟩)) rfl rfl (by kernel_rfl) (by kernel_rfl) (want_none) rfl (fun _ ⟨c307, c308⟩ => q_fieldAddr fa_222_0 rfl rfl) ?_
  refine HA.val (k := 4) (v := .map (some rc_at)) rfl rfl (by kernel_rfl) (by kernel_rfl) (want_none) rfl (fun _ ⟨c307, c308⟩ => q_load to_220 rfl (Blk.cell c307 rfl)) ?_
  refine HA.val (k := 5) (v := .string (bs out_1)) rfl rfl (by kernel_rfl) (by kernel_rfl) (want_none) rfl (fun _ ⟨c307, c308⟩ => q_move rfl) ?_
  refine HA.val (k := 6) (v := .int .i64 (mget0 c_at out_1)) rfl rfl (by kernel_rfl) (by kernel_rfl) (want_none) rfl (fun _ ⟨c307, c308⟩ => (q_lookup (k := out_1) ka_9 tmk_220 c308 rfl rfl).of_eq (mval0 (z := .int .i64 0) rfl)) ?_
  refine HA.val (k := 7) (v := .bool found_1) rfl rfl (by kernel_rfl) (by kernel_rfl) (want_none) rfl (fun _ ⟨c307, c308⟩ => q_move rfl) ?_
  refine HA.val (k := 8) (v := .string (bs out_1)) rfl rfl (by kernel_rfl) (by kernel_rfl) (want_none) rfl (fun _ ⟨c307, c308⟩ => q_assign rfl) ?_
  refine HA.val (k := 9) (v := .int .i64 (mget0 c_at out_1)) rfl rfl (by kernel_rfl) (by kernel_rfl) (want_none) rfl (fun _ ⟨c307, c308⟩ => q_assign rfl) ?_
  refine HA.val (k := 10) (v := .bool found_1) rfl rfl (by kernel_rfl) (by kernel_rfl) (want_none) rfl (fun _ ⟨c307, c308⟩ => q_assign rfl) ?_
  refine HA.nil ⟨⟨(hS.box 0 rfl), (hS.mp 1 rfl)⟩, (Go.Wk.at_nil _ _)⟩ (by kernel_rfl) (thenQ_normal (?_))
  refine HW.ret (?_)
  refine ⟨.inr rfl, .tuple #[.string (bs out_1), .int .i64 (mget0 c_at out_1), .bool found_1], res3 rfl (rt rfl) (rt rfl) (rt rfl), ?_⟩
  exact ⟨F_1, out_1, mget0 c_at out_1, found_1, c_at, rfl, hK, hS, hM⟩
 ·
  replace hM := hM.2 p_1 rem_2 hperm
  replace hK := hK.trans hk
  refine oV (.bool true) (q_extract rfl rfl) rfl ?_
  refine HO.nil (thenQ_normal (?_))
  refine HW.seq ?_
  refine HW.condT rfl ?_
  refine HW.skip (thenQ_normal (?_))
  refine HW.block ?_
  refine HW.seq ?_
  refine HW.region ?_
  refine oV (.tuple #[.string (bs p_1.1), .int .i64 p_1.2]) (q_entry (hS.cu 1 rfl) rfl) rfl ?_
  refine oV (.string (bs p_1.1)) (q_extract rfl rfl) rfl ?_
  refine oA (.string (bs p_1.1)) rfl rfl ?_
  refine HO.nil (thenQ_normal (?_))
  refine HW.seq ?_
  refine HW.region ?_
  refine oM (.bool found_1) rfl rfl ?_
  refine oV (.bool (!found_1)) (q_not rfl) rfl ?_
  refine oM (.bool (!found_1)) rfl rfl ?_
  rcases Bool.eq_false_or_eq_true (!found_1) with c_1 | c_1
  ·
   replace hM := hM.1 c_1
   refine HO.past (past_by rfl rfl c_1) rfl ?_
   refine HO.past (past_by rfl rfl c_1) rfl ?_
   refine HO.past (past_by rfl rfl c_1) rfl ?_
   refine HO.past (past_by rfl rfl c_1) rfl ?_
   refine HO.past (past_by rfl rfl c_1) rfl ?_
   refine oV (.bool true) (q_pickK true rfl c_1 rfl) rfl ?_
   refine HO.nil (thenQ_normal (?_))
   refine HW.condT rfl ?_
   refine HW.region ?_
   refine oM (.string (bs p_1.1)) rfl rfl ?_
   refine oA (.string (bs p_1.1)) rfl rfl ?_
   refine oA (.bool true) rfl rfl ?_
   refine HO.nil (blockQ_normal (thenQ_normal (?_)))
   replace hS := hS.again 1 rfl
   rw [hKe_1] at hM
   exact ⟨(rem_2, p_1.1, true), ⟨F_1, rfl, rfl, rfl, rfl, rfl, rfl, rfl, hK, hS, hM.1⟩, hM.2⟩
  ·
   replace hM := hM.2 c_1
   refine HO.val (v := .pointer (some ⟨bc, 0, none⟩)) (want_by rfl rfl c_1) rfl (q_move rfl) ?_
   refine HO.val (v := .string (bs p_1.1)) (want_by rfl rfl c_1) rfl (q_move rfl) ?_
   refine HO.val (v := .string (bs out_1)) (want_by rfl rfl c_1) rfl (q_move rfl) ?_
   replace hS : St F_1 (Ow.box bc 222 #[.map (some rc_at)] :: Ow.cur it_1 rc_at kT kI c_at rem_2 p_1 :: fr) h_3 := hS
   have hZ_1 := hS
   have hkz_1 := (hS.freeze).2
   replace hS := hS.freeze.1
   have hL_1 := hZ_1.lent
   replace hS : St (fun bz_ => F_1 bz_ ∨ (Ow.box bc 222 #[.map (some rc_at)]).foot bz_) (Ow.cur it_1 rc_at kT kI c_at rem_2 p_1 :: fr) h_3 := hS
   have hZ_2 := hS
   have hkz_2 := (hS.freeze).2
   replace hS := hS.freeze.1
   have hL_2 := hZ_2.lent.cur
   refine HO.call (want_by rfl rfl c_1) rfl (ec en_189 rfl rfl) (clock_Clock_before_string_walk (fr := (fr)) c_at p_1.1 out_1 bc rc_at hS hL_2 (hL_1.kp hkz_2) hM) ?_
   rintro _ h_4 ⟨F_2, r_1, rfl, hk, hS, _, _, hM⟩
   obtain ⟨hS, hk⟩ := hZ_2.back hk hS
   obtain ⟨hS, hk⟩ := hZ_1.back hk hS
   generalize (fun bz_ => (fun bz_ => F_2 bz_ ∧ ¬ (Ow.cur it_1 rc_at kT kI c_at rem_2 p_1).foot bz_) bz_ ∧ ¬ (Ow.box bc 222 #[.map (some rc_at)]).foot bz_) = F_3 at hS hk
   replace hK := hK.trans hk
   refine HO.val (v := .bool (decide (r_1 < 0))) (want_by rfl rfl c_1) rfl (q_lss rfl rfl) ?_
   refine oV (.bool (decide (r_1 < 0))) (q_pickK false rfl c_1 rfl) rfl ?_
   refine HO.nil (thenQ_normal (?_))
   refine HW.cond (decide (r_1 < 0)) rfl (fun c_2 => ?_) (fun c_2 => ?_)
   ·
    replace hM := hM.1 (of_decide_eq_true c_2)
    refine HW.region ?_
    refine oM (.string (bs p_1.1)) rfl rfl ?_
    refine oA (.string (bs p_1.1)) rfl rfl ?_
    refine oA (.bool true) rfl rfl ?_
    refine HO.nil (blockQ_normal (thenQ_normal (?_)))
    replace hS := hS.again 1 rfl
    rw [hKe_1] at hM
    exact ⟨(rem_2, p_1.1, true), ⟨F_3, rfl, rfl, rfl, rfl, rfl, rfl, rfl, hK, hS, hM.1⟩, hM.2⟩
   ·
    replace hM := hM.2 (of_decide_eq_false c_2)
    refine HW.skip (blockQ_normal (thenQ_normal (?_)))
    replace hS := hS.again 1 rfl
    rw [hKe_1] at hM
    exact ⟨(rem_2, out_1, found_1), ⟨F_3, rfl, rfl, rfl, rfl, rfl, rfl, rfl, hK, hS, hM.1⟩, hM.2⟩
def query_Queries_Next_W (q_now : Int) (q_at_at : List (Str × Int)) (q_first : Int) (q_open : List (TA × (Nat × Nat) × TqL)) (Q : Int → Bool → Int → (List (Str × Int)) → Int → (List (TA × (Nat × Nat) × TqL)) → Prop) : Prop :=
 clock_Clock_Next_string_W q_at_at (fun r0_2 r1_2 r2_1 cm_1 => Q r1_2 r2_1 q_now cm_1 q_first q_open)
theorem query_Queries_Next_walk {F : Fz} {fr : List Ow} {h0 : Heap} (q_now : Int) (q_at_at : List (Str × Int)) (q_first : Int) (q_open : List (TA × (Nat × Nat) × TqL)) (bq : Nat) (bq_at : Nat) (rq_at_at : Nat) (rq_open : Nat) (hS : St F (Ow.box bq 167 #[.int .i64 q_now, .pointer (some ⟨bq_at, 0, none⟩), .int .i64 q_first, .map (some rq_open)] :: Ow.box bq_at 222 #[.map (some rq_at_at)] :: Ow.map rq_at_at kT kI q_at_at :: Ow.pm rq_open (fun (x : TA) => .agg (eA x).toArray) pv_query_left th_query_left q_open none :: fr) h0)  {Q : Int → Bool → Int → (List (Str × Int)) → Int → (List (TA × (Nat × Nat) × TqL)) → Prop} (hM : query_Queries_Next_W q_now q_at_at q_first q_open Q) :
  HC Tryz.prog 54 #[.pointer (some ⟨bq, 0, none⟩)] h0 fun u h' => ∃ (F' : Fz) (r0_1 : Int) (r1_1 : Bool) (q_now_1 : Int) (qm_1 : List (Str × Int)) (q_first_1 : Int) (qm_2 : List (TA × (Nat × Nat) × TqL)), u = .tuple #[.int .i64 r0_1, .bool r1_1] ∧ Kp F h0 F' h' ∧ St F' (Ow.box bq 167 #[.int .i64 q_now_1, .pointer (some ⟨bq_at, 0, none⟩), .int .i64 q_first_1, .map (some rq_open)] :: Ow.box bq_at 222 #[.map (some rq_at_at)] :: Ow.map rq_at_at kT kI qm_1 :: Ow.pm rq_open (fun (x : TA) => .agg (eA x).toArray) pv_query_left th_query_left qm_2 none :: fr) h' ∧ Q r0_1 r1_1 q_now_1 qm_1 q_first_1 qm_2 := by
 unfold query_Queries_Next_W at hM
 have hK := Kp.refl F h0
 refine HC.of_HW (n := 20) Tryz.func54 rfl rfl (Nat.le_of_ble_eq_true rfl) ?_
 refine HW.seq ?_
 refine HW.region ?_
 refine oA (.int .i64 0) rfl rfl ?_
 refine oA (.bool false) rfl rfl ?_
 refine HO.nil (thenQ_normal (?_))
 refine HW.seq ?_
 refine HW.seq ?_
 refine HW.region ?_
 refine oM (.pointer (some ⟨bq, 0, none⟩)) rfl rfl ?_
 refine oV (.bool false) (q_eqlPnil Tryz.underlying90 rfl rfl rfl) rfl ?_
 refine HO.nil (thenQ_normal (?_))
 refine HW.condF rfl ?_
 refine HW.skip (thenQ_normal (?_))
 refine HW.seq ?_
 refine HW.region ?_
 refine oM (.pointer (some ⟨bq, 0, none⟩)) rfl rfl ?_
 refine oV (.pointer (some ⟨bq, 0, none⟩)) (q_nilCheck rfl) rfl ?_
 refine oV (.pointer (some ⟨bq, 1, none⟩)) (q_fieldAddr fa_167_1 rfl rfl) rfl ?_
 refine oV (.pointer (some ⟨bq_at, 0, none⟩)) (q_load to_163 rfl (Blk.cell (hS.box 0 rfl) rfl)) rfl ?_
 replace hS : St F (Ow.box bq_at 222 #[.map (some rq_at_at)] :: Ow.map rq_at_at kT kI q_at_at :: Ow.box bq 167 #[.int .i64 q_now, .pointer (some ⟨bq_at, 0, none⟩), .int .i64 q_first, .map (some rq_open)] :: Ow.pm rq_open (fun (x : TA) => .agg (eA x).toArray) pv_query_left th_query_left q_open none :: fr) h0 := hS.perm2 [1, 2, 0, 3] 4 rfl rfl
 refine HO.call (want_none) rfl (ec en_129 rfl rfl) (clock_Clock_Next_string_walk (fr := (Ow.box bq 167 #[.int .i64 q_now, .pointer (some ⟨bq_at, 0, none⟩), .int .i64 q_first, .map (some rq_open)] :: Ow.pm rq_open (fun (x : TA) => .agg (eA x).toArray) pv_query_left th_query_left q_open none :: fr)) q_at_at bq_at rq_at_at hS hM) ?_
 rintro _ h_1 ⟨F_1, r0_2, r1_2, r2_1, cm_1, rfl, hk, hS, hM⟩
 replace hK := hK.trans hk
 refine oM (.tuple #[.string (bs r0_2), .int .i64 r1_2, .bool r2_1]) rfl rfl ?_
 refine oV (.string (bs r0_2)) (q_extract rfl rfl) rfl ?_
 refine oV (.int .i64 r1_2) (q_extract rfl rfl) rfl ?_
 refine oV (.bool r2_1) (q_extract rfl rfl) rfl ?_
 refine oA (.string (bs r0_2)) rfl rfl ?_
 refine oA (.int .i64 r1_2) rfl rfl ?_
 refine oA (.bool r2_1) rfl rfl ?_
 refine HO.nil (thenQ_normal (?_))
 refine HW.seq ?_
 refine HW.region ?_
 refine oM (.int .i64 r1_2) rfl rfl ?_
 refine oM (.bool r2_1) rfl rfl ?_
 refine oA (.int .i64 r1_2) rfl rfl ?_
 refine oA (.bool r2_1) rfl rfl ?_
 refine HO.nil (thenQ_normal (?_))
 refine HW.ret (?_)
 refine ⟨.inr rfl, .tuple #[.int .i64 r1_2, .bool r2_1], res2 rfl (rt rfl) (rt rfl), ?_⟩
 replace hS : St F_1 (Ow.box bq 167 #[.int .i64 q_now, .pointer (some ⟨bq_at, 0, none⟩), .int .i64 q_first, .map (some rq_open)] :: Ow.box bq_at 222 #[.map (some rq_at_at)] :: Ow.map rq_at_at kT kI cm_1 :: Ow.pm rq_open (fun (x : TA) => .agg (eA x).toArray) pv_query_left th_query_left q_open none :: fr) h_1 := hS.perm2 [2, 0, 1, 3] 4 rfl rfl
 exact ⟨F_1, r1_2, r2_1, q_now, cm_1, q_first, q_open, rfl, hK, hS, hM⟩
def ref22_Q_Next_j2 (q_L : List TrO) (n_2 : Int) (is_1 : Bool) (i_1 : Int) (K_1 : Int → Bool → Int → Prop) (b_1 : Bool) : Prop :=
 (b_1 = true → ((0 : Int) ≤ i_1 ∧ i_1 < (q_L.length : Int)) ∧ ((I64 (i_1 + 1)) ∧ (K_1 ((gi q_L i_1).2.1) true (i_1 + 1)))) ∧ (b_1 = false → (I64 (i_1 + 1)) ∧ (K_1 n_2 is_1 (i_1 + 1)))
def ref22_Q_Next_l1 (q_L : List TrO) (ps : List (SV × List TrL)) (Q : Int → Bool → (List (SV × List TrL)) → Prop) (K_1 : Int → Bool → Int → Prop) (n_2 : Int) (is_1 : Bool) (i_1 : Int) : Prop :=
 (i_1 < (q_L.length : Int) → ((!is_1) = true → ref22_Q_Next_j2 q_L n_2 is_1 i_1 K_1 true) ∧ ((!is_1) = false → ((0 : Int) ≤ i_1 ∧ i_1 < (q_L.length : Int)) ∧ (ref22_Q_Next_j2 q_L n_2 is_1 i_1 K_1 (decide (((gi q_L i_1).2.1) < n_2))))) ∧ (¬ (i_1 < (q_L.length : Int)) → Q n_2 is_1 ps)
def ref22_Q_Next_j1 (q_On : Bool) (q_L : List TrO) (ps : List (SV × List TrL)) (Q : Int → Bool → (List (SV × List TrL)) → Prop) (n_1 : Int) : Prop :=
 loopW (fun (K_1 : (Int × Bool × Int) → Prop) (s : Int × Bool × Int) => ref22_Q_Next_l1 q_L ps Q (fun n_2 is_1 i_1 => K_1 (n_2, is_1, i_1)) s.1 s.2.1 s.2.2) (n_1, q_On, 0)
def ref22_Q_Next_W (q_Now : Int) (q_On : Bool) (q_At : Int) (q_First : Int) (q_L : List TrO) (ps : List (SV × List TrL)) (Q : Int → Bool → (List (SV × List TrL)) → Prop) : Prop :=
 ((!q_On) = true → ref22_Q_Next_j1 q_On q_L ps Q 0) ∧ ((!q_On) = false → ref22_Q_Next_j1 q_On q_L ps Q q_At)
theorem ref22_Q_Next_walk {F : Fz} {fr : List Ow} {h0 : Heap} (q_Now : Int) (q_On : Bool) (q_At : Int) (q_First : Int) (q_L : List TrO) (ps : List (SV × List TrL)) (bq : Nat) (vq_L : Value) (hS : St F (Ow.pool 190 18 erL ps :: fr) h0) (hL_q_L : SliceF F h0 20 erO vq_L q_L) (hB_bq : RoF (Ow.box bq 95 #[.int .i64 q_Now, .bool q_On, .int .i64 q_At, .int .i64 q_First, vq_L]) F h0) {Q : Int → Bool → (List (SV × List TrL)) → Prop} (hM : ref22_Q_Next_W q_Now q_On q_At q_First q_L ps Q) :
  HC Tryz.prog 55 #[.pointer (some ⟨bq, 0, none⟩)] h0 fun u h' => ∃ (F' : Fz) (r0_1 : Int) (r1_1 : Bool) (ps_1 : List (SV × List TrL)), u = .tuple #[.int .i64 r0_1, .bool r1_1] ∧ Kp F h0 F' h' ∧ St F' (Ow.pool 190 18 erL ps_1 :: fr) h' ∧ (SliceF F' h' 20 erO vq_L q_L) ∧ (RoF (Ow.box bq 95 #[.int .i64 q_Now, .bool q_On, .int .i64 q_At, .int .i64 q_First, vq_L]) F' h') ∧ Q r0_1 r1_1 ps_1 := by
 unfold ref22_Q_Next_W at hM
 have hK := Kp.refl F h0
 refine HC.of_HW (n := 53) Tryz.func55 rfl rfl (Nat.le_of_ble_eq_true rfl) ?_
 refine HW.seq ?_
 refine HW.region ?_
 refine oA (.int .i64 0) rfl rfl ?_
 refine oA (.bool false) rfl rfl ?_
 refine HO.nil (thenQ_normal (?_))
 refine HW.seq ?_
 refine HW.regionA 10 mixed (fun h => (SliceIs h 20 erO vq_L q_L) ∧ (Blk h bq (.cells #[.int .i64 q_Now, .bool q_On, .int .i64 q_At, .int .i64 q_First, vq_L] 95 (0, 0))) ∧ (PoolIs h 190 18 erL ps)) [] (by kernel_rfl) ?_
 refine HA.val (k := 0) (v := .pointer (some ⟨bq, 0, none⟩)) rfl rfl (by kernel_rfl) (by kernel_rfl) (want_none) rfl (fun _ ⟨hL_q_L, hB_bq, c1⟩ => q_move rfl) ?_
 refine HA.val (k := 1) (v := .pointer (some ⟨bq, 0, none⟩)) rfl rfl (by kernel_rfl) (by kernel_rfl) (want_none) rfl (fun _ ⟨hL_q_L, hB_bq, c1⟩ => q_nilCheck rfl) ?_
 refine HA.val (k := 2) (v := .pointer (some ⟨bq, 2, none⟩)) rfl rfl (by kernel_rfl) (by kernel_rfl) (want_none) rfl (fun _ ⟨hL_q_L, hB_bq, c1⟩ => q_fieldAddr fa_95_2 rfl rfl) ?_
 refine HA.val (k := 3) (v := .int .i64 q_At) rfl rfl (by kernel_rfl) (by kernel_rfl) (want_none) rfl (fun _ ⟨hL_q_L, hB_bq, c1⟩ => q_load to_3 rfl (Blk.cell hB_bq rfl)) ?_
 refine HA.val (k := 4) (v := .pointer (some ⟨bq, 0, none⟩)) rfl rfl (by kernel_rfl) (by kernel_rfl) (want_none) rfl (fun _ ⟨hL_q_L, hB_bq, c1⟩ => q_move rfl) ?_
 refine HA.val (k := 5) (v := .pointer (some ⟨bq, 0, none⟩)) rfl rfl (by kernel_rfl) (by kernel_rfl) (want_none) rfl (fun _ ⟨hL_q_L, hB_bq, c1⟩ => q_nilCheck rfl) ?_
 refine HA.val (k := 6) (v := .pointer (some ⟨bq, 1, none⟩)) rfl rfl (by kernel_rfl) (by kernel_rfl) (want_none) rfl (fun _ ⟨hL_q_L, hB_bq, c1⟩ => q_fieldAddr fa_95_1 rfl rfl) ?_
 refine HA.val (k := 7) (v := .bool q_On) rfl rfl (by kernel_rfl) (by kernel_rfl) (want_none) rfl (fun _ ⟨hL_q_L, hB_bq, c1⟩ => q_load to_4 rfl (Blk.cell hB_bq rfl)) ?_
 refine HA.val (k := 8) (v := .int .i64 q_At) rfl rfl (by kernel_rfl) (by kernel_rfl) (want_none) rfl (fun _ ⟨hL_q_L, hB_bq, c1⟩ => q_assign rfl) ?_
 refine HA.val (k := 9) (v := .bool q_On) rfl rfl (by kernel_rfl) (by kernel_rfl) (want_none) rfl (fun _ ⟨hL_q_L, hB_bq, c1⟩ => q_assign rfl) ?_
 refine HA.nil ⟨⟨hL_q_L.is, hB_bq.box, (hS.pl 0 rfl)⟩, (Go.Wk.at_nil _ _)⟩ (by kernel_rfl) (thenQ_normal (?_))
 refine HW.seq_mid (fun f h => ∃ (F' : Fz) (n_1 : Int), f 0 = .pointer (some ⟨bq, 0, none⟩) ∧ f 2 = .int .i64 0 ∧ f 3 = .bool false ∧ f 4 = .int .i64 n_1 ∧ f 5 = .bool q_On ∧ Kp F h0 F' h ∧ St F' (Ow.pool 190 18 erL ps :: fr) h ∧ (SliceF F' h 20 erO vq_L q_L) ∧ (RoF (Ow.box bq 95 #[.int .i64 q_Now, .bool q_On, .int .i64 q_At, .int .i64 q_First, vq_L]) F' h) ∧ ref22_Q_Next_j1 q_On q_L ps Q n_1) ?_ ?_
 ·
  refine HW.seq ?_
  refine HW.region ?_
  refine oM (.pointer (some ⟨bq, 0, none⟩)) rfl rfl ?_
  refine oV (.pointer (some ⟨bq, 0, none⟩)) (q_nilCheck rfl) rfl ?_
  refine oV (.pointer (some ⟨bq, 1, none⟩)) (q_fieldAddr fa_95_1 rfl rfl) rfl ?_
  refine oV (.bool q_On) (q_load to_4 rfl (Blk.cell hB_bq.box rfl)) rfl ?_
  refine oV (.bool (!q_On)) (q_not rfl) rfl ?_
  refine HO.nil (thenQ_normal (?_))
  refine HW.cond (!q_On) rfl (fun c_1 => ?_) (fun c_1 => ?_)
  ·
   replace hM := hM.1 c_1
   refine HW.region ?_
   refine oA (.int .i64 0) rfl rfl ?_
   refine HO.nil (thenQ_normal (?_))
   exact ⟨F, 0, rfl, rfl, rfl, rfl, rfl, hK, hS, hL_q_L, hB_bq, hM⟩
  ·
   replace hM := hM.2 c_1
   refine HW.skip (thenQ_normal (?_))
   exact ⟨F, q_At, rfl, rfl, rfl, rfl, rfl, hK, hS, hL_q_L, hB_bq, hM⟩
 ·
  rintro f_1 h_1 ⟨F_1, n_1, e0, e2, e3, e4, e5, hK, hS, hL_q_L, hB_bq, hM⟩
  unfold ref22_Q_Next_j1 at hM
  refine HW.fr [(0, .pointer (some ⟨bq, 0, none⟩)), (2, .int .i64 0), (3, .bool false), (4, .int .i64 n_1), (5, .bool q_On)] ⟨e0, e2, e3, e4, e5, trivial⟩ ?_
  refine HW.seq ?_
  refine HW.seq ?_
  refine HW.region ?_
  refine oA (.int .i64 0) rfl rfl ?_
  refine HO.nil (thenQ_normal (?_))
  refine HW.block ?_
  obtain ⟨I_1, m_1, hI_1, hR_1⟩ := hM
  refine HW.loop (S := Int × Bool × Int) (fun s f h => match s with | (n_2, is_1, i_1) => ∃ (F' : Fz), f 0 = .pointer (some ⟨bq, 0, none⟩) ∧ f 2 = .int .i64 0 ∧ f 3 = .bool false ∧ f 4 = .int .i64 n_2 ∧ f 5 = .bool is_1 ∧ f 6 = .int .i64 i_1 ∧ Kp F h0 F' h ∧ St F' (Ow.pool 190 18 erL ps :: fr) h ∧ (SliceF F' h 20 erO vq_L q_L) ∧ (RoF (Ow.box bq 95 #[.int .i64 q_Now, .bool q_On, .int .i64 q_At, .int .i64 q_First, vq_L]) F' h) ∧ I_1 (n_2, is_1, i_1)) m_1 (n_1, q_On, 0) ⟨F_1, rfl, rfl, rfl, rfl, rfl, rfl, hK, hS, hL_q_L, hB_bq, hI_1⟩ ?_
  rintro ⟨n_2, is_1, i_1⟩ f_2 h_2 ⟨F_2, e0, e2, e3, e4, e5, e6, hK, hS, hL_q_L, hB_bq, hI0⟩
  obtain ⟨K_1, hKe_1⟩ : ∃ K : Int → Bool → Int → Prop, K = fun n_2' is_1' i_1' => I_1 (n_2', is_1', i_1') ∧ m_1 (n_2', is_1', i_1') < m_1 (n_2, is_1, i_1) := ⟨_, rfl⟩
  have hM : ref22_Q_Next_l1 q_L ps Q K_1 n_2 is_1 i_1 := by rw [hKe_1]; exact hR_1 (n_2, is_1, i_1) hI0
  unfold ref22_Q_Next_l1 at hM
  refine HW.fr [(0, .pointer (some ⟨bq, 0, none⟩)), (2, .int .i64 0), (3, .bool false), (4, .int .i64 n_2), (5, .bool is_1), (6, .int .i64 i_1)] ⟨e0, e2, e3, e4, e5, e6, trivial⟩ ?_
  refine HW.seq ?_
  refine HW.seq ?_
  refine HW.region ?_
  refine oM (.int .i64 i_1) rfl rfl ?_
  refine oM (.pointer (some ⟨bq, 0, none⟩)) rfl rfl ?_
  refine oV (.pointer (some ⟨bq, 0, none⟩)) (q_nilCheck rfl) rfl ?_
  refine oV (.pointer (some ⟨bq, 4, none⟩)) (q_fieldAddr fa_95_4 rfl rfl) rfl ?_
  refine oV (vq_L) (q_load to_93 rfl (Blk.cell hB_bq.box rfl)) rfl ?_
  refine oV (.int .i64 (q_L.length : Int)) (q_len ts_93 (shp hL_q_L.is) rfl rfl) rfl ?_
  refine oV (.bool (decide (i_1 < (q_L.length : Int)))) (q_lss rfl rfl) rfl ?_
  refine HO.nil (thenQ_normal (?_))
  refine HW.cond (decide (i_1 < (q_L.length : Int))) rfl (fun c_2 => ?_) (fun c_2 => ?_)
  ·
   replace hM := hM.1 (of_decide_eq_true c_2)
   refine HW.skip (thenQ_normal (?_))
   refine HW.seq ?_
   refine HW.block ?_
   refine HW.seq_mid (fun f h => ∃ (F' : Fz) (b_1 : Bool), f 0 = .pointer (some ⟨bq, 0, none⟩) ∧ f 2 = .int .i64 0 ∧ f 3 = .bool false ∧ f 4 = .int .i64 n_2 ∧ f 5 = .bool is_1 ∧ f 6 = .int .i64 i_1 ∧ f 42 = .bool b_1 ∧ Kp F h0 F' h ∧ St F' (Ow.pool 190 18 erL ps :: fr) h ∧ (SliceF F' h 20 erO vq_L q_L) ∧ (RoF (Ow.box bq 95 #[.int .i64 q_Now, .bool q_On, .int .i64 q_At, .int .i64 q_First, vq_L]) F' h) ∧ ref22_Q_Next_j2 q_L n_2 is_1 i_1 K_1 b_1) ?_ ?_
   ·
    refine HW.region ?_
    refine oM (.bool is_1) rfl rfl ?_
    refine oV (.bool (!is_1)) (q_not rfl) rfl ?_
    refine oM (.bool (!is_1)) rfl rfl ?_
    rcases Bool.eq_false_or_eq_true (!is_1) with c_3 | c_3
    ·
     replace hM := hM.1 c_3
     refine HO.past (past_by rfl rfl c_3) rfl ?_
     refine HO.past (past_by rfl rfl c_3) rfl ?_
     refine HO.past (past_by rfl rfl c_3) rfl ?_
     refine HO.past (past_by rfl rfl c_3) rfl ?_
     refine HO.past (past_by rfl rfl c_3) rfl ?_
     refine HO.past (past_by rfl rfl c_3) rfl ?_
     refine HO.past (past_by rfl rfl c_3) rfl ?_
     refine HO.past (past_by rfl rfl c_3) rfl ?_
     refine HO.past (past_by rfl rfl c_3) rfl ?_
     refine HO.past (past_by rfl rfl c_3) rfl ?_
     refine oV (.bool true) (q_pickK true rfl c_3 rfl) rfl ?_
     refine HO.nil (thenQ_normal (?_))
     exact ⟨F_2, true, rfl, rfl, rfl, rfl, rfl, rfl, rfl, hK, hS, hL_q_L, hB_bq, hM⟩
    ·
     replace hM := hM.2 c_3
     refine HO.val (v := .pointer (some ⟨bq, 0, none⟩)) (want_by rfl rfl c_3) rfl (q_move rfl) ?_
     refine HO.val (v := .pointer (some ⟨bq, 0, none⟩)) (want_by rfl rfl c_3) rfl (q_nilCheck rfl) ?_
     refine HO.val (v := .pointer (some ⟨bq, 4, none⟩)) (want_by rfl rfl c_3) rfl (q_fieldAddr fa_95_4 rfl rfl) ?_
     refine HO.val (v := vq_L) (want_by rfl rfl c_3) rfl (q_load to_93 rfl (Blk.cell hB_bq.box rfl)) ?_
     refine HO.val (v := .int .i64 i_1) (want_by rfl rfl c_3) rfl (q_move rfl) ?_
     obtain ⟨ho_1, hM⟩ := hM
     refine HO.val (v := elemPtr 20 vq_L (i_1).toNat) (want_by rfl rfl c_3) rfl (q_idx ts_93 hL_q_L.is rfl rfl ho_1) ?_
     refine HO.val (v := fieldPtr 20 vq_L (i_1).toNat 17) (want_by rfl rfl c_3) rfl (q_fldElem fa_184_1 hL_q_L.is rfl ho_1) ?_
     refine HO.val (v := .int .i64 ((gi q_L i_1).2.1)) (want_by rfl rfl c_3) rfl (q_ldField to_3 hL_q_L.is rfl ho_1 (by decide) rfl) ?_
     refine HO.val (v := .int .i64 n_2) (want_by rfl rfl c_3) rfl (q_move rfl) ?_
     refine HO.val (v := .bool (decide (((gi q_L i_1).2.1) < n_2))) (want_by rfl rfl c_3) rfl (q_lss rfl rfl) ?_
     refine oV (.bool (decide (((gi q_L i_1).2.1) < n_2))) (q_pickK false rfl c_3 rfl) rfl ?_
     refine HO.nil (thenQ_normal (?_))
     exact ⟨F_2, decide (((gi q_L i_1).2.1) < n_2), rfl, rfl, rfl, rfl, rfl, rfl, rfl, hK, hS, hL_q_L, hB_bq, hM⟩
   ·
    rintro f_3 h_3 ⟨F_3, b_1, e0, e2, e3, e4, e5, e6, e42, hK, hS, hL_q_L, hB_bq, hM⟩
    unfold ref22_Q_Next_j2 at hM
    refine HW.fr [(0, .pointer (some ⟨bq, 0, none⟩)), (2, .int .i64 0), (3, .bool false), (4, .int .i64 n_2), (5, .bool is_1), (6, .int .i64 i_1), (42, .bool b_1)] ⟨e0, e2, e3, e4, e5, e6, e42, trivial⟩ ?_
    refine HW.cond b_1 rfl (fun c_4 => ?_) (fun c_4 => ?_)
    ·
     replace hM := hM.1 c_4
     refine HW.region ?_
     refine oM (.pointer (some ⟨bq, 0, none⟩)) rfl rfl ?_
     refine oV (.pointer (some ⟨bq, 0, none⟩)) (q_nilCheck rfl) rfl ?_
     refine oV (.pointer (some ⟨bq, 4, none⟩)) (q_fieldAddr fa_95_4 rfl rfl) rfl ?_
     refine oV (vq_L) (q_load to_93 rfl (Blk.cell hB_bq.box rfl)) rfl ?_
     refine oM (.int .i64 i_1) rfl rfl ?_
     obtain ⟨ho_2, hM⟩ := hM
     refine oV (elemPtr 20 vq_L (i_1).toNat) (q_idx ts_93 hL_q_L.is rfl rfl ho_2) rfl ?_
     refine oV (fieldPtr 20 vq_L (i_1).toNat 17) (q_fldElem fa_184_1 hL_q_L.is rfl ho_2) rfl ?_
     refine oV (.int .i64 ((gi q_L i_1).2.1)) (q_ldField to_3 hL_q_L.is rfl ho_2 (by decide) rfl) rfl ?_
     refine oA (.int .i64 ((gi q_L i_1).2.1)) rfl rfl ?_
     refine oA (.bool true) rfl rfl ?_
     refine HO.nil (blockQ_normal (thenQ_normal (?_)))
     refine HW.region ?_
     refine oM (.int .i64 i_1) rfl rfl ?_
     obtain ⟨ho_3, hM⟩ := hM
     refine oV (.int .i64 (i_1 + 1)) (q_addN _ rfl rfl rfl ho_3.1 ho_3.2) rfl ?_
     refine oA (.int .i64 (i_1 + 1)) rfl rfl ?_
     refine HO.nil (thenQ_normal (?_))
     rw [hKe_1] at hM
     exact ⟨((gi q_L i_1).2.1, true, i_1 + 1), ⟨F_3, rfl, rfl, rfl, rfl, rfl, rfl, hK, hS, hL_q_L, hB_bq, hM.1⟩, hM.2⟩
    ·
     replace hM := hM.2 c_4
     refine HW.skip (blockQ_normal (thenQ_normal (?_)))
     refine HW.region ?_
     refine oM (.int .i64 i_1) rfl rfl ?_
     obtain ⟨ho_4, hM⟩ := hM
     refine oV (.int .i64 (i_1 + 1)) (q_addN _ rfl rfl rfl ho_4.1 ho_4.2) rfl ?_
     refine oA (.int .i64 (i_1 + 1)) rfl rfl ?_
     refine HO.nil (thenQ_normal (?_))
     rw [hKe_1] at hM
     exact ⟨(n_2, is_1, i_1 + 1), ⟨F_3, rfl, rfl, rfl, rfl, rfl, rfl, hK, hS, hL_q_L, hB_bq, hM.1⟩, hM.2⟩
  ·
   replace hM := hM.2 (of_decide_eq_false c_2)
   refine HW.exit (thenQ_exit (thenQ_exit (blockQ_exit (thenQ_normal (?_)))))
   refine HW.seq ?_
   refine HW.region ?_
   refine oM (.int .i64 n_2) rfl rfl ?_
   refine oM (.bool is_1) rfl rfl ?_
   refine oA (.int .i64 n_2) rfl rfl ?_
   refine oA (.bool is_1) rfl rfl ?_
   refine HO.nil (thenQ_normal (?_))
   refine HW.ret (?_)
   refine ⟨.inr rfl, .tuple #[.int .i64 n_2, .bool is_1], res2 rfl (rt rfl) (rt rfl), ?_⟩
   exact ⟨F_2, n_2, is_1, ps, rfl, hK, hS, hL_q_L, hB_bq, hM⟩
def query_Queries_Open_l1 (q_now : Int) (q_at_at : List (Str × Int)) (q_first : Int) (Q : (List T_api_Asked) → Int → (List (Str × Int)) → Int → (List (TA × (Nat × Nat) × TqL)) → Prop) (r_2 : List TA) (K_1 : (List (TA × (Nat × Nat) × TqL)) → (List T_api_Asked) → Int → Prop) (q_3_2 : List (TA × (Nat × Nat) × TqL)) (out_1 : List T_api_Asked) (n_1 : Int) : Prop :=
 (n_1 < (r_2.length : Int) → ((0 : Int) ≤ n_1 ∧ n_1 < (r_2.length : Int)) ∧ ((((mget q_3_2 (gi r_2 n_1)).isSome) = true → query_left_asked_W (((mget0 q_3_2 (gi r_2 n_1)).2).1) (((mget0 q_3_2 (gi r_2 n_1)).2).2) (gi r_2 n_1) (fun r_0_1 r_1_1 r_17_1 r_18_1 => ∀ vr_18_1 : Value, (((out_1.length + ([((r_0_1, r_1_1), r_17_1, (vr_18_1, r_18_1))] : List T_api_Asked).length) * 48 ≤ 140737488355328) ∧ ((I64 (n_1 + 1)) ∧ (K_1 (mset q_3_2 (gi r_2 n_1) ((mget0 q_3_2 (gi r_2 n_1)).1, (((mget0 q_3_2 (gi r_2 n_1)).2).1, ((mget0 q_3_2 (gi r_2 n_1)).2).2))) (out_1 ++ ([((r_0_1, r_1_1), r_17_1, (vr_18_1, r_18_1))] : List T_api_Asked)) (n_1 + 1)))))) ∧ (((mget q_3_2 (gi r_2 n_1)).isSome) = false → False))) ∧ (¬ (n_1 < (r_2.length : Int)) → Q out_1 q_now q_at_at q_first q_3_2)
def query_Queries_Open_W (q_now : Int) (q_at_at : List (Str × Int)) (q_first : Int) (q_open : List (TA × (Nat × Nat) × TqL)) (Q : (List T_api_Asked) → Int → (List (Str × Int)) → Int → (List (TA × (Nat × Nat) × TqL)) → Prop) : Prop :=
 query_Queries_groups_W q_now q_at_at q_first q_open (fun r_2 => loopW (fun (K_1 : ((List (TA × (Nat × Nat) × TqL)) × List T_api_Asked × Int) → Prop) (s : (List (TA × (Nat × Nat) × TqL)) × List T_api_Asked × Int) => query_Queries_Open_l1 q_now q_at_at q_first Q r_2 (fun q_3_2 out_1 n_1 => K_1 (q_3_2, out_1, n_1)) s.1 s.2.1 s.2.2) (q_open, [], 0))
theorem query_Queries_Open_walk {F : Fz} {fr : List Ow} {h0 : Heap} (q_now : Int) (q_at_at : List (Str × Int)) (q_first : Int) (q_open : List (TA × (Nat × Nat) × TqL)) (bq : Nat) (bq_at : Nat) (rq_at_at : Nat) (rq_open : Nat) (hS : St F (Ow.box bq 167 #[.int .i64 q_now, .pointer (some ⟨bq_at, 0, none⟩), .int .i64 q_first, .map (some rq_open)] :: Ow.box bq_at 222 #[.map (some rq_at_at)] :: Ow.map rq_at_at kT kI q_at_at :: Ow.pm rq_open (fun (x : TA) => .agg (eA x).toArray) pv_query_left th_query_left q_open none :: fr) h0)  {Q : (List T_api_Asked) → Int → (List (Str × Int)) → Int → (List (TA × (Nat × Nat) × TqL)) → Prop} (hM : query_Queries_Open_W q_now q_at_at q_first q_open Q) :
  HC Tryz.prog 56 #[.pointer (some ⟨bq, 0, none⟩)] h0 fun u h' => ∃ (F' : Fz) (r_1 : List T_api_Asked) (q_now_1 : Int) (qm_1 : List (Str × Int)) (q_first_1 : Int) (qm_2 : List (TA × (Nat × Nat) × TqL)) (vr_1 : Value), u = vr_1 ∧ Kp F h0 F' h' ∧ St F' (Ow.own 97 19 e_api_Asked vr_1 r_1 :: Ow.box bq 167 #[.int .i64 q_now_1, .pointer (some ⟨bq_at, 0, none⟩), .int .i64 q_first_1, .map (some rq_open)] :: Ow.box bq_at 222 #[.map (some rq_at_at)] :: Ow.map rq_at_at kT kI qm_1 :: Ow.pm rq_open (fun (x : TA) => .agg (eA x).toArray) pv_query_left th_query_left qm_2 none :: fr) h' ∧ (NfL nf_api_Asked F' h' r_1) ∧ Q r_1 q_now_1 qm_1 q_first_1 qm_2 := by
 unfold query_Queries_Open_W at hM
 have hK := Kp.refl F h0
 refine HC.of_HW (n := 28) Tryz.func56 rfl rfl (Nat.le_of_ble_eq_true rfl) ?_
 refine HW.seq ?_
 refine HW.region ?_
 refine oA (.slice none 0 0) rfl rfl ?_
 refine HO.nil (thenQ_normal (?_))
 refine HW.seq ?_
 refine HW.region ?_
 refine oA (.slice none 0 0) rfl rfl ?_
 refine HO.nil (thenQ_normal (?_))
 refine HW.seq ?_
 refine HW.seq ?_
 refine HW.region ?_
 refine oM (.pointer (some ⟨bq, 0, none⟩)) rfl rfl ?_
 refine oV (.bool false) (q_eqlPnil Tryz.underlying90 rfl rfl rfl) rfl ?_
 refine HO.nil (thenQ_normal (?_))
 refine HW.condF rfl ?_
 refine HW.skip (thenQ_normal (?_))
 refine HW.seq ?_
 refine HW.seq ?_
 refine HW.region ?_
 refine oM (.pointer (some ⟨bq, 0, none⟩)) rfl rfl ?_
 replace hS : St F (Ow.box bq 167 #[.int .i64 q_now, .pointer (some ⟨bq_at, 0, none⟩), .int .i64 q_first, .map (some rq_open)] :: Ow.box bq_at 222 #[.map (some rq_at_at)] :: Ow.map rq_at_at kT kI q_at_at :: Ow.pm rq_open (fun (x : TA) => .agg (eA x).toArray) pv_query_left th_query_left q_open none :: fr) h0 := hS
 have hZ_1 := hS
 have hkz_1 := (hS.freeze).2
 replace hS := hS.freeze.1
 have hL_1 := hZ_1.lent
 replace hS : St (fun bz_ => F bz_ ∨ (Ow.box bq 167 #[.int .i64 q_now, .pointer (some ⟨bq_at, 0, none⟩), .int .i64 q_first, .map (some rq_open)]).foot bz_) (Ow.box bq_at 222 #[.map (some rq_at_at)] :: Ow.map rq_at_at kT kI q_at_at :: Ow.pm rq_open (fun (x : TA) => .agg (eA x).toArray) pv_query_left th_query_left q_open none :: fr) h0 := hS
 have hZ_2 := hS
 have hkz_2 := (hS.freeze).2
 replace hS := hS.freeze.1
 have hL_2 := hZ_2.lent
 replace hS : St (fun bz_ => (fun bz_ => F bz_ ∨ (Ow.box bq 167 #[.int .i64 q_now, .pointer (some ⟨bq_at, 0, none⟩), .int .i64 q_first, .map (some rq_open)]).foot bz_) bz_ ∨ (Ow.box bq_at 222 #[.map (some rq_at_at)]).foot bz_) (Ow.map rq_at_at kT kI q_at_at :: Ow.pm rq_open (fun (x : TA) => .agg (eA x).toArray) pv_query_left th_query_left q_open none :: fr) h0 := hS
 have hZ_3 := hS
 have hkz_3 := (hS.freeze).2
 replace hS := hS.freeze.1
 have hL_3 := hZ_3.lent
 replace hS : St (fun bz_ => (fun bz_ => (fun bz_ => F bz_ ∨ (Ow.box bq 167 #[.int .i64 q_now, .pointer (some ⟨bq_at, 0, none⟩), .int .i64 q_first, .map (some rq_open)]).foot bz_) bz_ ∨ (Ow.box bq_at 222 #[.map (some rq_at_at)]).foot bz_) bz_ ∨ (Ow.map rq_at_at kT kI q_at_at).foot bz_) (Ow.pm rq_open (fun (x : TA) => .agg (eA x).toArray) pv_query_left th_query_left q_open none :: fr) h0 := hS
 have hZ_4 := hS
 have hkz_4 := (hS.freeze).2
 replace hS := hS.freeze.1
 have hL_4 := hZ_4.lent
 refine HO.call (want_none) rfl (ec en_123 rfl rfl) (query_Queries_groups_walk (fr := (fr)) q_now q_at_at q_first q_open bq bq_at rq_at_at rq_open hS (hL_3.kp hkz_4) ((hL_2.kp hkz_3).kp hkz_4) hL_4 (((hL_1.kp hkz_2).kp hkz_3).kp hkz_4) hM) ?_
 rintro vr_2 h_1 ⟨F_1, r_2, _, rfl, hk, hS, _, _, _, _, hM⟩
 obtain ⟨hS, hk⟩ := hZ_4.back hk hS
 obtain ⟨hS, hk⟩ := hZ_3.back hk hS
 obtain ⟨hS, hk⟩ := hZ_2.back hk hS
 obtain ⟨hS, hk⟩ := hZ_1.back hk hS
 generalize (fun bz_ => (fun bz_ => (fun bz_ => (fun bz_ => F_1 bz_ ∧ ¬ (Ow.pm rq_open (fun (x : TA) => .agg (eA x).toArray) pv_query_left th_query_left q_open none).foot bz_) bz_ ∧ ¬ (Ow.map rq_at_at kT kI q_at_at).foot bz_) bz_ ∧ ¬ (Ow.box bq_at 222 #[.map (some rq_at_at)]).foot bz_) bz_ ∧ ¬ (Ow.box bq 167 #[.int .i64 q_now, .pointer (some ⟨bq_at, 0, none⟩), .int .i64 q_first, .map (some rq_open)]).foot bz_) = F_2 at hS hk
 replace hK := hK.trans hk
 refine oV (.int .i64 (r_2.length : Int)) (q_len ts_29 (shp (hS.own 4 rfl).slice) rfl rfl) rfl ?_
 refine oM (.int .i64 0) rfl rfl ?_
 refine HO.nil (thenQ_normal (?_))
 refine HW.block ?_
 obtain ⟨I_1, m_1, hI_1, hR_1⟩ := hM
 replace hS := hS.nilOwn 97 19 e_api_Asked
 have hN_3 : NfL nf_api_Asked F_2 h_1 ([] : List T_api_Asked) := NfL.nil _ _ _
 replace hS : St F_2 (Ow.box bq 167 #[.int .i64 q_now, .pointer (some ⟨bq_at, 0, none⟩), .int .i64 q_first, .map (some rq_open)] :: Ow.box bq_at 222 #[.map (some rq_at_at)] :: Ow.map rq_at_at kT kI q_at_at :: Ow.pm rq_open (fun (x : TA) => .agg (eA x).toArray) pv_query_left th_query_left q_open none :: Ow.own 97 19 e_api_Asked (.slice none 0 0) ([] : List T_api_Asked) :: Ow.own 28 17 eA vr_2 r_2 :: fr) h_1 := hS.perm2 [1, 2, 3, 4, 0, 5] 6 rfl rfl
 refine HW.loop (S := (List (TA × (Nat × Nat) × TqL)) × List T_api_Asked × Int) (fun s f h => match s with | (q_3_2, out_1, n_1) => ∃ (F' : Fz) (vout_1 : Value), f 0 = .pointer (some ⟨bq, 0, none⟩) ∧ f 2 = .slice none 0 0 ∧ f 3 = vout_1 ∧ f 9 = vr_2 ∧ f 10 = .int .i64 (r_2.length : Int) ∧ f 11 = .int .i64 n_1 ∧ Kp F h0 F' h ∧ St F' (Ow.box bq 167 #[.int .i64 q_now, .pointer (some ⟨bq_at, 0, none⟩), .int .i64 q_first, .map (some rq_open)] :: Ow.box bq_at 222 #[.map (some rq_at_at)] :: Ow.map rq_at_at kT kI q_at_at :: Ow.pm rq_open (fun (x : TA) => .agg (eA x).toArray) pv_query_left th_query_left q_3_2 none :: Ow.own 97 19 e_api_Asked vout_1 out_1 :: Ow.own 28 17 eA vr_2 r_2 :: fr) h ∧ (NfL nf_api_Asked F' h out_1) ∧ I_1 (q_3_2, out_1, n_1)) m_1 (q_open, [], 0) ⟨F_2, .slice none 0 0, rfl, rfl, rfl, rfl, rfl, rfl, hK, hS, hN_3, hI_1⟩ ?_
 rintro ⟨q_3_2, out_1, n_1⟩ f_1 h_2 ⟨F_3, vout_1, e0, e2, e3, e9, e10, e11, hK, hS, hN_2, hI0⟩
 obtain ⟨K_1, hKe_1⟩ : ∃ K : (List (TA × (Nat × Nat) × TqL)) → (List T_api_Asked) → Int → Prop, K = fun q_3_2' out_1' n_1' => I_1 (q_3_2', out_1', n_1') ∧ m_1 (q_3_2', out_1', n_1') < m_1 (q_3_2, out_1, n_1) := ⟨_, rfl⟩
 have hM : query_Queries_Open_l1 q_now q_at_at q_first Q r_2 K_1 q_3_2 out_1 n_1 := by rw [hKe_1]; exact hR_1 (q_3_2, out_1, n_1) hI0
 unfold query_Queries_Open_l1 at hM
 refine HW.fr [(0, .pointer (some ⟨bq, 0, none⟩)), (2, .slice none 0 0), (3, vout_1), (9, vr_2), (10, .int .i64 (r_2.length : Int)), (11, .int .i64 n_1)] ⟨e0, e2, e3, e9, e10, e11, trivial⟩ ?_
 refine HW.seq ?_
 refine HW.region ?_
 refine oV (.bool (decide (n_1 < (r_2.length : Int)))) (q_lss rfl rfl) rfl ?_
 refine HO.nil (thenQ_normal (?_))
 refine HW.seq ?_
 refine HW.cond (decide (n_1 < (r_2.length : Int))) rfl (fun c_1 => ?_) (fun c_1 => ?_)
 ·
  replace hM := hM.1 (of_decide_eq_true c_1)
  refine HW.skip (thenQ_normal (?_))
  refine HW.seq ?_
  refine HW.block ?_
  refine HW.seq ?_
  refine HW.region ?_
  obtain ⟨ho_1, hM⟩ := hM
  refine oV (elemPtr 17 vr_2 (n_1).toNat) (q_idx ts_29 (hS.own 5 rfl).slice rfl rfl ho_1) rfl ?_
  refine oV (.agg (eA (gi r_2 n_1)).toArray) (q_ldElemAgg (cs := (eA (gi r_2 n_1))) ta_28 (hS.own 5 rfl).slice rfl ho_1 rfl) rfl ?_
  refine HO.eff (want_none) rfl (st_alloc (c := (eA (false, (default : Ba 16))).toArray) hS tz_28 rfl) ?_
  rintro _ h_3 ⟨b_1, rfl, hS, hk⟩
  replace hK := hK.trans hk
  replace hN_2 := hN_2.kp hk
  refine HO.sto (want_none) rfl (st_storeAgg (c' := (eA (gi r_2 n_1)).toArray) hS (i := 0) rfl ta_28 rfl rfl rfl (one_e_api_Addr _) (Nat.le_of_ble_eq_true rfl) rfl) ?_
  rintro h_4 ⟨hS, hk⟩
  replace hK := hK.trans hk
  replace hN_2 := hN_2.kp hk
  refine HO.nil (thenQ_normal (?_))
  refine HW.regionA 12 mixed (fun h => (Blk h b_1 (.cells (eA (gi r_2 n_1)).toArray 28 (0, 0))) ∧ (Blk h bq (.cells #[.int .i64 q_now, .pointer (some ⟨bq_at, 0, none⟩), .int .i64 q_first, .map (some rq_open)] 167 (0, 0))) ∧ (MapIs h rq_open (fun (x : TA) => .agg (eA x).toArray) (pmV (β := TqL) pv_query_left) q_3_2)) [] (by kernel_rfl) ?_
  refine HA.val (k := 0) (v := vout_1) rfl rfl (by kernel_rfl) (by kernel_rfl) (want_none) rfl (fun _ ⟨c372, c365, c368⟩ => q_move rfl) ?_
  refine HA.val (k := 1) (v := .pointer (some ⟨bq, 0, none⟩)) rfl rfl (by kernel_rfl) (by kernel_rfl) (want_none) rfl (fun _ ⟨c372, c365, c368⟩ => q_move rfl) ?_
  refine HA.val (k := 2) (v := .pointer (some ⟨bq, 0, none⟩)) rfl rfl (by kernel_rfl) (by kernel_rfl) (want_none) rfl (fun _ ⟨c372, c365, c368⟩ => q_nilCheck rfl) ?_
  refine HA.val (k := 3) (v := .pointer (some ⟨bq, 3, none⟩)) rfl rfl (by kernel_rfl) (by kernel_rfl) (want_none) rfl (fun _ ⟨c372, c365, c368⟩ => q_fieldAddr fa_167_3 rfl rfl) ?_
  refine HA.val (k := 4) (v := .map (some rq_open)) rfl rfl (by kernel_rfl) (by kernel_rfl) (want_none) rfl (fun _ ⟨c372, c365, c368⟩ => q_load to_165 rfl (Blk.cell c365 rfl)) ?_
  refine HA.val (k := 5) (v := .agg (eA (gi r_2 n_1)).toArray) rfl rfl (by kernel_rfl) (by kernel_rfl) (want_none) rfl (fun _ ⟨c372, c365, c368⟩ => q_loadAgg (cs := (eA (gi r_2 n_1))) ta_28 rfl rfl (Blk.cells (k := 17) c372 rfl)) ?_
  rcases Bool.eq_false_or_eq_true ((mget q_3_2 (gi r_2 n_1)).isSome) with c_2 | c_2
  ·
   replace hM := hM.1 c_2
   refine HA.val (k := 6) (v := .pointer (some ⟨(mget0 q_3_2 (gi r_2 n_1)).1.1, 0, none⟩)) rfl rfl (by kernel_rfl) (by kernel_rfl) (want_none) rfl (fun _ ⟨c372, c365, c368⟩ => q_pmYes (k := (gi r_2 n_1)) ka_28 tmk_165 c368 rfl rfl (pm_some c_2)) ?_
   replace hS : St F_3 (Ow.box (mget0 q_3_2 (gi r_2 n_1)).1.1 179 #[.int .i64 (((mget0 q_3_2 (gi r_2 n_1)).2).1), .map (some ((mget0 q_3_2 (gi r_2 n_1)).1.2))] :: Ow.map (mget0 q_3_2 (gi r_2 n_1)).1.2 (fun (x : TA) => .agg (eA x).toArray) kI (((mget0 q_3_2 (gi r_2 n_1)).2).2) :: Ow.box b_1 28 (eA (gi r_2 n_1)).toArray :: Ow.box bq 167 #[.int .i64 q_now, .pointer (some ⟨bq_at, 0, none⟩), .int .i64 q_first, .map (some rq_open)] :: Ow.box bq_at 222 #[.map (some rq_at_at)] :: Ow.map rq_at_at kT kI q_at_at :: Ow.pm rq_open (fun (x : TA) => .agg (eA x).toArray) pv_query_left th_query_left q_3_2 (some ((gi r_2 n_1), ((mget0 q_3_2 (gi r_2 n_1)).1.1, (mget0 q_3_2 (gi r_2 n_1)).1.2))) :: Ow.own 97 19 e_api_Asked vout_1 out_1 :: Ow.own 28 17 eA vr_2 r_2 :: fr) h_4 := (St.pmTake (th := th_query_left) hS 4 rfl (pm_some c_2)).unbm
   refine HA.val (k := 7) (v := .agg (eA (gi r_2 n_1)).toArray) rfl rfl (by kernel_rfl) (by kernel_rfl) (want_none) rfl (fun _ ⟨c372, c365, c368⟩ => q_loadAgg (cs := (eA (gi r_2 n_1))) ta_28 rfl rfl (Blk.cells (k := 17) c372 rfl)) ?_
   refine HA.one (k := 8) ⟨⟨(hS.box 2 rfl), (hS.box 3 rfl), (hS.pmi 6 rfl).map⟩, (Go.Wk.at_nil _ _)⟩ (by kernel_rfl) ?_
   replace hS : St F_3 (Ow.box (mget0 q_3_2 (gi r_2 n_1)).1.1 179 #[.int .i64 (((mget0 q_3_2 (gi r_2 n_1)).2).1), .map (some ((mget0 q_3_2 (gi r_2 n_1)).1.2))] :: Ow.map (mget0 q_3_2 (gi r_2 n_1)).1.2 (fun (x : TA) => .agg (eA x).toArray) kI (((mget0 q_3_2 (gi r_2 n_1)).2).2) :: Ow.box b_1 28 (eA (gi r_2 n_1)).toArray :: Ow.box bq 167 #[.int .i64 q_now, .pointer (some ⟨bq_at, 0, none⟩), .int .i64 q_first, .map (some rq_open)] :: Ow.box bq_at 222 #[.map (some rq_at_at)] :: Ow.map rq_at_at kT kI q_at_at :: Ow.pm rq_open (fun (x : TA) => .agg (eA x).toArray) pv_query_left th_query_left q_3_2 (some ((gi r_2 n_1), ((mget0 q_3_2 (gi r_2 n_1)).1.1, (mget0 q_3_2 (gi r_2 n_1)).1.2))) :: Ow.own 97 19 e_api_Asked vout_1 out_1 :: Ow.own 28 17 eA vr_2 r_2 :: fr) h_4 := hS
   have hZ_5 := hS
   have hkz_5 := (hS.freeze).2
   replace hS := hS.freeze.1
   have hL_5 := hZ_5.lent
   replace hS : St (fun bz_ => F_3 bz_ ∨ (Ow.box (mget0 q_3_2 (gi r_2 n_1)).1.1 179 #[.int .i64 (((mget0 q_3_2 (gi r_2 n_1)).2).1), .map (some ((mget0 q_3_2 (gi r_2 n_1)).1.2))]).foot bz_) (Ow.map (mget0 q_3_2 (gi r_2 n_1)).1.2 (fun (x : TA) => .agg (eA x).toArray) kI (((mget0 q_3_2 (gi r_2 n_1)).2).2) :: Ow.box b_1 28 (eA (gi r_2 n_1)).toArray :: Ow.box bq 167 #[.int .i64 q_now, .pointer (some ⟨bq_at, 0, none⟩), .int .i64 q_first, .map (some rq_open)] :: Ow.box bq_at 222 #[.map (some rq_at_at)] :: Ow.map rq_at_at kT kI q_at_at :: Ow.pm rq_open (fun (x : TA) => .agg (eA x).toArray) pv_query_left th_query_left q_3_2 (some ((gi r_2 n_1), ((mget0 q_3_2 (gi r_2 n_1)).1.1, (mget0 q_3_2 (gi r_2 n_1)).1.2))) :: Ow.own 97 19 e_api_Asked vout_1 out_1 :: Ow.own 28 17 eA vr_2 r_2 :: fr) h_4 := hS
   have hZ_6 := hS
   have hkz_6 := (hS.freeze).2
   replace hS := hS.freeze.1
   have hL_6 := hZ_6.lent
   refine HS.call rfl (want_none) rfl (ec en_125 rfl rfl) (query_left_asked_walk (fr := (Ow.box b_1 28 (eA (gi r_2 n_1)).toArray :: Ow.box bq 167 #[.int .i64 q_now, .pointer (some ⟨bq_at, 0, none⟩), .int .i64 q_first, .map (some rq_open)] :: Ow.box bq_at 222 #[.map (some rq_at_at)] :: Ow.map rq_at_at kT kI q_at_at :: Ow.pm rq_open (fun (x : TA) => .agg (eA x).toArray) pv_query_left th_query_left q_3_2 (some ((gi r_2 n_1), ((mget0 q_3_2 (gi r_2 n_1)).1.1, (mget0 q_3_2 (gi r_2 n_1)).1.2))) :: Ow.own 97 19 e_api_Asked vout_1 out_1 :: Ow.own 28 17 eA vr_2 r_2 :: fr)) (((mget0 q_3_2 (gi r_2 n_1)).2).1) (((mget0 q_3_2 (gi r_2 n_1)).2).2) (gi r_2 n_1) ((mget0 q_3_2 (gi r_2 n_1)).1.1) ((mget0 q_3_2 (gi r_2 n_1)).1.2) hS hL_6 (hL_5.kp hkz_6) hM) ?_
   rintro _ h_5 ⟨F_4, r_0_1, r_1_1, r_17_1, r_18_1, vr_18_1, rfl, hk, hS, _, _, hM⟩
   obtain ⟨hS, hk⟩ := hZ_6.back hk hS
   obtain ⟨hS, hk⟩ := hZ_5.back hk hS
   generalize (fun bz_ => (fun bz_ => F_4 bz_ ∧ ¬ (Ow.map (mget0 q_3_2 (gi r_2 n_1)).1.2 (fun (x : TA) => .agg (eA x).toArray) kI (((mget0 q_3_2 (gi r_2 n_1)).2).2)).foot bz_) bz_ ∧ ¬ (Ow.box (mget0 q_3_2 (gi r_2 n_1)).1.1 179 #[.int .i64 (((mget0 q_3_2 (gi r_2 n_1)).2).1), .map (some ((mget0 q_3_2 (gi r_2 n_1)).1.2))]).foot bz_) = F_5 at hS hk
   replace hK := hK.trans hk
   replace hN_2 := hN_2.kp hk
   refine HA.one (k := 9) ⟨⟨(hS.box 3 rfl), (hS.box 4 rfl), (hS.pmi 7 rfl).map⟩, (Go.Wk.at_nil _ _)⟩ (by kernel_rfl) ?_
   replace hS : St F_5 (Ow.own 28 17 eA vr_18_1 r_18_1 :: Ow.box (mget0 q_3_2 (gi r_2 n_1)).1.1 179 #[.int .i64 (((mget0 q_3_2 (gi r_2 n_1)).2).1), .map (some ((mget0 q_3_2 (gi r_2 n_1)).1.2))] :: Ow.map (mget0 q_3_2 (gi r_2 n_1)).1.2 (fun (x : TA) => .agg (eA x).toArray) kI (((mget0 q_3_2 (gi r_2 n_1)).2).2) :: Ow.box b_1 28 (eA (gi r_2 n_1)).toArray :: Ow.box bq 167 #[.int .i64 q_now, .pointer (some ⟨bq_at, 0, none⟩), .int .i64 q_first, .map (some rq_open)] :: Ow.box bq_at 222 #[.map (some rq_at_at)] :: Ow.map rq_at_at kT kI q_at_at :: Ow.pm rq_open (fun (x : TA) => .agg (eA x).toArray) pv_query_left th_query_left q_3_2 (some ((gi r_2 n_1), ((mget0 q_3_2 (gi r_2 n_1)).1.1, (mget0 q_3_2 (gi r_2 n_1)).1.2))) :: Ow.own 97 19 e_api_Asked vout_1 out_1 :: Ow.own 28 17 eA vr_2 r_2 :: fr) h_5 := hS.perm2 [2, 0, 1, 3, 4, 5, 6, 7, 8, 9] 10 rfl rfl
   obtain ⟨F_6, hS, hk, hL_7⟩ := hS.freezeOwn
   replace hK := hK.trans hk
   replace hN_2 := hN_2.kp hk
   replace hM := hM vr_18_1
   refine HS.eff rfl (want_none) rfl (st_lit (enc := e_api_Asked) (cells := #[.bool r_0_1, .int .u8 (b8 r_1_1 0), .int .u8 (b8 r_1_1 1), .int .u8 (b8 r_1_1 2), .int .u8 (b8 r_1_1 3), .int .u8 (b8 r_1_1 4), .int .u8 (b8 r_1_1 5), .int .u8 (b8 r_1_1 6), .int .u8 (b8 r_1_1 7), .int .u8 (b8 r_1_1 8), .int .u8 (b8 r_1_1 9), .int .u8 (b8 r_1_1 10), .int .u8 (b8 r_1_1 11), .int .u8 (b8 r_1_1 12), .int .u8 (b8 r_1_1 13), .int .u8 (b8 r_1_1 14), .int .u8 (b8 r_1_1 15), .bool r_17_1, vr_18_1]) #[.bool false, .int .u8 0, .int .u8 0, .int .u8 0, .int .u8 0, .int .u8 0, .int .u8 0, .int .u8 0, .int .u8 0, .int .u8 0, .int .u8 0, .int .u8 0, .int .u8 0, .int .u8 0, .int .u8 0, .int .u8 0, .int .u8 0, .bool false, .slice none 0 0] ([((r_0_1, r_1_1), r_17_1, (vr_18_1, r_18_1))] : List T_api_Asked) hS tl_58 (by decide) (by decide) (by kernel_rfl) (by kernel_rfl) rfl (by intro x hx; rfl) rfl) ?_
   rintro _ h_6 ⟨b_2, rfl, hS, hk⟩
   replace hK := hK.trans hk
   replace hN_2 := hN_2.kp hk
   replace hL_7 := hL_7.kp hk
   have hN_4 : NfL nf_api_Asked F_6 h_6 ([((r_0_1, r_1_1), r_17_1, (vr_18_1, r_18_1))] : List T_api_Asked) := (NfL.cons (nfm_api_Asked ((r_0_1, r_1_1), r_17_1, (vr_18_1, r_18_1)) hL_7) (NfL.nil _ _ _))
   refine HA.one (k := 10) ⟨⟨(hS.box 3 rfl), (hS.box 4 rfl), (hS.pmi 7 rfl).map⟩, (Go.Wk.at_nil _ _)⟩ (by kernel_rfl) ?_
   obtain ⟨ho_2, hM⟩ := hM
   refine HS.eff rfl (want_none) rfl (st_append te_58 hS (i := 8) rfl (hS.own 0 rfl).slice rfl rfl rfl (fun a_ ha_ => nfo_api_Asked (hN_4.is.all a_ ha_)) ho_2 (by omega)) ?_
   rintro v_1 h_7 ⟨hS, hk⟩
   replace hK := hK.trans hk
   replace hN_2 := hN_2.kp hk
   replace hN_4 := hN_4.kp hk
   have hN_5 : NfL nf_api_Asked F_6 h_7 (out_1 ++ ([((r_0_1, r_1_1), r_17_1, (vr_18_1, r_18_1))] : List T_api_Asked)) := NfL.app hN_2 hN_4
   refine HA.val (k := 11) (v := v_1) rfl rfl (by kernel_rfl) (by kernel_rfl) (want_none) rfl (fun _ ⟨c372, c365, c368⟩ => q_assign rfl) ?_
   refine HA.nil ⟨⟨(hS.box 3 rfl), (hS.box 4 rfl), (hS.pmi 7 rfl).map⟩, (Go.Wk.at_nil _ _)⟩ (by kernel_rfl) (blockQ_normal (thenQ_normal (?_)))
   refine HW.region ?_
   obtain ⟨ho_3, hM⟩ := hM
   refine oV (.int .i64 (n_1 + 1)) (q_addN _ rfl rfl rfl ho_3.1 ho_3.2) rfl ?_
   refine oM (.int .i64 (n_1 + 1)) rfl rfl ?_
   refine HO.nil (thenQ_normal (?_))
   replace hS : St F_6 (Ow.box (mget0 q_3_2 (gi r_2 n_1)).1.1 179 #[.int .i64 (((mget0 q_3_2 (gi r_2 n_1)).2).1), .map (some ((mget0 q_3_2 (gi r_2 n_1)).1.2))] :: Ow.map (mget0 q_3_2 (gi r_2 n_1)).1.2 (fun (x : TA) => .agg (eA x).toArray) kI (((mget0 q_3_2 (gi r_2 n_1)).2).2) :: Ow.own 97 19 e_api_Asked (.slice (some ⟨b_2, 0, none⟩) 1 1) ([((r_0_1, r_1_1), r_17_1, (vr_18_1, r_18_1))] : List T_api_Asked) :: Ow.box b_1 28 (eA (gi r_2 n_1)).toArray :: Ow.box bq 167 #[.int .i64 q_now, .pointer (some ⟨bq_at, 0, none⟩), .int .i64 q_first, .map (some rq_open)] :: Ow.box bq_at 222 #[.map (some rq_at_at)] :: Ow.map rq_at_at kT kI q_at_at :: Ow.pm rq_open (fun (x : TA) => .agg (eA x).toArray) pv_query_left th_query_left q_3_2 (some ((gi r_2 n_1), ((mget0 q_3_2 (gi r_2 n_1)).1.1, (mget0 q_3_2 (gi r_2 n_1)).1.2))) :: Ow.own 97 19 e_api_Asked v_1 (out_1 ++ ([((r_0_1, r_1_1), r_17_1, (vr_18_1, r_18_1))] : List T_api_Asked)) :: Ow.own 28 17 eA vr_2 r_2 :: fr) h_7 := hS.perm2 [1, 2, 0, 3, 4, 5, 6, 7, 8, 9] 10 rfl rfl
   replace hS : St F_6 (Ow.own 97 19 e_api_Asked (.slice (some ⟨b_2, 0, none⟩) 1 1) ([((r_0_1, r_1_1), r_17_1, (vr_18_1, r_18_1))] : List T_api_Asked) :: Ow.box b_1 28 (eA (gi r_2 n_1)).toArray :: Ow.box bq 167 #[.int .i64 q_now, .pointer (some ⟨bq_at, 0, none⟩), .int .i64 q_first, .map (some rq_open)] :: Ow.box bq_at 222 #[.map (some rq_at_at)] :: Ow.map rq_at_at kT kI q_at_at :: Ow.pm rq_open (fun (x : TA) => .agg (eA x).toArray) pv_query_left th_query_left (mset q_3_2 (gi r_2 n_1) ((mget0 q_3_2 (gi r_2 n_1)).1, (((mget0 q_3_2 (gi r_2 n_1)).2).1, ((mget0 q_3_2 (gi r_2 n_1)).2).2))) none :: Ow.own 97 19 e_api_Asked v_1 (out_1 ++ ([((r_0_1, r_1_1), r_17_1, (vr_18_1, r_18_1))] : List T_api_Asked)) :: Ow.own 28 17 eA vr_2 r_2 :: fr) h_7 := St.pmPut (th := th_query_left) (j := (mget0 q_3_2 (gi r_2 n_1)).1) (y := (((mget0 q_3_2 (gi r_2 n_1)).2).1, ((mget0 q_3_2 (gi r_2 n_1)).2).2)) (St.doboth hS) 5 rfl
   replace hS : St F_6 (Ow.box bq 167 #[.int .i64 q_now, .pointer (some ⟨bq_at, 0, none⟩), .int .i64 q_first, .map (some rq_open)] :: Ow.box bq_at 222 #[.map (some rq_at_at)] :: Ow.map rq_at_at kT kI q_at_at :: Ow.pm rq_open (fun (x : TA) => .agg (eA x).toArray) pv_query_left th_query_left (mset q_3_2 (gi r_2 n_1) ((mget0 q_3_2 (gi r_2 n_1)).1, (((mget0 q_3_2 (gi r_2 n_1)).2).1, ((mget0 q_3_2 (gi r_2 n_1)).2).2))) none :: Ow.own 97 19 e_api_Asked v_1 (out_1 ++ ([((r_0_1, r_1_1), r_17_1, (vr_18_1, r_18_1))] : List T_api_Asked)) :: Ow.own 28 17 eA vr_2 r_2 :: fr) h_7 := hS.perm2 [2, 3, 4, 5, 6, 7] 8 rfl rfl
   rw [hKe_1] at hM
   exact ⟨(mset q_3_2 (gi r_2 n_1) ((mget0 q_3_2 (gi r_2 n_1)).1, (((mget0 q_3_2 (gi r_2 n_1)).2).1, ((mget0 q_3_2 (gi r_2 n_1)).2).2)), out_1 ++ ([((r_0_1, r_1_1), r_17_1, (vr_18_1, r_18_1))] : List T_api_Asked), n_1 + 1), ⟨F_6, v_1, rfl, rfl, rfl, rfl, rfl, rfl, hK, hS, hN_5, hM.1⟩, hM.2⟩
  ·
   replace hM := hM.2 c_2
   refine HA.val (k := 6) (v := .pointer none) rfl rfl (by kernel_rfl) (by kernel_rfl) (want_none) rfl (fun _ ⟨c372, c365, c368⟩ => q_pmNo (k := (gi r_2 n_1)) ka_28 tmk_165 c368 rfl rfl (pm_none c_2)) ?_
   refine HA.val (k := 7) (v := .agg (eA (gi r_2 n_1)).toArray) rfl rfl (by kernel_rfl) (by kernel_rfl) (want_none) rfl (fun _ ⟨c372, c365, c368⟩ => q_loadAgg (cs := (eA (gi r_2 n_1))) ta_28 rfl rfl (Blk.cells (k := 17) c372 rfl)) ?_
   refine HA.one (k := 8) ⟨⟨(hS.box 0 rfl), (hS.box 1 rfl), (hS.pmi 4 rfl).map⟩, (Go.Wk.at_nil _ _)⟩ (by kernel_rfl) ?_
   exact hM.elim
 ·
  replace hM := hM.2 (of_decide_eq_false c_1)
  refine HW.exit (thenQ_exit (thenQ_exit (blockQ_exit (thenQ_normal (?_)))))
  refine HW.seq ?_
  refine HW.region ?_
  refine oM (vout_1) rfl rfl ?_
  refine oA (vout_1) rfl rfl ?_
  refine HO.nil (thenQ_normal (?_))
  refine HW.ret (?_)
  refine ⟨.inr rfl, vout_1, res1 rfl (rt rfl), ?_⟩
  replace hS : St F_3 (Ow.own 97 19 e_api_Asked vout_1 out_1 :: Ow.box bq 167 #[.int .i64 q_now, .pointer (some ⟨bq_at, 0, none⟩), .int .i64 q_first, .map (some rq_open)] :: Ow.box bq_at 222 #[.map (some rq_at_at)] :: Ow.map rq_at_at kT kI q_at_at :: Ow.pm rq_open (fun (x : TA) => .agg (eA x).toArray) pv_query_left th_query_left q_3_2 none :: fr) h_2 := hS.perm2 [4, 0, 1, 2, 3] 6 rfl rfl
  exact ⟨F_3, out_1, q_now, q_at_at, q_first, q_3_2, vout_1, rfl, hK, hS, hN_2, hM⟩
def ref22_Q_Open_l1 (q_Now : Int) (q_On : Bool) (q_At : Int) (q_First : Int) (q_L : List TrO) (ps : List (SV × List TrL)) (Q : (List T_api_Asked) → (List (SV × List TrL)) → Int → Bool → Int → Int → (List TrO) → Prop) (K_1 : (List T_api_Asked) → Int → Prop) (out_1 : List T_api_Asked) (i_1 : Int) : Prop :=
 (i_1 < (q_L.length : Int) → ((0 : Int) ≤ i_1 ∧ i_1 < (q_L.length : Int)) ∧ ((PHas ps (((gi q_L i_1).2.2.2).1, ((gi q_L i_1).2.2.2).2)) ∧ (ref22_asked_W ((gi q_L i_1).1) ((gi q_L i_1).2.1) ((gi q_L i_1).2.2.1) (((gi q_L i_1).2.2.2).2) (fun r_0_1 r_1_1 r_17_1 r_18_1 => ∀ vr_18_1 : Value, (((out_1.length + ([((r_0_1, r_1_1), r_17_1, (vr_18_1, r_18_1))] : List T_api_Asked).length) * 48 ≤ 140737488355328) ∧ ((I64 (i_1 + 1)) ∧ (K_1 (out_1 ++ ([((r_0_1, r_1_1), r_17_1, (vr_18_1, r_18_1))] : List T_api_Asked)) (i_1 + 1)))))))) ∧ (¬ (i_1 < (q_L.length : Int)) → Q out_1 ps q_Now q_On q_At q_First q_L)
def ref22_Q_Open_W (q_Now : Int) (q_On : Bool) (q_At : Int) (q_First : Int) (q_L : List TrO) (ps : List (SV × List TrL)) (Q : (List T_api_Asked) → (List (SV × List TrL)) → Int → Bool → Int → Int → (List TrO) → Prop) : Prop :=
 loopW (fun (K_1 : (List T_api_Asked × Int) → Prop) (s : List T_api_Asked × Int) => ref22_Q_Open_l1 q_Now q_On q_At q_First q_L ps Q (fun out_1 i_1 => K_1 (out_1, i_1)) s.1 s.2) ([], 0)
theorem ref22_Q_Open_walk {F : Fz} {fr : List Ow} {h0 : Heap} (q_Now : Int) (q_On : Bool) (q_At : Int) (q_First : Int) (q_L : List TrO) (ps : List (SV × List TrL)) (bq : Nat) (vq_L : Value) (hS : St F (Ow.box bq 95 #[.int .i64 q_Now, .bool q_On, .int .i64 q_At, .int .i64 q_First, vq_L] :: Ow.own 184 20 erO vq_L q_L :: Ow.pool 190 18 erL ps :: fr) h0)  {Q : (List T_api_Asked) → (List (SV × List TrL)) → Int → Bool → Int → Int → (List TrO) → Prop} (hM : ref22_Q_Open_W q_Now q_On q_At q_First q_L ps Q) :
  HC Tryz.prog 57 #[.pointer (some ⟨bq, 0, none⟩)] h0 fun u h' => ∃ (F' : Fz) (r_1 : List T_api_Asked) (ps_1 : List (SV × List TrL)) (q_Now_1 : Int) (q_On_1 : Bool) (q_At_1 : Int) (q_First_1 : Int) (q_L_1 : List TrO) (vr_1 : Value) (v_1 : Value), u = vr_1 ∧ Kp F h0 F' h' ∧ St F' (Ow.own 97 19 e_api_Asked vr_1 r_1 :: Ow.pool 190 18 erL ps_1 :: Ow.box bq 95 #[.int .i64 q_Now_1, .bool q_On_1, .int .i64 q_At_1, .int .i64 q_First_1, v_1] :: Ow.own 184 20 erO v_1 q_L_1 :: fr) h' ∧ (NfL nf_api_Asked F' h' r_1) ∧ Q r_1 ps_1 q_Now_1 q_On_1 q_At_1 q_First_1 q_L_1 := by
 unfold ref22_Q_Open_W at hM
 have hK := Kp.refl F h0
 refine HC.of_HW (n := 27) Tryz.func57 rfl rfl (Nat.le_of_ble_eq_true rfl) ?_
 refine HW.seq ?_
 refine HW.region ?_
 refine oA (.slice none 0 0) rfl rfl ?_
 refine HO.nil (thenQ_normal (?_))
 refine HW.seq ?_
 refine HW.region ?_
 refine HO.eff (want_none) rfl (st_litEmpty (α := T_api_Asked) e_api_Asked hS tl_58) ?_
 rintro _ h_1 ⟨b_1, rfl, hS, hk⟩
 replace hK := hK.trans hk
 have hN_2 : NfL nf_api_Asked F h_1 ([] : List T_api_Asked) := NfL.nil _ _ _
 refine oA (.slice (some ⟨b_1, 0, none⟩) 0 0) rfl rfl ?_
 refine HO.nil (thenQ_normal (?_))
 refine HW.seq ?_
 refine HW.seq ?_
 refine HW.region ?_
 refine oA (.int .i64 0) rfl rfl ?_
 refine HO.nil (thenQ_normal (?_))
 refine HW.block ?_
 obtain ⟨I_1, m_1, hI_1, hR_1⟩ := hM
 replace hS : St F (Ow.box bq 95 #[.int .i64 q_Now, .bool q_On, .int .i64 q_At, .int .i64 q_First, vq_L] :: Ow.own 184 20 erO vq_L q_L :: Ow.pool 190 18 erL ps :: Ow.own 97 19 e_api_Asked (.slice (some ⟨b_1, 0, none⟩) 0 0) ([] : List T_api_Asked) :: fr) h_1 := hS.perm2 [1, 2, 3, 0] 4 rfl rfl
 refine HW.loop (S := List T_api_Asked × Int) (fun s f h => match s with | (out_1, i_1) => ∃ (F' : Fz) (vout_1 : Value), f 0 = .pointer (some ⟨bq, 0, none⟩) ∧ f 2 = .slice none 0 0 ∧ f 3 = vout_1 ∧ f 4 = .int .i64 i_1 ∧ Kp F h0 F' h ∧ St F' (Ow.box bq 95 #[.int .i64 q_Now, .bool q_On, .int .i64 q_At, .int .i64 q_First, vq_L] :: Ow.own 184 20 erO vq_L q_L :: Ow.pool 190 18 erL ps :: Ow.own 97 19 e_api_Asked vout_1 out_1 :: fr) h ∧ (NfL nf_api_Asked F' h ([] : List T_api_Asked)) ∧ (NfL nf_api_Asked F' h out_1) ∧ I_1 (out_1, i_1)) m_1 ([], 0) ⟨F, .slice (some ⟨b_1, 0, none⟩) 0 0, rfl, rfl, rfl, rfl, hK, hS, hN_2, hN_2, hI_1⟩ ?_
 rintro ⟨out_1, i_1⟩ f_1 h_2 ⟨F_1, vout_1, e0, e2, e3, e4, hK, hS, hN_2, hN_3, hI0⟩
 obtain ⟨K_1, hKe_1⟩ : ∃ K : (List T_api_Asked) → Int → Prop, K = fun out_1' i_1' => I_1 (out_1', i_1') ∧ m_1 (out_1', i_1') < m_1 (out_1, i_1) := ⟨_, rfl⟩
 have hM : ref22_Q_Open_l1 q_Now q_On q_At q_First q_L ps Q K_1 out_1 i_1 := by rw [hKe_1]; exact hR_1 (out_1, i_1) hI0
 unfold ref22_Q_Open_l1 at hM
 refine HW.fr [(0, .pointer (some ⟨bq, 0, none⟩)), (2, .slice none 0 0), (3, vout_1), (4, .int .i64 i_1)] ⟨e0, e2, e3, e4, trivial⟩ ?_
 refine HW.seq ?_
 refine HW.seq ?_
 refine HW.region ?_
 refine oM (.int .i64 i_1) rfl rfl ?_
 refine oM (.pointer (some ⟨bq, 0, none⟩)) rfl rfl ?_
 refine oV (.pointer (some ⟨bq, 0, none⟩)) (q_nilCheck rfl) rfl ?_
 refine oV (.pointer (some ⟨bq, 4, none⟩)) (q_fieldAddr fa_95_4 rfl rfl) rfl ?_
 refine oV (vq_L) (q_load to_93 rfl (Blk.cell (hS.box 0 rfl) rfl)) rfl ?_
 refine oV (.int .i64 (q_L.length : Int)) (q_len ts_93 (shp (hS.own 1 rfl).slice) rfl rfl) rfl ?_
 refine oV (.bool (decide (i_1 < (q_L.length : Int)))) (q_lss rfl rfl) rfl ?_
 refine HO.nil (thenQ_normal (?_))
 refine HW.cond (decide (i_1 < (q_L.length : Int))) rfl (fun c_1 => ?_) (fun c_1 => ?_)
 ·
  replace hM := hM.1 (of_decide_eq_true c_1)
  refine HW.skip (thenQ_normal (?_))
  refine HW.seq ?_
  refine HW.block ?_
  refine HW.region ?_
  refine oM (vout_1) rfl rfl ?_
  refine oM (.pointer (some ⟨bq, 0, none⟩)) rfl rfl ?_
  refine oV (.pointer (some ⟨bq, 0, none⟩)) (q_nilCheck rfl) rfl ?_
  refine oV (.pointer (some ⟨bq, 4, none⟩)) (q_fieldAddr fa_95_4 rfl rfl) rfl ?_
  refine oV (vq_L) (q_load to_93 rfl (Blk.cell (hS.box 0 rfl) rfl)) rfl ?_
  refine oM (.int .i64 i_1) rfl rfl ?_
  obtain ⟨ho_1, hM⟩ := hM
  refine oV (elemPtr 20 vq_L (i_1).toNat) (q_idx ts_93 (hS.own 1 rfl).slice rfl rfl ho_1) rfl ?_
  refine oV (.agg (c_acequiaref22_One ((gi q_L i_1).1) (.int .i64 ((gi q_L i_1).2.1)) (.int .i64 ((gi q_L i_1).2.2.1)) (svV ((gi q_L i_1).2.2.2).1)).toArray) (q_ldElemAgg (cs := (c_acequiaref22_One ((gi q_L i_1).1) (.int .i64 ((gi q_L i_1).2.1)) (.int .i64 ((gi q_L i_1).2.2.1)) (svV ((gi q_L i_1).2.2.2).1))) ta_184 (hS.own 1 rfl).slice rfl ho_1 rfl) rfl ?_
  replace hS : St F_1 (Ow.pool 190 18 erL ps :: Ow.box bq 95 #[.int .i64 q_Now, .bool q_On, .int .i64 q_At, .int .i64 q_First, vq_L] :: Ow.own 184 20 erO vq_L q_L :: Ow.own 97 19 e_api_Asked vout_1 out_1 :: fr) h_2 := hS.perm2 [2, 0, 1, 3] 4 rfl rfl
  have hZ_1 := hS
  have hkz_1 := (hS.freeze).2
  replace hS := hS.freeze.1
  have hL_1 := hZ_1.lent
  obtain ⟨ho_2, hM⟩ := hM
  refine HO.call (want_none) rfl (ec en_128 rfl rfl) (ref22_asked_walk (fr := (Ow.box bq 95 #[.int .i64 q_Now, .bool q_On, .int .i64 q_At, .int .i64 q_First, vq_L] :: Ow.own 184 20 erO vq_L q_L :: Ow.own 97 19 e_api_Asked vout_1 out_1 :: fr)) ((gi q_L i_1).1) ((gi q_L i_1).2.1) ((gi q_L i_1).2.2.1) (((gi q_L i_1).2.2.2).2) (svV ((gi q_L i_1).2.2.2).1) hS (RoF.poolSl hL_1 ho_2) hM) ?_
  rintro _ h_3 ⟨F_2, r_0_1, r_1_1, r_17_1, r_18_1, vr_18_1, rfl, hk, hS, _, hM⟩
  obtain ⟨hS, hk⟩ := hZ_1.back hk hS
  generalize (fun bz_ => F_2 bz_ ∧ ¬ (Ow.pool 190 18 erL ps).foot bz_) = F_3 at hS hk
  replace hK := hK.trans hk
  replace hN_2 := hN_2.kp hk
  replace hN_3 := hN_3.kp hk
  replace hS : St F_3 (Ow.own 28 17 eA vr_18_1 r_18_1 :: Ow.pool 190 18 erL ps :: Ow.box bq 95 #[.int .i64 q_Now, .bool q_On, .int .i64 q_At, .int .i64 q_First, vq_L] :: Ow.own 184 20 erO vq_L q_L :: Ow.own 97 19 e_api_Asked vout_1 out_1 :: fr) h_3 := hS.perm2 [1, 0, 2, 3, 4] 5 rfl rfl
  obtain ⟨F_4, hS, hk, hL_2⟩ := hS.freezeOwn
  replace hK := hK.trans hk
  replace hN_2 := hN_2.kp hk
  replace hN_3 := hN_3.kp hk
  replace hM := hM vr_18_1
  refine HO.eff (want_none) rfl (st_lit (enc := e_api_Asked) (cells := #[.bool r_0_1, .int .u8 (b8 r_1_1 0), .int .u8 (b8 r_1_1 1), .int .u8 (b8 r_1_1 2), .int .u8 (b8 r_1_1 3), .int .u8 (b8 r_1_1 4), .int .u8 (b8 r_1_1 5), .int .u8 (b8 r_1_1 6), .int .u8 (b8 r_1_1 7), .int .u8 (b8 r_1_1 8), .int .u8 (b8 r_1_1 9), .int .u8 (b8 r_1_1 10), .int .u8 (b8 r_1_1 11), .int .u8 (b8 r_1_1 12), .int .u8 (b8 r_1_1 13), .int .u8 (b8 r_1_1 14), .int .u8 (b8 r_1_1 15), .bool r_17_1, vr_18_1]) #[.bool false, .int .u8 0, .int .u8 0, .int .u8 0, .int .u8 0, .int .u8 0, .int .u8 0, .int .u8 0, .int .u8 0, .int .u8 0, .int .u8 0, .int .u8 0, .int .u8 0, .int .u8 0, .int .u8 0, .int .u8 0, .int .u8 0, .bool false, .slice none 0 0] ([((r_0_1, r_1_1), r_17_1, (vr_18_1, r_18_1))] : List T_api_Asked) hS tl_58 (by decide) (by decide) (by kernel_rfl) (by kernel_rfl) rfl (by intro x hx; rfl) rfl) ?_
  rintro _ h_4 ⟨b_2, rfl, hS, hk⟩
  replace hK := hK.trans hk
  replace hN_2 := hN_2.kp hk
  replace hN_3 := hN_3.kp hk
  replace hL_2 := hL_2.kp hk
  have hN_4 : NfL nf_api_Asked F_4 h_4 ([((r_0_1, r_1_1), r_17_1, (vr_18_1, r_18_1))] : List T_api_Asked) := (NfL.cons (nfm_api_Asked ((r_0_1, r_1_1), r_17_1, (vr_18_1, r_18_1)) hL_2) (NfL.nil _ _ _))
  obtain ⟨ho_3, hM⟩ := hM
  refine HO.eff (want_none) rfl (st_append te_58 hS (i := 4) rfl (hS.own 0 rfl).slice rfl rfl rfl (fun a_ ha_ => nfo_api_Asked (hN_4.is.all a_ ha_)) ho_3 (by omega)) ?_
  rintro v_2 h_5 ⟨hS, hk⟩
  replace hK := hK.trans hk
  replace hN_2 := hN_2.kp hk
  replace hN_3 := hN_3.kp hk
  replace hN_4 := hN_4.kp hk
  have hN_5 : NfL nf_api_Asked F_4 h_5 (out_1 ++ ([((r_0_1, r_1_1), r_17_1, (vr_18_1, r_18_1))] : List T_api_Asked)) := NfL.app hN_3 hN_4
  refine oA (v_2) rfl rfl ?_
  refine HO.nil (blockQ_normal (thenQ_normal (?_)))
  refine HW.region ?_
  refine oM (.int .i64 i_1) rfl rfl ?_
  obtain ⟨ho_4, hM⟩ := hM
  refine oV (.int .i64 (i_1 + 1)) (q_addN _ rfl rfl rfl ho_4.1 ho_4.2) rfl ?_
  refine oA (.int .i64 (i_1 + 1)) rfl rfl ?_
  refine HO.nil (thenQ_normal (?_))
  replace hS : St F_4 (Ow.box bq 95 #[.int .i64 q_Now, .bool q_On, .int .i64 q_At, .int .i64 q_First, vq_L] :: Ow.own 184 20 erO vq_L q_L :: Ow.pool 190 18 erL ps :: Ow.own 97 19 e_api_Asked v_2 (out_1 ++ ([((r_0_1, r_1_1), r_17_1, (vr_18_1, r_18_1))] : List T_api_Asked)) :: fr) h_5 := hS.perm2 [2, 3, 1, 4] 5 rfl rfl
  rw [hKe_1] at hM
  exact ⟨(out_1 ++ ([((r_0_1, r_1_1), r_17_1, (vr_18_1, r_18_1))] : List T_api_Asked), i_1 + 1), ⟨F_4, v_2, rfl, rfl, rfl, rfl, hK, hS, hN_2, hN_5, hM.1⟩, hM.2⟩
 ·
  replace hM := hM.2 (of_decide_eq_false c_1)
  refine HW.exit (thenQ_exit (thenQ_exit (blockQ_exit (thenQ_normal (?_)))))
  refine HW.seq ?_
  refine HW.region ?_
  refine oM (vout_1) rfl rfl ?_
  refine oA (vout_1) rfl rfl ?_
  refine HO.nil (thenQ_normal (?_))
  refine HW.ret (?_)
  refine ⟨.inr rfl, vout_1, res1 rfl (rt rfl), ?_⟩
  replace hS : St F_1 (Ow.own 97 19 e_api_Asked vout_1 out_1 :: Ow.pool 190 18 erL ps :: Ow.box bq 95 #[.int .i64 q_Now, .bool q_On, .int .i64 q_At, .int .i64 q_First, vq_L] :: Ow.own 184 20 erO vq_L q_L :: fr) h_2 := hS.perm2 [3, 2, 0, 1] 4 rfl rfl
  exact ⟨F_1, out_1, ps, q_Now, q_On, q_At, q_First, q_L, vout_1, vq_L, rfl, hK, hS, hN_3, hM⟩
def law22_QueryPlays_j2 (Q : Bool → Prop) (now_1 : Int) (i_1 : Int) (K_1 : (List (SV × List TrL)) → Int → (List (Str × Int)) → Int → (List (TA × (Nat × Nat) × TqL)) → Int → Bool → Int → Int → (List TrO) → Int → Int → Prop) (r_1_1 : Int) (ps_2 : List (SV × List TrL)) (q_0_2 : Int) (q_1_0_2 : List (Str × Int)) (q_2_2 : Int) (q_3_2 : List (TA × (Nat × Nat) × TqL)) (x_0_2 : Int) (x_1_2 : Bool) (x_2_2 : Int) (x_3_2 : Int) (x_4_2 : List TrO) : Prop :=
 query_Queries_Next_W q_0_2 q_1_0_2 q_2_2 q_3_2 (fun r0_3 r1_3 q_now_6 qm_11 q_first_6 qm_12 => ref22_Q_Next_W x_0_2 x_1_2 x_2_2 x_3_2 x_4_2 ps_2 (fun r0_4 r1_4 ps_8 => (¬ (r0_3 = r0_4) → Q false) ∧ (r0_3 = r0_4 → ((!(r1_3 == r1_4)) = true → Q false) ∧ ((!(r1_3 == r1_4)) = false → query_Queries_Open_W q_now_6 qm_11 q_first_6 qm_12 (fun r_11 q_now_7 qm_13 q_first_7 qm_14 => ref22_Q_Open_W x_0_2 x_1_2 x_2_2 x_3_2 x_4_2 ps_8 (fun r_12 ps_9 q_Now_6 q_On_6 q_At_6 q_First_6 q_L_5 => ref18_SameAsked_W r_11 r_12 (fun r_13 => ((!r_13) = true → Q false) ∧ ((!r_13) = false → (I64 (i_1 + 1)) ∧ (K_1 ps_9 q_now_7 qm_13 q_first_7 qm_14 q_Now_6 q_On_6 q_At_6 q_First_6 q_L_5 (now_1 + r_1_1) (i_1 + 1))))))))))
def law22_QueryPlays_j1 (t : T_api_Tune) (acts : List T_acequiaref22_Act) (Q : Bool → Prop) (ps_1 : List (SV × List TrL)) (q_0_1 : Int) (q_1_0_1 : List (Str × Int)) (q_2_1 : Int) (q_3_1 : List (TA × (Nat × Nat) × TqL)) (x_0_1 : Int) (x_1_1 : Bool) (x_2_1 : Int) (x_3_1 : Int) (x_4_1 : List TrO) (now_1 : Int) (i_1 : Int) (K_1 : (List (SV × List TrL)) → Int → (List (Str × Int)) → Int → (List (TA × (Nat × Nat) × TqL)) → Int → Bool → Int → Int → (List TrO) → Int → Int → Prop) (b_5 : Bool) : Prop :=
 (b_5 = true → ((0 : Int) ≤ i_1 ∧ i_1 < (acts.length : Int)) ∧ (law22_Act_W ((gi acts i_1).1) ((gi acts i_1).2.1) (((gi acts i_1).2.2).1) (((gi acts i_1).2.2).2.1) ((((gi acts i_1).2.2).2.2).2) (fun r_0_1 r_1_1 r_2_1 r_3_1 r_19_1 r_20_1 => (I64 (now_1 + r_1_1)) ∧ ((r_0_1 = 0 → query_Queries_Start_W q_0_1 q_1_0_1 q_2_1 q_3_1 (now_1 + r_1_1) t (fun q_now_1 qm_1 q_first_1 qm_2 => ref22_Q_Start_W x_0_1 x_1_1 x_2_1 x_3_1 x_4_1 (now_1 + r_1_1) t ps_1 (fun ps_3 q_Now_1 q_On_1 q_At_1 q_First_1 q_L_1 => law22_QueryPlays_j2 Q now_1 i_1 K_1 r_1_1 ps_3 q_now_1 qm_1 q_first_1 qm_2 q_Now_1 q_On_1 q_At_1 q_First_1 q_L_1))) ∧ (¬ (r_0_1 = 0) → (r_0_1 = 1 → query_Queries_Stop_W q_0_1 q_1_0_1 q_2_1 q_3_1 (fun q_now_2 qm_3 q_first_2 qm_4 => ref22_Q_Stop_W x_0_1 x_1_1 x_2_1 x_3_1 x_4_1 ps_1 (fun ps_4 q_Now_2 q_On_2 q_At_2 q_First_2 => law22_QueryPlays_j2 Q now_1 i_1 K_1 r_1_1 ps_4 q_now_2 qm_3 q_first_2 qm_4 q_Now_2 q_On_2 q_At_2 q_First_2 []))) ∧ (¬ (r_0_1 = 1) → (r_0_1 = 2 → law22_Act_W r_0_1 r_1_1 (r_2_1, r_3_1) r_19_1 r_20_1 (fun r_0_2 r_1_2 r_2_2 r_3_2 r_19_2 r_20_2 => query_Queries_Want_W q_0_1 q_1_0_1 q_2_1 q_3_1 (now_1 + r_1_1) t (r_2_2, r_3_2) r_19_2 r_20_2 (fun r_6 q_now_3 qm_5 q_first_3 qm_6 => ref22_Q_Want_W x_0_1 x_1_1 x_2_1 x_3_1 x_4_1 (now_1 + r_1_1) t (r_2_1, r_3_1) r_19_1 r_20_1 ps_1 (fun r_7 ps_5 q_Now_3 q_On_3 q_At_3 q_First_3 q_L_2 => ((!(r_6 == r_7)) = true → Q false) ∧ ((!(r_6 == r_7)) = false → law22_QueryPlays_j2 Q now_1 i_1 K_1 r_1_1 ps_5 q_now_3 qm_5 q_first_3 qm_6 q_Now_3 q_On_3 q_At_3 q_First_3 q_L_2))))) ∧ (¬ (r_0_1 = 2) → (r_0_1 = 3 → query_Queries_Cancel_W q_0_1 q_1_0_1 q_2_1 q_3_1 (r_2_1, r_3_1) (fun r_8 q_now_4 qm_7 q_first_4 qm_8 => ref22_Q_Cancel_W x_0_1 x_1_1 x_2_1 x_3_1 x_4_1 (r_2_1, r_3_1) ps_1 (fun r_9 ps_6 q_Now_4 q_On_4 q_At_4 q_First_4 q_L_3 => ((!(r_8 == r_9)) = true → Q false) ∧ ((!(r_8 == r_9)) = false → law22_QueryPlays_j2 Q now_1 i_1 K_1 r_1_1 ps_6 q_now_4 qm_7 q_first_4 qm_8 q_Now_4 q_On_4 q_At_4 q_First_4 q_L_3)))) ∧ (¬ (r_0_1 = 3) → query_Queries_Due_W q_0_1 q_1_0_1 q_2_1 q_3_1 (now_1 + r_1_1) t (fun r0_1 r1_1 q_now_5 qm_9 q_first_5 qm_10 => ref22_Q_Due_W x_0_1 x_1_1 x_2_1 x_3_1 x_4_1 (now_1 + r_1_1) t ps_1 (fun r0_2 r1_2 ps_7 q_Now_5 q_On_5 q_At_5 q_First_5 q_L_4 => ((!(r0_1 == r0_2)) = true → Q false) ∧ ((!(r0_1 == r0_2)) = false → ref18_SameAsked_W r1_1 r1_2 (fun r_10 => ((!r_10) = true → Q false) ∧ ((!r_10) = false → law22_QueryPlays_j2 Q now_1 i_1 K_1 r_1_1 ps_7 q_now_5 qm_9 q_first_5 qm_10 q_Now_5 q_On_5 q_At_5 q_First_5 q_L_4))))))))))))) ∧ (b_5 = false → law22_lives_W  (fun r_14 => Q r_14))
def law22_QueryPlays_l1 (t : T_api_Tune) (acts : List T_acequiaref22_Act) (Q : Bool → Prop) (K_1 : (List (SV × List TrL)) → Int → (List (Str × Int)) → Int → (List (TA × (Nat × Nat) × TqL)) → Int → Bool → Int → Int → (List TrO) → Int → Int → Prop) (ps_1 : List (SV × List TrL)) (q_0_1 : Int) (q_1_0_1 : List (Str × Int)) (q_2_1 : Int) (q_3_1 : List (TA × (Nat × Nat) × TqL)) (x_0_1 : Int) (x_1_1 : Bool) (x_2_1 : Int) (x_3_1 : Int) (x_4_1 : List TrO) (now_1 : Int) (i_1 : Int) : Prop :=
 (i_1 < (acts.length : Int) → law22_QueryPlays_j1 t acts Q ps_1 q_0_1 q_1_0_1 q_2_1 q_3_1 x_0_1 x_1_1 x_2_1 x_3_1 x_4_1 now_1 i_1 K_1 (decide (i_1 < 24))) ∧ (¬ (i_1 < (acts.length : Int)) → law22_QueryPlays_j1 t acts Q ps_1 q_0_1 q_1_0_1 q_2_1 q_3_1 x_0_1 x_1_1 x_2_1 x_3_1 x_4_1 now_1 i_1 K_1 false)
def law22_QueryPlays_W (t : T_api_Tune) (acts : List T_acequiaref22_Act) (Q : Bool → Prop) : Prop :=
 ref14_Good_W t (fun r_2 => ((!r_2) = true → law22_lives_W  (fun r_3 => Q r_3)) ∧ ((!r_2) = false → query_New_W  (loopW (fun (K_1 : ((List (SV × List TrL)) × Int × (List (Str × Int)) × Int × (List (TA × (Nat × Nat) × TqL)) × Int × Bool × Int × Int × List TrO × Int × Int) → Prop) (s : (List (SV × List TrL)) × Int × (List (Str × Int)) × Int × (List (TA × (Nat × Nat) × TqL)) × Int × Bool × Int × Int × List TrO × Int × Int) => law22_QueryPlays_l1 t acts Q (fun ps_1 q_0_1 q_1_0_1 q_2_1 q_3_1 x_0_1 x_1_1 x_2_1 x_3_1 x_4_1 now_1 i_1 => K_1 (ps_1, q_0_1, q_1_0_1, q_2_1, q_3_1, x_0_1, x_1_1, x_2_1, x_3_1, x_4_1, now_1, i_1)) s.1 s.2.1 s.2.2.1 s.2.2.2.1 s.2.2.2.2.1 s.2.2.2.2.2.1 s.2.2.2.2.2.2.1 s.2.2.2.2.2.2.2.1 s.2.2.2.2.2.2.2.2.1 s.2.2.2.2.2.2.2.2.2.1 s.2.2.2.2.2.2.2.2.2.2.1 s.2.2.2.2.2.2.2.2.2.2.2) (([] : List (SV × List TrL)), 0, [], 0, [], 0, false, 0, 0, [], 0, 0))))
theorem law22_QueryPlays_walk {F : Fz} {fr : List Ow} {h0 : Heap} (t : T_api_Tune) (acts : List T_acequiaref22_Act) (vacts : Value) (hS : St F (fr) h0) (hN_acts : NfL nf_acequiaref22_Act F h0 acts) (hL_acts : SliceF F h0 21 e_acequiaref22_Act vacts acts) (hD : DM.on = false) {Q : Bool → Prop} (hM : law22_QueryPlays_W t acts Q) :
  HC Tryz.prog 7 #[.agg (e_api_Tune t).toArray, vacts] h0 fun u h' => ∃ (F' : Fz) (r_1 : Bool), u = .bool r_1 ∧ Kp F h0 F' h' ∧ St F' (fr) h' ∧ (NfL nf_acequiaref22_Act F' h' acts) ∧ (SliceF F' h' 21 e_acequiaref22_Act vacts acts) ∧ Q r_1 := by
 unfold law22_QueryPlays_W at hM
 have hK := Kp.refl F h0
 refine HC.of_HW (n := 141) Tryz.func7 rfl rfl (Nat.le_of_ble_eq_true rfl) ?_
 replace hS := St.poolNil (α := TrL) hS 190 18 erL
 refine HW.seq ?_
 refine HW.region ?_
 refine HO.eff (want_none) rfl (st_box (c := (e_api_Tune t).toArray) (k' := 5) hS rfl rfl) ?_
 rintro _ h_1 ⟨b_1, rfl, hS, hk⟩
 replace hK := hK.trans hk
 replace hN_acts := hN_acts.kp hk
 replace hL_acts := hL_acts.kp hk
 refine oA (.bool false) rfl rfl ?_
 refine HO.nil (thenQ_normal (?_))
 refine HW.seq ?_
 refine HW.seq ?_
 refine HW.region ?_
 refine oV (.agg (e_api_Tune t).toArray) (q_loadAgg (cs := (e_api_Tune t)) ta_56 rfl rfl (Blk.cells (k := 5) (hS.box 0 rfl) rfl)) rfl ?_
 refine HO.call (want_none) rfl (ec en_39 rfl rfl) (ref14_Good_walk (fr := (Ow.box b_1 56 (e_api_Tune t).toArray :: Ow.pool 190 18 erL ([] : List (SV × List TrL)) :: fr)) t hS hM) ?_
 rintro _ h_2 ⟨F_1, r_2, rfl, hk, hS, hM⟩
 replace hK := hK.trans hk
 replace hN_acts := hN_acts.kp hk
 replace hL_acts := hL_acts.kp hk
 refine oV (.bool (!r_2)) (q_not rfl) rfl ?_
 refine HO.nil (thenQ_normal (?_))
 refine HW.cond (!r_2) rfl (fun c_1 => ?_) (fun c_1 => ?_)
 ·
  replace hM := hM.1 c_1
  refine HW.seq ?_
  refine HW.region ?_
  refine HO.call (want_none) rfl (ec en_40 rfl rfl) (law22_lives_walk (fr := (Ow.box b_1 56 (e_api_Tune t).toArray :: Ow.pool 190 18 erL ([] : List (SV × List TrL)) :: fr))  hS hM) ?_
  rintro _ h_3 ⟨F_2, r_3, rfl, hk, hS, hM⟩
  replace hK := hK.trans hk
  replace hN_acts := hN_acts.kp hk
  replace hL_acts := hL_acts.kp hk
  refine oA (.bool r_3) rfl rfl ?_
  refine HO.nil (thenQ_normal (?_))
  refine HW.ret (thenQ_ret (?_))
  refine ⟨.inr rfl, .bool r_3, res1 rfl (rt rfl), ?_⟩
  replace hS : St F_2 (fr) h_3 := hS.perm2 [] 2 rfl rfl
  exact ⟨F_2, r_3, rfl, hK, hS, hN_acts, hL_acts, hM⟩
 ·
  replace hM := hM.2 c_1
  refine HW.skip (thenQ_normal (?_))
  refine HW.seq ?_
  refine HW.region ?_
  refine HO.call (want_none) rfl (ec en_41 rfl rfl) (query_New_walk (fr := (Ow.box b_1 56 (e_api_Tune t).toArray :: Ow.pool 190 18 erL ([] : List (SV × List TrL)) :: fr))  hS hM) ?_
  rintro _ h_4 ⟨F_3, b_2, b_3, r_4, r_5, rfl, hk, hS, hM⟩
  replace hK := hK.trans hk
  replace hN_acts := hN_acts.kp hk
  replace hL_acts := hL_acts.kp hk
  refine oV (.agg #[.int .i64 0, .bool false, .int .i64 0, .int .i64 0, .slice none 0 0]) (q_build tp_95 rfl) rfl ?_
  refine HO.eff (want_none) rfl (st_box (c := #[.int .i64 0, .bool false, .int .i64 0, .int .i64 0, .slice none 0 0]) (k' := 5) hS rfl rfl) ?_
  rintro _ h_5 ⟨b_4, rfl, hS, hk⟩
  replace hK := hK.trans hk
  replace hN_acts := hN_acts.kp hk
  replace hL_acts := hL_acts.kp hk
  refine oA (.pointer (some ⟨b_2, 0, none⟩)) rfl rfl ?_
  refine oA (.pointer (some ⟨b_4, 0, none⟩)) rfl rfl ?_
  refine oA (.int .i64 0) rfl rfl ?_
  refine HO.nil (thenQ_normal (?_))
  refine HW.seq ?_
  refine HW.seq ?_
  refine HW.region ?_
  refine oA (.int .i64 0) rfl rfl ?_
  refine HO.nil (thenQ_normal (?_))
  refine HW.block ?_
  obtain ⟨I_1, m_1, hI_1, hR_1⟩ := hM
  replace hS := hS.nilOwn 184 20 erO
  replace hS : St F_3 (Ow.pool 190 18 erL ([] : List (SV × List TrL)) :: Ow.box b_1 56 (e_api_Tune t).toArray :: Ow.box b_2 167 #[.int .i64 0, .pointer (some ⟨b_3, 0, none⟩), .int .i64 0, .map (some r_5)] :: Ow.box b_3 222 #[.map (some r_4)] :: Ow.map r_4 kT kI ([] : List (Str × Int)) :: Ow.pm r_5 (fun (x : TA) => .agg (eA x).toArray) pv_query_left th_query_left ([] : List (TA × (Nat × Nat) × TqL)) none :: Ow.box b_4 95 #[.int .i64 0, .bool false, .int .i64 0, .int .i64 0, .slice none 0 0] :: Ow.own 184 20 erO (.slice none 0 0) ([] : List TrO) :: fr) h_5 := hS.perm2 [7, 6, 2, 3, 4, 5, 1, 0] 8 rfl rfl
  refine HW.loop (S := (List (SV × List TrL)) × Int × (List (Str × Int)) × Int × (List (TA × (Nat × Nat) × TqL)) × Int × Bool × Int × Int × List TrO × Int × Int) (fun s f h => match s with | (ps_1, q_0_1, q_1_0_1, q_2_1, q_3_1, x_0_1, x_1_1, x_2_1, x_3_1, x_4_1, now_1, i_1) => ∃ (F' : Fz) (vx_4_1 : Value), f 1 = vacts ∧ f 2 = .pointer (some ⟨b_1, 0, none⟩) ∧ f 4 = .bool false ∧ f 5 = .pointer (some ⟨b_2, 0, none⟩) ∧ f 6 = .pointer (some ⟨b_4, 0, none⟩) ∧ f 7 = .int .i64 now_1 ∧ f 8 = .int .i64 i_1 ∧ Kp F h0 F' h ∧ St F' (Ow.pool 190 18 erL ps_1 :: Ow.box b_1 56 (e_api_Tune t).toArray :: Ow.box b_2 167 #[.int .i64 q_0_1, .pointer (some ⟨b_3, 0, none⟩), .int .i64 q_2_1, .map (some r_5)] :: Ow.box b_3 222 #[.map (some r_4)] :: Ow.map r_4 kT kI q_1_0_1 :: Ow.pm r_5 (fun (x : TA) => .agg (eA x).toArray) pv_query_left th_query_left q_3_1 none :: Ow.box b_4 95 #[.int .i64 x_0_1, .bool x_1_1, .int .i64 x_2_1, .int .i64 x_3_1, vx_4_1] :: Ow.own 184 20 erO vx_4_1 x_4_1 :: fr) h ∧ (NfL nf_acequiaref22_Act F' h acts) ∧ (SliceF F' h 21 e_acequiaref22_Act vacts acts) ∧ I_1 (ps_1, q_0_1, q_1_0_1, q_2_1, q_3_1, x_0_1, x_1_1, x_2_1, x_3_1, x_4_1, now_1, i_1)) m_1 (([] : List (SV × List TrL)), 0, [], 0, [], 0, false, 0, 0, [], 0, 0) ⟨F_3, .slice none 0 0, rfl, rfl, rfl, rfl, rfl, rfl, rfl, hK, hS, hN_acts, hL_acts, hI_1⟩ ?_
  rintro ⟨ps_1, q_0_1, q_1_0_1, q_2_1, q_3_1, x_0_1, x_1_1, x_2_1, x_3_1, x_4_1, now_1, i_1⟩ f_1 h_6 ⟨F_4, vx_4_1, e1, e2, e4, e5, e6, e7, e8, hK, hS, hN_acts, hL_acts, hI0⟩
  obtain ⟨K_1, hKe_1⟩ : ∃ K : (List (SV × List TrL)) → Int → (List (Str × Int)) → Int → (List (TA × (Nat × Nat) × TqL)) → Int → Bool → Int → Int → (List TrO) → Int → Int → Prop, K = fun ps_1' q_0_1' q_1_0_1' q_2_1' q_3_1' x_0_1' x_1_1' x_2_1' x_3_1' x_4_1' now_1' i_1' => I_1 (ps_1', q_0_1', q_1_0_1', q_2_1', q_3_1', x_0_1', x_1_1', x_2_1', x_3_1', x_4_1', now_1', i_1') ∧ m_1 (ps_1', q_0_1', q_1_0_1', q_2_1', q_3_1', x_0_1', x_1_1', x_2_1', x_3_1', x_4_1', now_1', i_1') < m_1 (ps_1, q_0_1, q_1_0_1, q_2_1, q_3_1, x_0_1, x_1_1, x_2_1, x_3_1, x_4_1, now_1, i_1) := ⟨_, rfl⟩
  have hM : law22_QueryPlays_l1 t acts Q K_1 ps_1 q_0_1 q_1_0_1 q_2_1 q_3_1 x_0_1 x_1_1 x_2_1 x_3_1 x_4_1 now_1 i_1 := by rw [hKe_1]; exact hR_1 (ps_1, q_0_1, q_1_0_1, q_2_1, q_3_1, x_0_1, x_1_1, x_2_1, x_3_1, x_4_1, now_1, i_1) hI0
  unfold law22_QueryPlays_l1 at hM
  refine HW.fr [(1, vacts), (2, .pointer (some ⟨b_1, 0, none⟩)), (4, .bool false), (5, .pointer (some ⟨b_2, 0, none⟩)), (6, .pointer (some ⟨b_4, 0, none⟩)), (7, .int .i64 now_1), (8, .int .i64 i_1)] ⟨e1, e2, e4, e5, e6, e7, e8, trivial⟩ ?_
  refine HW.seq ?_
  refine HW.seq_mid (fun f h => ∃ (F' : Fz) (b_5 : Bool), f 1 = vacts ∧ f 2 = .pointer (some ⟨b_1, 0, none⟩) ∧ f 4 = .bool false ∧ f 5 = .pointer (some ⟨b_2, 0, none⟩) ∧ f 6 = .pointer (some ⟨b_4, 0, none⟩) ∧ f 7 = .int .i64 now_1 ∧ f 8 = .int .i64 i_1 ∧ f 32 = .bool b_5 ∧ Kp F h0 F' h ∧ St F' (Ow.pool 190 18 erL ps_1 :: Ow.box b_1 56 (e_api_Tune t).toArray :: Ow.box b_2 167 #[.int .i64 q_0_1, .pointer (some ⟨b_3, 0, none⟩), .int .i64 q_2_1, .map (some r_5)] :: Ow.box b_3 222 #[.map (some r_4)] :: Ow.map r_4 kT kI q_1_0_1 :: Ow.pm r_5 (fun (x : TA) => .agg (eA x).toArray) pv_query_left th_query_left q_3_1 none :: Ow.box b_4 95 #[.int .i64 x_0_1, .bool x_1_1, .int .i64 x_2_1, .int .i64 x_3_1, vx_4_1] :: Ow.own 184 20 erO vx_4_1 x_4_1 :: fr) h ∧ (NfL nf_acequiaref22_Act F' h acts) ∧ (SliceF F' h 21 e_acequiaref22_Act vacts acts) ∧ law22_QueryPlays_j1 t acts Q ps_1 q_0_1 q_1_0_1 q_2_1 q_3_1 x_0_1 x_1_1 x_2_1 x_3_1 x_4_1 now_1 i_1 K_1 b_5) ?_ ?_
  ·
   refine HW.region ?_
   refine oM (.int .i64 i_1) rfl rfl ?_
   refine oM (vacts) rfl rfl ?_
   refine oV (.int .i64 (acts.length : Int)) (q_len ts_88 (shp hL_acts.is) rfl rfl) rfl ?_
   refine oV (.bool (decide (i_1 < (acts.length : Int)))) (q_lss rfl rfl) rfl ?_
   refine oM (.bool (decide (i_1 < (acts.length : Int)))) rfl rfl ?_
   rcases Bool.eq_false_or_eq_true (decide (i_1 < (acts.length : Int))) with c_2 | c_2
   ·
    replace hM := hM.1 (of_decide_eq_true c_2)
    refine HO.val (v := .int .i64 i_1) (want_by rfl rfl c_2) rfl (q_move rfl) ?_
    refine HO.val (v := .bool (decide (i_1 < 24))) (want_by rfl rfl c_2) rfl (q_lss rfl rfl) ?_
    refine oV (.bool (decide (i_1 < 24))) (q_pickK true rfl c_2 rfl) rfl ?_
    refine HO.nil (thenQ_normal (?_))
    exact ⟨F_4, decide (i_1 < 24), rfl, rfl, rfl, rfl, rfl, rfl, rfl, rfl, hK, hS, hN_acts, hL_acts, hM⟩
   ·
    replace hM := hM.2 (of_decide_eq_false c_2)
    refine HO.past (past_by rfl rfl c_2) rfl ?_
    refine HO.past (past_by rfl rfl c_2) rfl ?_
    refine oV (.bool false) (q_pickK false rfl c_2 rfl) rfl ?_
    refine HO.nil (thenQ_normal (?_))
    exact ⟨F_4, false, rfl, rfl, rfl, rfl, rfl, rfl, rfl, rfl, hK, hS, hN_acts, hL_acts, hM⟩
  ·
   rintro f_2 h_7 ⟨F_5, b_5, e1, e2, e4, e5, e6, e7, e8, e32, hK, hS, hN_acts, hL_acts, hM⟩
   unfold law22_QueryPlays_j1 at hM
   refine HW.fr [(1, vacts), (2, .pointer (some ⟨b_1, 0, none⟩)), (4, .bool false), (5, .pointer (some ⟨b_2, 0, none⟩)), (6, .pointer (some ⟨b_4, 0, none⟩)), (7, .int .i64 now_1), (8, .int .i64 i_1), (32, .bool b_5)] ⟨e1, e2, e4, e5, e6, e7, e8, e32, trivial⟩ ?_
   refine HW.cond b_5 rfl (fun c_3 => ?_) (fun c_3 => ?_)
   ·
    replace hM := hM.1 c_3
    refine HW.skip (thenQ_normal (?_))
    refine HW.seq ?_
    refine HW.block ?_
    refine HW.seq ?_
    refine HW.region ?_
    refine oM (vacts) rfl rfl ?_
    refine oM (.int .i64 i_1) rfl rfl ?_
    obtain ⟨ho_1, hM⟩ := hM
    refine oV (elemPtr 21 vacts (i_1).toNat) (q_idx ts_88 hL_acts.is rfl rfl ho_1) rfl ?_
    refine oV (.agg (c_acequiaref22_Act (.int .i64 ((gi acts i_1).1)) (.int .i64 ((gi acts i_1).2.1)) (((gi acts i_1).2.2).1) (.bool (((gi acts i_1).2.2).2.1)) ((((gi acts i_1).2.2).2.2).1)).toArray) (q_ldElemAgg (cs := (c_acequiaref22_Act (.int .i64 ((gi acts i_1).1)) (.int .i64 ((gi acts i_1).2.1)) (((gi acts i_1).2.2).1) (.bool (((gi acts i_1).2.2).2.1)) ((((gi acts i_1).2.2).2.2).1))) ta_99 hL_acts.is rfl ho_1 rfl) rfl ?_
    refine HO.call (want_none) rfl (ec en_42 rfl rfl) (law22_Act_walk (fr := (Ow.pool 190 18 erL ps_1 :: Ow.box b_1 56 (e_api_Tune t).toArray :: Ow.box b_2 167 #[.int .i64 q_0_1, .pointer (some ⟨b_3, 0, none⟩), .int .i64 q_2_1, .map (some r_5)] :: Ow.box b_3 222 #[.map (some r_4)] :: Ow.map r_4 kT kI q_1_0_1 :: Ow.pm r_5 (fun (x : TA) => .agg (eA x).toArray) pv_query_left th_query_left q_3_1 none :: Ow.box b_4 95 #[.int .i64 x_0_1, .bool x_1_1, .int .i64 x_2_1, .int .i64 x_3_1, vx_4_1] :: Ow.own 184 20 erO vx_4_1 x_4_1 :: fr)) ((gi acts i_1).1) ((gi acts i_1).2.1) (((gi acts i_1).2.2).1) (((gi acts i_1).2.2).2.1) ((((gi acts i_1).2.2).2.2).2) ((((gi acts i_1).2.2).2.2).1) hS (nff_acequiaref22_Act_20 (NfL.at hN_acts ho_1)) hM) ?_
    rintro _ h_8 ⟨F_6, r_0_1, r_1_1, r_2_1, r_3_1, r_19_1, r_20_1, vr_20_1, rfl, hk, hS, _, hM⟩
    replace hK := hK.trans hk
    replace hN_acts := hN_acts.kp hk
    replace hL_acts := hL_acts.kp hk
    refine HO.eff (want_none) rfl (st_alloc (c := (c_acequiaref22_Act (.int .i64 0) (.int .i64 0) (false, (default : Ba 16)) (.bool false) (.slice none 0 0)).toArray) hS tz_99 rfl) ?_
    rintro _ h_9 ⟨b_6, rfl, hS, hk⟩
    replace hK := hK.trans hk
    replace hN_acts := hN_acts.kp hk
    replace hL_acts := hL_acts.kp hk
    refine HO.sto (want_none) rfl (st_storeAgg (c' := (c_acequiaref22_Act (.int .i64 r_0_1) (.int .i64 r_1_1) (r_2_1, r_3_1) (.bool r_19_1) vr_20_1).toArray) hS (i := 0) rfl ta_99 rfl rfl rfl (List.forall_mem_cons.2 ⟨rfl, (List.forall_mem_cons.2 ⟨rfl, (List.forall_mem_cons.2 ⟨rfl, (List.forall_mem_cons.2 ⟨rfl, (List.forall_mem_cons.2 ⟨rfl, (List.forall_mem_cons.2 ⟨rfl, (List.forall_mem_cons.2 ⟨rfl, (List.forall_mem_cons.2 ⟨rfl, (List.forall_mem_cons.2 ⟨rfl, (List.forall_mem_cons.2 ⟨rfl, (List.forall_mem_cons.2 ⟨rfl, (List.forall_mem_cons.2 ⟨rfl, (List.forall_mem_cons.2 ⟨rfl, (List.forall_mem_cons.2 ⟨rfl, (List.forall_mem_cons.2 ⟨rfl, (List.forall_mem_cons.2 ⟨rfl, (List.forall_mem_cons.2 ⟨rfl, (List.forall_mem_cons.2 ⟨rfl, (List.forall_mem_cons.2 ⟨rfl, (List.forall_mem_cons.2 ⟨rfl, (List.forall_mem_cons.2 ⟨(shp (hS.own 1 rfl).slice).one, (fun _ h => by cases h)⟩)⟩)⟩)⟩)⟩)⟩)⟩)⟩)⟩)⟩)⟩)⟩)⟩)⟩)⟩)⟩)⟩)⟩)⟩)⟩)⟩) (Nat.le_of_ble_eq_true rfl) rfl) ?_
    rintro h_10 ⟨hS, hk⟩
    replace hK := hK.trans hk
    replace hN_acts := hN_acts.kp hk
    replace hL_acts := hL_acts.kp hk
    refine HO.nil (thenQ_normal (?_))
    refine HW.seq ?_
    refine HW.region ?_
    refine oM (.int .i64 now_1) rfl rfl ?_
    refine oV (.pointer (some ⟨b_6, 1, none⟩)) (q_fieldAddr fa_99_1 rfl rfl) rfl ?_
    refine oV (.int .i64 r_1_1) (q_load to_3 rfl (Blk.cell (hS.box 0 rfl) rfl)) rfl ?_
    obtain ⟨ho_2, hM⟩ := hM
    refine oV (.int .i64 (now_1 + r_1_1)) (q_addN _ rfl rfl rfl ho_2.1 ho_2.2) rfl ?_
    refine oA (.int .i64 (now_1 + r_1_1)) rfl rfl ?_
    refine HO.nil (thenQ_normal (?_))
    refine HW.seq_mid (fun f h => ∃ (F' : Fz) (ps_2 : List (SV × List TrL)) (q_0_2 : Int) (q_1_0_2 : List (Str × Int)) (q_2_2 : Int) (q_3_2 : List (TA × (Nat × Nat) × TqL)) (x_0_2 : Int) (x_1_2 : Bool) (x_2_2 : Int) (x_3_2 : Int) (x_4_2 : List TrO) (vx_4_2 : Value), f 1 = vacts ∧ f 2 = .pointer (some ⟨b_1, 0, none⟩) ∧ f 4 = .bool false ∧ f 5 = .pointer (some ⟨b_2, 0, none⟩) ∧ f 6 = .pointer (some ⟨b_4, 0, none⟩) ∧ f 7 = .int .i64 (now_1 + r_1_1) ∧ f 8 = .int .i64 i_1 ∧ Kp F h0 F' h ∧ St F' (Ow.pool 190 18 erL ps_2 :: Ow.box b_1 56 (e_api_Tune t).toArray :: Ow.box b_2 167 #[.int .i64 q_0_2, .pointer (some ⟨b_3, 0, none⟩), .int .i64 q_2_2, .map (some r_5)] :: Ow.box b_3 222 #[.map (some r_4)] :: Ow.map r_4 kT kI q_1_0_2 :: Ow.pm r_5 (fun (x : TA) => .agg (eA x).toArray) pv_query_left th_query_left q_3_2 none :: Ow.box b_4 95 #[.int .i64 x_0_2, .bool x_1_2, .int .i64 x_2_2, .int .i64 x_3_2, vx_4_2] :: Ow.own 184 20 erO vx_4_2 x_4_2 :: fr) h ∧ (NfL nf_acequiaref22_Act F' h acts) ∧ (SliceF F' h 21 e_acequiaref22_Act vacts acts) ∧ law22_QueryPlays_j2 Q now_1 i_1 K_1 r_1_1 ps_2 q_0_2 q_1_0_2 q_2_2 q_3_2 x_0_2 x_1_2 x_2_2 x_3_2 x_4_2) ?_ ?_
    ·
     refine HW.seq ?_
     refine HW.region ?_
     refine oV (.pointer (some ⟨b_6, 0, none⟩)) (q_fieldAddr fa_99_0 rfl rfl) rfl ?_
     refine oV (.int .i64 r_0_1) (q_load to_3 rfl (Blk.cell (hS.box 0 rfl) rfl)) rfl ?_
     refine HO.nil (thenQ_normal (?_))
     refine HW.block ?_
     refine HW.seq ?_
     refine HW.region ?_
     refine oV (.bool (decide (r_0_1 = 0))) (q_eql rfl rfl) rfl ?_
     refine oA (.bool (decide (r_0_1 = 0))) rfl rfl ?_
     refine HO.nil (thenQ_normal (?_))
     refine HW.cond (decide (r_0_1 = 0)) rfl (fun c_4 => ?_) (fun c_4 => ?_)
     ·
      replace hM := hM.1 (of_decide_eq_true c_4)
      refine HW.seq ?_
      refine HW.region ?_
      refine oM (.pointer (some ⟨b_2, 0, none⟩)) rfl rfl ?_
      refine oM (.int .i64 (now_1 + r_1_1)) rfl rfl ?_
      refine oV (.agg (e_api_Tune t).toArray) (q_loadAgg (cs := (e_api_Tune t)) ta_56 rfl rfl (Blk.cells (k := 5) (hS.box 3 rfl) rfl)) rfl ?_
      replace hS : St F_6 (Ow.box b_2 167 #[.int .i64 q_0_1, .pointer (some ⟨b_3, 0, none⟩), .int .i64 q_2_1, .map (some r_5)] :: Ow.box b_3 222 #[.map (some r_4)] :: Ow.map r_4 kT kI q_1_0_1 :: Ow.pm r_5 (fun (x : TA) => .agg (eA x).toArray) pv_query_left th_query_left q_3_1 none :: Ow.box b_6 99 (c_acequiaref22_Act (.int .i64 r_0_1) (.int .i64 r_1_1) (r_2_1, r_3_1) (.bool r_19_1) vr_20_1).toArray :: Ow.own 28 17 eA vr_20_1 r_20_1 :: Ow.pool 190 18 erL ps_1 :: Ow.box b_1 56 (e_api_Tune t).toArray :: Ow.box b_4 95 #[.int .i64 x_0_1, .bool x_1_1, .int .i64 x_2_1, .int .i64 x_3_1, vx_4_1] :: Ow.own 184 20 erO vx_4_1 x_4_1 :: fr) h_10 := hS.perm2 [4, 5, 6, 7, 0, 1, 2, 3, 8, 9] 10 rfl rfl
      refine HO.call (want_none) rfl (ec en_43 rfl rfl) (query_Queries_Start_walk (fr := (Ow.box b_6 99 (c_acequiaref22_Act (.int .i64 r_0_1) (.int .i64 r_1_1) (r_2_1, r_3_1) (.bool r_19_1) vr_20_1).toArray :: Ow.own 28 17 eA vr_20_1 r_20_1 :: Ow.pool 190 18 erL ps_1 :: Ow.box b_1 56 (e_api_Tune t).toArray :: Ow.box b_4 95 #[.int .i64 x_0_1, .bool x_1_1, .int .i64 x_2_1, .int .i64 x_3_1, vx_4_1] :: Ow.own 184 20 erO vx_4_1 x_4_1 :: fr)) q_0_1 q_1_0_1 q_2_1 q_3_1 (now_1 + r_1_1) t b_2 b_3 r_4 r_5 hS hM) ?_
      rintro _ h_11 ⟨F_7, q_now_1, qm_1, q_first_1, qm_2, rfl, hk, hS, hM⟩
      replace hK := hK.trans hk
      replace hN_acts := hN_acts.kp hk
      replace hL_acts := hL_acts.kp hk
      refine HO.nil (thenQ_normal (?_))
      refine HW.region ?_
      refine oM (.pointer (some ⟨b_4, 0, none⟩)) rfl rfl ?_
      refine oM (.int .i64 (now_1 + r_1_1)) rfl rfl ?_
      refine oV (.agg (e_api_Tune t).toArray) (q_loadAgg (cs := (e_api_Tune t)) ta_56 rfl rfl (Blk.cells (k := 5) (hS.box 7 rfl) rfl)) rfl ?_
      replace hS : St F_7 (Ow.box b_4 95 #[.int .i64 x_0_1, .bool x_1_1, .int .i64 x_2_1, .int .i64 x_3_1, vx_4_1] :: Ow.own 184 20 erO vx_4_1 x_4_1 :: Ow.pool 190 18 erL ps_1 :: Ow.box b_2 167 #[.int .i64 q_now_1, .pointer (some ⟨b_3, 0, none⟩), .int .i64 q_first_1, .map (some r_5)] :: Ow.box b_3 222 #[.map (some r_4)] :: Ow.map r_4 kT kI qm_1 :: Ow.pm r_5 (fun (x : TA) => .agg (eA x).toArray) pv_query_left th_query_left qm_2 none :: Ow.box b_6 99 (c_acequiaref22_Act (.int .i64 r_0_1) (.int .i64 r_1_1) (r_2_1, r_3_1) (.bool r_19_1) vr_20_1).toArray :: Ow.own 28 17 eA vr_20_1 r_20_1 :: Ow.box b_1 56 (e_api_Tune t).toArray :: fr) h_11 := hS.perm2 [8, 9, 6, 0, 1, 2, 3, 4, 5, 7] 10 rfl rfl
      refine HO.call (want_none) rfl (ec en_44 rfl rfl) (ref22_Q_Start_walk (fr := (Ow.box b_2 167 #[.int .i64 q_now_1, .pointer (some ⟨b_3, 0, none⟩), .int .i64 q_first_1, .map (some r_5)] :: Ow.box b_3 222 #[.map (some r_4)] :: Ow.map r_4 kT kI qm_1 :: Ow.pm r_5 (fun (x : TA) => .agg (eA x).toArray) pv_query_left th_query_left qm_2 none :: Ow.box b_6 99 (c_acequiaref22_Act (.int .i64 r_0_1) (.int .i64 r_1_1) (r_2_1, r_3_1) (.bool r_19_1) vr_20_1).toArray :: Ow.own 28 17 eA vr_20_1 r_20_1 :: Ow.box b_1 56 (e_api_Tune t).toArray :: fr)) x_0_1 x_1_1 x_2_1 x_3_1 x_4_1 (now_1 + r_1_1) t ps_1 b_4 vx_4_1 hS hM) ?_
      rintro _ h_12 ⟨F_8, ps_3, q_Now_1, q_On_1, q_At_1, q_First_1, q_L_1, v_1, rfl, hk, hS, hM⟩
      replace hK := hK.trans hk
      replace hN_acts := hN_acts.kp hk
      replace hL_acts := hL_acts.kp hk
      refine HO.nil (blockQ_normal (thenQ_normal (?_)))
      replace hS : St F_8 (Ow.pool 190 18 erL ps_3 :: Ow.box b_1 56 (e_api_Tune t).toArray :: Ow.box b_2 167 #[.int .i64 q_now_1, .pointer (some ⟨b_3, 0, none⟩), .int .i64 q_first_1, .map (some r_5)] :: Ow.box b_3 222 #[.map (some r_4)] :: Ow.map r_4 kT kI qm_1 :: Ow.pm r_5 (fun (x : TA) => .agg (eA x).toArray) pv_query_left th_query_left qm_2 none :: Ow.box b_4 95 #[.int .i64 q_Now_1, .bool q_On_1, .int .i64 q_At_1, .int .i64 q_First_1, v_1] :: Ow.own 184 20 erO v_1 q_L_1 :: fr) h_12 := hS.perm2 [0, 9, 3, 4, 5, 6, 1, 2] 10 rfl rfl
      exact ⟨F_8, ps_3, q_now_1, qm_1, q_first_1, qm_2, q_Now_1, q_On_1, q_At_1, q_First_1, q_L_1, v_1, rfl, rfl, rfl, rfl, rfl, rfl, rfl, hK, hS, hN_acts, hL_acts, hM⟩
     ·
      replace hM := hM.2 (of_decide_eq_false c_4)
      refine HW.seq ?_
      refine HW.region ?_
      refine oV (.bool (decide (r_0_1 = 1))) (q_eql rfl rfl) rfl ?_
      refine oA (.bool (decide (r_0_1 = 1))) rfl rfl ?_
      refine HO.nil (thenQ_normal (?_))
      refine HW.cond (decide (r_0_1 = 1)) rfl (fun c_5 => ?_) (fun c_5 => ?_)
      ·
       replace hM := hM.1 (of_decide_eq_true c_5)
       refine HW.seq ?_
       refine HW.region ?_
       refine oM (.pointer (some ⟨b_2, 0, none⟩)) rfl rfl ?_
       replace hS : St F_6 (Ow.box b_2 167 #[.int .i64 q_0_1, .pointer (some ⟨b_3, 0, none⟩), .int .i64 q_2_1, .map (some r_5)] :: Ow.box b_3 222 #[.map (some r_4)] :: Ow.map r_4 kT kI q_1_0_1 :: Ow.pm r_5 (fun (x : TA) => .agg (eA x).toArray) pv_query_left th_query_left q_3_1 none :: Ow.box b_6 99 (c_acequiaref22_Act (.int .i64 r_0_1) (.int .i64 r_1_1) (r_2_1, r_3_1) (.bool r_19_1) vr_20_1).toArray :: Ow.own 28 17 eA vr_20_1 r_20_1 :: Ow.pool 190 18 erL ps_1 :: Ow.box b_1 56 (e_api_Tune t).toArray :: Ow.box b_4 95 #[.int .i64 x_0_1, .bool x_1_1, .int .i64 x_2_1, .int .i64 x_3_1, vx_4_1] :: Ow.own 184 20 erO vx_4_1 x_4_1 :: fr) h_10 := hS.perm2 [4, 5, 6, 7, 0, 1, 2, 3, 8, 9] 10 rfl rfl
       refine HO.call (want_none) rfl (ec en_45 rfl rfl) (query_Queries_Stop_walk (fr := (Ow.box b_6 99 (c_acequiaref22_Act (.int .i64 r_0_1) (.int .i64 r_1_1) (r_2_1, r_3_1) (.bool r_19_1) vr_20_1).toArray :: Ow.own 28 17 eA vr_20_1 r_20_1 :: Ow.pool 190 18 erL ps_1 :: Ow.box b_1 56 (e_api_Tune t).toArray :: Ow.box b_4 95 #[.int .i64 x_0_1, .bool x_1_1, .int .i64 x_2_1, .int .i64 x_3_1, vx_4_1] :: Ow.own 184 20 erO vx_4_1 x_4_1 :: fr)) q_0_1 q_1_0_1 q_2_1 q_3_1 b_2 b_3 r_4 r_5 hS hD hM) ?_
       rintro _ h_13 ⟨F_9, q_now_2, qm_3, q_first_2, qm_4, rfl, hk, hS, hM⟩
       replace hK := hK.trans hk
       replace hN_acts := hN_acts.kp hk
       replace hL_acts := hL_acts.kp hk
       refine HO.nil (thenQ_normal (?_))
       refine HW.region ?_
       refine oM (.pointer (some ⟨b_4, 0, none⟩)) rfl rfl ?_
       replace hS : St F_9 (Ow.box b_4 95 #[.int .i64 x_0_1, .bool x_1_1, .int .i64 x_2_1, .int .i64 x_3_1, vx_4_1] :: Ow.own 184 20 erO vx_4_1 x_4_1 :: Ow.pool 190 18 erL ps_1 :: Ow.box b_2 167 #[.int .i64 q_now_2, .pointer (some ⟨b_3, 0, none⟩), .int .i64 q_first_2, .map (some r_5)] :: Ow.box b_3 222 #[.map (some r_4)] :: Ow.map r_4 kT kI qm_3 :: Ow.pm r_5 (fun (x : TA) => .agg (eA x).toArray) pv_query_left th_query_left qm_4 none :: Ow.box b_6 99 (c_acequiaref22_Act (.int .i64 r_0_1) (.int .i64 r_1_1) (r_2_1, r_3_1) (.bool r_19_1) vr_20_1).toArray :: Ow.own 28 17 eA vr_20_1 r_20_1 :: Ow.box b_1 56 (e_api_Tune t).toArray :: fr) h_13 := hS.perm2 [8, 9, 6, 0, 1, 2, 3, 4, 5, 7] 10 rfl rfl
       refine HO.call (want_none) rfl (ec en_46 rfl rfl) (ref22_Q_Stop_walk (fr := (Ow.box b_2 167 #[.int .i64 q_now_2, .pointer (some ⟨b_3, 0, none⟩), .int .i64 q_first_2, .map (some r_5)] :: Ow.box b_3 222 #[.map (some r_4)] :: Ow.map r_4 kT kI qm_3 :: Ow.pm r_5 (fun (x : TA) => .agg (eA x).toArray) pv_query_left th_query_left qm_4 none :: Ow.box b_6 99 (c_acequiaref22_Act (.int .i64 r_0_1) (.int .i64 r_1_1) (r_2_1, r_3_1) (.bool r_19_1) vr_20_1).toArray :: Ow.own 28 17 eA vr_20_1 r_20_1 :: Ow.box b_1 56 (e_api_Tune t).toArray :: fr)) x_0_1 x_1_1 x_2_1 x_3_1 x_4_1 ps_1 b_4 vx_4_1 hS hM) ?_
       rintro _ h_14 ⟨F_10, ps_4, q_Now_2, q_On_2, q_At_2, q_First_2, rfl, hk, hS, hM⟩
       replace hK := hK.trans hk
       replace hN_acts := hN_acts.kp hk
       replace hL_acts := hL_acts.kp hk
       refine HO.nil (blockQ_normal (thenQ_normal (?_)))
       replace hS := hS.nilOwn 184 20 erO
       replace hS : St F_10 (Ow.pool 190 18 erL ps_4 :: Ow.box b_1 56 (e_api_Tune t).toArray :: Ow.box b_2 167 #[.int .i64 q_now_2, .pointer (some ⟨b_3, 0, none⟩), .int .i64 q_first_2, .map (some r_5)] :: Ow.box b_3 222 #[.map (some r_4)] :: Ow.map r_4 kT kI qm_3 :: Ow.pm r_5 (fun (x : TA) => .agg (eA x).toArray) pv_query_left th_query_left qm_4 none :: Ow.box b_4 95 #[.int .i64 q_Now_2, .bool q_On_2, .int .i64 q_At_2, .int .i64 q_First_2, .slice none 0 0] :: Ow.own 184 20 erO (.slice none 0 0) ([] : List TrO) :: fr) h_14 := hS.perm2 [1, 9, 3, 4, 5, 6, 2, 0] 10 rfl rfl
       exact ⟨F_10, ps_4, q_now_2, qm_3, q_first_2, qm_4, q_Now_2, q_On_2, q_At_2, q_First_2, [], .slice none 0 0, rfl, rfl, rfl, rfl, rfl, rfl, rfl, hK, hS, hN_acts, hL_acts, hM⟩
      ·
       replace hM := hM.2 (of_decide_eq_false c_5)
       refine HW.seq ?_
       refine HW.region ?_
       refine oV (.bool (decide (r_0_1 = 2))) (q_eql rfl rfl) rfl ?_
       refine oA (.bool (decide (r_0_1 = 2))) rfl rfl ?_
       refine HO.nil (thenQ_normal (?_))
       refine HW.cond (decide (r_0_1 = 2)) rfl (fun c_6 => ?_) (fun c_6 => ?_)
       ·
        replace hM := hM.1 (of_decide_eq_true c_6)
        refine HW.seq ?_
        refine HW.regionA 14 mixed (fun h => (Blk h b_6 (.cells (c_acequiaref22_Act (.int .i64 r_0_1) (.int .i64 r_1_1) (r_2_1, r_3_1) (.bool r_19_1) vr_20_1).toArray 99 (0, 0))) ∧ (Blk h b_1 (.cells (e_api_Tune t).toArray 56 (0, 0)))) [] (by kernel_rfl) ?_
        refine HA.val (k := 0) (v := .pointer (some ⟨b_2, 0, none⟩)) rfl rfl (by kernel_rfl) (by kernel_rfl) (want_none) rfl (fun _ ⟨c376, c368⟩ => q_move rfl) ?_
        refine HA.val (k := 1) (v := .int .i64 (now_1 + r_1_1)) rfl rfl (by kernel_rfl) (by kernel_rfl) (want_none) rfl (fun _ ⟨c376, c368⟩ => q_move rfl) ?_
        refine HA.val (k := 2) (v := .agg (e_api_Tune t).toArray) rfl rfl (by kernel_rfl) (by kernel_rfl) (want_none) rfl (fun _ ⟨c376, c368⟩ => q_loadAgg (cs := (e_api_Tune t)) ta_56 rfl rfl (Blk.cells (k := 5) c368 rfl)) ?_
        refine HA.val (k := 3) (v := .agg (c_acequiaref22_Act (.int .i64 r_0_1) (.int .i64 r_1_1) (r_2_1, r_3_1) (.bool r_19_1) vr_20_1).toArray) rfl rfl (by kernel_rfl) (by kernel_rfl) (want_none) rfl (fun _ ⟨c376, c368⟩ => q_loadAgg (cs := (c_acequiaref22_Act (.int .i64 r_0_1) (.int .i64 r_1_1) (r_2_1, r_3_1) (.bool r_19_1) vr_20_1)) ta_99 rfl rfl (Blk.cells (k := 21) c376 rfl)) ?_
        refine HA.val (k := 7) (v := .pointer (some ⟨b_4, 0, none⟩)) rfl rfl (by kernel_rfl) (by kernel_rfl) (want_none) rfl (fun _ ⟨c376, c368⟩ => q_move rfl) ?_
        refine HA.val (k := 8) (v := .int .i64 (now_1 + r_1_1)) rfl rfl (by kernel_rfl) (by kernel_rfl) (want_none) rfl (fun _ ⟨c376, c368⟩ => q_move rfl) ?_
        refine HA.val (k := 9) (v := .agg (e_api_Tune t).toArray) rfl rfl (by kernel_rfl) (by kernel_rfl) (want_none) rfl (fun _ ⟨c376, c368⟩ => q_loadAgg (cs := (e_api_Tune t)) ta_56 rfl rfl (Blk.cells (k := 5) c368 rfl)) ?_
        refine HA.val (k := 10) (v := .pointer (some ⟨b_6, 2, none⟩)) rfl rfl (by kernel_rfl) (by kernel_rfl) (want_none) rfl (fun _ ⟨c376, c368⟩ => q_fieldAddr fa_99_2 rfl rfl) ?_
        refine HA.val (k := 11) (v := .agg (c_api_Asked (r_2_1, r_3_1) (.bool r_19_1) vr_20_1).toArray) rfl rfl (by kernel_rfl) (by kernel_rfl) (want_none) rfl (fun _ ⟨c376, c368⟩ => q_loadAgg (cs := (c_api_Asked (r_2_1, r_3_1) (.bool r_19_1) vr_20_1)) ta_97 rfl rfl (Blk.cells (k := 19) c376 rfl)) ?_
        refine HA.one (k := 4) ⟨⟨(hS.box 0 rfl), (hS.box 3 rfl)⟩, (Go.Wk.at_nil _ _)⟩ (by kernel_rfl) ?_
        replace hS : St F_6 (Ow.own 28 17 eA vr_20_1 r_20_1 :: Ow.box b_6 99 (c_acequiaref22_Act (.int .i64 r_0_1) (.int .i64 r_1_1) (r_2_1, r_3_1) (.bool r_19_1) vr_20_1).toArray :: Ow.pool 190 18 erL ps_1 :: Ow.box b_1 56 (e_api_Tune t).toArray :: Ow.box b_2 167 #[.int .i64 q_0_1, .pointer (some ⟨b_3, 0, none⟩), .int .i64 q_2_1, .map (some r_5)] :: Ow.box b_3 222 #[.map (some r_4)] :: Ow.map r_4 kT kI q_1_0_1 :: Ow.pm r_5 (fun (x : TA) => .agg (eA x).toArray) pv_query_left th_query_left q_3_1 none :: Ow.box b_4 95 #[.int .i64 x_0_1, .bool x_1_1, .int .i64 x_2_1, .int .i64 x_3_1, vx_4_1] :: Ow.own 184 20 erO vx_4_1 x_4_1 :: fr) h_10 := hS.perm2 [1, 0, 2, 3, 4, 5, 6, 7, 8, 9] 10 rfl rfl
        have hZ_1 := hS
        have hkz_1 := (hS.freeze).2
        replace hS := hS.freeze.1
        have hL_1 : SliceF (fun bz_ => F_6 bz_ ∨ (Ow.own 28 17 eA vr_20_1 r_20_1).foot bz_) h_10 17 eA vr_20_1 r_20_1 := ⟨(hZ_1.own 0 rfl).slice, fun _ b hb => .inr hb⟩
        refine HS.call rfl (want_none) rfl (ec en_42 rfl rfl) (law22_Act_walk (fr := (Ow.box b_6 99 (c_acequiaref22_Act (.int .i64 r_0_1) (.int .i64 r_1_1) (r_2_1, r_3_1) (.bool r_19_1) vr_20_1).toArray :: Ow.pool 190 18 erL ps_1 :: Ow.box b_1 56 (e_api_Tune t).toArray :: Ow.box b_2 167 #[.int .i64 q_0_1, .pointer (some ⟨b_3, 0, none⟩), .int .i64 q_2_1, .map (some r_5)] :: Ow.box b_3 222 #[.map (some r_4)] :: Ow.map r_4 kT kI q_1_0_1 :: Ow.pm r_5 (fun (x : TA) => .agg (eA x).toArray) pv_query_left th_query_left q_3_1 none :: Ow.box b_4 95 #[.int .i64 x_0_1, .bool x_1_1, .int .i64 x_2_1, .int .i64 x_3_1, vx_4_1] :: Ow.own 184 20 erO vx_4_1 x_4_1 :: fr)) r_0_1 r_1_1 (r_2_1, r_3_1) r_19_1 r_20_1 vr_20_1 hS hL_1 hM) ?_
        rintro _ h_15 ⟨F_11, r_0_2, r_1_2, r_2_2, r_3_2, r_19_2, r_20_2, vr_20_2, rfl, hk, hS, _, hM⟩
        obtain ⟨hS, hk⟩ := hZ_1.back hk hS
        generalize (fun bz_ => F_11 bz_ ∧ ¬ (Ow.own 28 17 eA vr_20_1 r_20_1).foot bz_) = F_12 at hS hk
        replace hK := hK.trans hk
        replace hN_acts := hN_acts.kp hk
        replace hL_acts := hL_acts.kp hk
        refine HA.val (k := 5) (v := .agg (c_api_Asked (r_2_2, r_3_2) (.bool r_19_2) vr_20_2).toArray) rfl rfl (by kernel_rfl) (by kernel_rfl) (want_none) rfl (fun _ ⟨c376, c368⟩ => q_field (fun w => by kernel_rfl) rfl) ?_
        refine HA.one (k := 6) ⟨⟨(hS.box 2 rfl), (hS.box 4 rfl)⟩, (Go.Wk.at_nil _ _)⟩ (by kernel_rfl) ?_
        replace hS : St F_12 (Ow.own 28 17 eA vr_20_2 r_20_2 :: Ow.own 28 17 eA vr_20_1 r_20_1 :: Ow.box b_6 99 (c_acequiaref22_Act (.int .i64 r_0_1) (.int .i64 r_1_1) (r_2_1, r_3_1) (.bool r_19_1) vr_20_1).toArray :: Ow.pool 190 18 erL ps_1 :: Ow.box b_1 56 (e_api_Tune t).toArray :: Ow.box b_2 167 #[.int .i64 q_0_1, .pointer (some ⟨b_3, 0, none⟩), .int .i64 q_2_1, .map (some r_5)] :: Ow.box b_3 222 #[.map (some r_4)] :: Ow.map r_4 kT kI q_1_0_1 :: Ow.pm r_5 (fun (x : TA) => .agg (eA x).toArray) pv_query_left th_query_left q_3_1 none :: Ow.box b_4 95 #[.int .i64 x_0_1, .bool x_1_1, .int .i64 x_2_1, .int .i64 x_3_1, vx_4_1] :: Ow.own 184 20 erO vx_4_1 x_4_1 :: fr) h_15 := hS.perm2 [1, 0, 2, 3, 4, 5, 6, 7, 8, 9, 10] 11 rfl rfl
        have hZ_2 := hS
        have hkz_2 := (hS.freeze).2
        replace hS := hS.freeze.1
        have hL_2 : SliceF (fun bz_ => F_12 bz_ ∨ (Ow.own 28 17 eA vr_20_2 r_20_2).foot bz_) h_15 17 eA vr_20_2 r_20_2 := ⟨(hZ_2.own 0 rfl).slice, fun _ b hb => .inr hb⟩
        replace hS : St (fun bz_ => F_12 bz_ ∨ (Ow.own 28 17 eA vr_20_2 r_20_2).foot bz_) (Ow.box b_2 167 #[.int .i64 q_0_1, .pointer (some ⟨b_3, 0, none⟩), .int .i64 q_2_1, .map (some r_5)] :: Ow.box b_3 222 #[.map (some r_4)] :: Ow.map r_4 kT kI q_1_0_1 :: Ow.pm r_5 (fun (x : TA) => .agg (eA x).toArray) pv_query_left th_query_left q_3_1 none :: Ow.own 28 17 eA vr_20_1 r_20_1 :: Ow.box b_6 99 (c_acequiaref22_Act (.int .i64 r_0_1) (.int .i64 r_1_1) (r_2_1, r_3_1) (.bool r_19_1) vr_20_1).toArray :: Ow.pool 190 18 erL ps_1 :: Ow.box b_1 56 (e_api_Tune t).toArray :: Ow.box b_4 95 #[.int .i64 x_0_1, .bool x_1_1, .int .i64 x_2_1, .int .i64 x_3_1, vx_4_1] :: Ow.own 184 20 erO vx_4_1 x_4_1 :: fr) h_15 := hS.perm2 [4, 5, 6, 7, 0, 1, 2, 3, 8, 9] 10 rfl rfl
        refine HS.call rfl (want_none) rfl (ec en_47 rfl rfl) (query_Queries_Want_walk (fr := (Ow.own 28 17 eA vr_20_1 r_20_1 :: Ow.box b_6 99 (c_acequiaref22_Act (.int .i64 r_0_1) (.int .i64 r_1_1) (r_2_1, r_3_1) (.bool r_19_1) vr_20_1).toArray :: Ow.pool 190 18 erL ps_1 :: Ow.box b_1 56 (e_api_Tune t).toArray :: Ow.box b_4 95 #[.int .i64 x_0_1, .bool x_1_1, .int .i64 x_2_1, .int .i64 x_3_1, vx_4_1] :: Ow.own 184 20 erO vx_4_1 x_4_1 :: fr)) q_0_1 q_1_0_1 q_2_1 q_3_1 (now_1 + r_1_1) t (r_2_2, r_3_2) r_19_2 r_20_2 b_2 b_3 r_4 r_5 vr_20_2 hS hL_2 hM) ?_
        rintro _ h_16 ⟨F_13, r_6, q_now_3, qm_5, q_first_3, qm_6, rfl, hk, hS, _, hM⟩
        obtain ⟨hS, hk⟩ := hZ_2.back hk hS
        generalize (fun bz_ => F_13 bz_ ∧ ¬ (Ow.own 28 17 eA vr_20_2 r_20_2).foot bz_) = F_14 at hS hk
        replace hK := hK.trans hk
        replace hN_acts := hN_acts.kp hk
        replace hL_acts := hL_acts.kp hk
        refine HA.one (k := 12) ⟨⟨(hS.box 6 rfl), (hS.box 8 rfl)⟩, (Go.Wk.at_nil _ _)⟩ (by kernel_rfl) ?_
        replace hS : St F_14 (Ow.own 28 17 eA vr_20_1 r_20_1 :: Ow.own 28 17 eA vr_20_2 r_20_2 :: Ow.box b_2 167 #[.int .i64 q_now_3, .pointer (some ⟨b_3, 0, none⟩), .int .i64 q_first_3, .map (some r_5)] :: Ow.box b_3 222 #[.map (some r_4)] :: Ow.map r_4 kT kI qm_5 :: Ow.pm r_5 (fun (x : TA) => .agg (eA x).toArray) pv_query_left th_query_left qm_6 none :: Ow.box b_6 99 (c_acequiaref22_Act (.int .i64 r_0_1) (.int .i64 r_1_1) (r_2_1, r_3_1) (.bool r_19_1) vr_20_1).toArray :: Ow.pool 190 18 erL ps_1 :: Ow.box b_1 56 (e_api_Tune t).toArray :: Ow.box b_4 95 #[.int .i64 x_0_1, .bool x_1_1, .int .i64 x_2_1, .int .i64 x_3_1, vx_4_1] :: Ow.own 184 20 erO vx_4_1 x_4_1 :: fr) h_16 := hS.perm2 [5, 0, 1, 2, 3, 4, 6, 7, 8, 9, 10] 11 rfl rfl
        have hZ_3 := hS
        have hkz_3 := (hS.freeze).2
        replace hS := hS.freeze.1
        have hL_3 : SliceF (fun bz_ => F_14 bz_ ∨ (Ow.own 28 17 eA vr_20_1 r_20_1).foot bz_) h_16 17 eA vr_20_1 r_20_1 := ⟨(hZ_3.own 0 rfl).slice, fun _ b hb => .inr hb⟩
        replace hS : St (fun bz_ => F_14 bz_ ∨ (Ow.own 28 17 eA vr_20_1 r_20_1).foot bz_) (Ow.box b_4 95 #[.int .i64 x_0_1, .bool x_1_1, .int .i64 x_2_1, .int .i64 x_3_1, vx_4_1] :: Ow.own 184 20 erO vx_4_1 x_4_1 :: Ow.pool 190 18 erL ps_1 :: Ow.own 28 17 eA vr_20_2 r_20_2 :: Ow.box b_2 167 #[.int .i64 q_now_3, .pointer (some ⟨b_3, 0, none⟩), .int .i64 q_first_3, .map (some r_5)] :: Ow.box b_3 222 #[.map (some r_4)] :: Ow.map r_4 kT kI qm_5 :: Ow.pm r_5 (fun (x : TA) => .agg (eA x).toArray) pv_query_left th_query_left qm_6 none :: Ow.box b_6 99 (c_acequiaref22_Act (.int .i64 r_0_1) (.int .i64 r_1_1) (r_2_1, r_3_1) (.bool r_19_1) vr_20_1).toArray :: Ow.box b_1 56 (e_api_Tune t).toArray :: fr) h_16 := hS.perm2 [8, 9, 6, 0, 1, 2, 3, 4, 5, 7] 10 rfl rfl
        refine HS.call rfl (want_none) rfl (ec en_48 rfl rfl) (ref22_Q_Want_walk (fr := (Ow.own 28 17 eA vr_20_2 r_20_2 :: Ow.box b_2 167 #[.int .i64 q_now_3, .pointer (some ⟨b_3, 0, none⟩), .int .i64 q_first_3, .map (some r_5)] :: Ow.box b_3 222 #[.map (some r_4)] :: Ow.map r_4 kT kI qm_5 :: Ow.pm r_5 (fun (x : TA) => .agg (eA x).toArray) pv_query_left th_query_left qm_6 none :: Ow.box b_6 99 (c_acequiaref22_Act (.int .i64 r_0_1) (.int .i64 r_1_1) (r_2_1, r_3_1) (.bool r_19_1) vr_20_1).toArray :: Ow.box b_1 56 (e_api_Tune t).toArray :: fr)) x_0_1 x_1_1 x_2_1 x_3_1 x_4_1 (now_1 + r_1_1) t (r_2_1, r_3_1) r_19_1 r_20_1 ps_1 b_4 vx_4_1 vr_20_1 hS hL_3 hM) ?_
        rintro _ h_17 ⟨F_15, r_7, ps_5, q_Now_3, q_On_3, q_At_3, q_First_3, q_L_2, v_2, rfl, hk, hS, _, hM⟩
        obtain ⟨hS, hk⟩ := hZ_3.back hk hS
        generalize (fun bz_ => F_15 bz_ ∧ ¬ (Ow.own 28 17 eA vr_20_1 r_20_1).foot bz_) = F_16 at hS hk
        replace hK := hK.trans hk
        replace hN_acts := hN_acts.kp hk
        replace hL_acts := hL_acts.kp hk
        refine HA.val (k := 13) (v := .bool (!(r_6 == r_7))) rfl rfl (by kernel_rfl) (by kernel_rfl) (want_none) rfl (fun _ ⟨c376, c368⟩ => q_neqB Tryz.underlying4 rfl rfl) ?_
        refine HA.nil ⟨⟨(hS.box 9 rfl), (hS.box 10 rfl)⟩, (Go.Wk.at_nil _ _)⟩ (by kernel_rfl) (thenQ_normal (?_))
        refine HW.cond (!(r_6 == r_7)) rfl (fun c_7 => ?_) (fun c_7 => ?_)
        ·
         replace hM := hM.1 c_7
         refine HW.seq ?_
         refine HW.region ?_
         refine oA (.bool false) rfl rfl ?_
         refine HO.nil (thenQ_normal (?_))
         refine HW.ret (blockQ_ret (thenQ_ret (blockQ_ret (thenQ_ret (thenQ_ret (blockQ_ret (thenQ_ret (?_))))))))
         refine ⟨.inr rfl, .bool false, res1 rfl (rt rfl), ?_⟩
         replace hS : St F_16 (fr) h_17 := hS.perm2 [] 11 rfl rfl
         exact ⟨F_16, false, rfl, hK, hS, hN_acts, hL_acts, hM⟩
        ·
         replace hM := hM.2 c_7
         refine HW.skip (blockQ_normal (thenQ_normal (?_)))
         replace hS : St F_16 (Ow.pool 190 18 erL ps_5 :: Ow.box b_1 56 (e_api_Tune t).toArray :: Ow.box b_2 167 #[.int .i64 q_now_3, .pointer (some ⟨b_3, 0, none⟩), .int .i64 q_first_3, .map (some r_5)] :: Ow.box b_3 222 #[.map (some r_4)] :: Ow.map r_4 kT kI qm_5 :: Ow.pm r_5 (fun (x : TA) => .agg (eA x).toArray) pv_query_left th_query_left qm_6 none :: Ow.box b_4 95 #[.int .i64 q_Now_3, .bool q_On_3, .int .i64 q_At_3, .int .i64 q_First_3, v_2] :: Ow.own 184 20 erO v_2 q_L_2 :: fr) h_17 := hS.perm2 [1, 10, 5, 6, 7, 8, 2, 3] 11 rfl rfl
         exact ⟨F_16, ps_5, q_now_3, qm_5, q_first_3, qm_6, q_Now_3, q_On_3, q_At_3, q_First_3, q_L_2, v_2, rfl, rfl, rfl, rfl, rfl, rfl, rfl, hK, hS, hN_acts, hL_acts, hM⟩
       ·
        replace hM := hM.2 (of_decide_eq_false c_6)
        refine HW.seq ?_
        refine HW.region ?_
        refine oV (.bool (decide (r_0_1 = 3))) (q_eql rfl rfl) rfl ?_
        refine oA (.bool (decide (r_0_1 = 3))) rfl rfl ?_
        refine HO.nil (thenQ_normal (?_))
        refine HW.cond (decide (r_0_1 = 3)) rfl (fun c_8 => ?_) (fun c_8 => ?_)
        ·
         replace hM := hM.1 (of_decide_eq_true c_8)
         refine HW.seq ?_
         refine HW.regionA 11 mixed (fun h => (Blk h b_6 (.cells (c_acequiaref22_Act (.int .i64 r_0_1) (.int .i64 r_1_1) (r_2_1, r_3_1) (.bool r_19_1) vr_20_1).toArray 99 (0, 0)))) [] (by kernel_rfl) ?_
         refine HA.val (k := 0) (v := .pointer (some ⟨b_2, 0, none⟩)) rfl rfl (by kernel_rfl) (by kernel_rfl) (want_none) rfl (fun _ c376 => q_move rfl) ?_
         refine HA.val (k := 1) (v := .pointer (some ⟨b_6, 2, none⟩)) rfl rfl (by kernel_rfl) (by kernel_rfl) (want_none) rfl (fun _ c376 => q_fieldAddr fa_99_2 rfl rfl) ?_
         refine HA.val (k := 2) (v := .pointer (some ⟨b_6, 2, none⟩)) rfl rfl (by kernel_rfl) (by kernel_rfl) (want_none) rfl (fun _ c376 => q_fieldAddr fa_97_0 rfl rfl) ?_
         refine HA.val (k := 3) (v := .agg (eA (r_2_1, r_3_1)).toArray) rfl rfl (by kernel_rfl) (by kernel_rfl) (want_none) rfl (fun _ c376 => q_loadAgg (cs := (eA (r_2_1, r_3_1))) ta_28 rfl rfl (Blk.cells (k := 17) c376 rfl)) ?_
         refine HA.val (k := 5) (v := .pointer (some ⟨b_4, 0, none⟩)) rfl rfl (by kernel_rfl) (by kernel_rfl) (want_none) rfl (fun _ c376 => q_move rfl) ?_
         refine HA.val (k := 6) (v := .pointer (some ⟨b_6, 2, none⟩)) rfl rfl (by kernel_rfl) (by kernel_rfl) (want_none) rfl (fun _ c376 => q_fieldAddr fa_99_2 rfl rfl) ?_
         refine HA.val (k := 7) (v := .pointer (some ⟨b_6, 2, none⟩)) rfl rfl (by kernel_rfl) (by kernel_rfl) (want_none) rfl (fun _ c376 => q_fieldAddr fa_97_0 rfl rfl) ?_
         refine HA.val (k := 8) (v := .agg (eA (r_2_1, r_3_1)).toArray) rfl rfl (by kernel_rfl) (by kernel_rfl) (want_none) rfl (fun _ c376 => q_loadAgg (cs := (eA (r_2_1, r_3_1))) ta_28 rfl rfl (Blk.cells (k := 17) c376 rfl)) ?_
         refine HA.one (k := 4) ⟨(hS.box 0 rfl), (Go.Wk.at_nil _ _)⟩ (by kernel_rfl) ?_
         replace hS : St F_6 (Ow.box b_2 167 #[.int .i64 q_0_1, .pointer (some ⟨b_3, 0, none⟩), .int .i64 q_2_1, .map (some r_5)] :: Ow.box b_3 222 #[.map (some r_4)] :: Ow.map r_4 kT kI q_1_0_1 :: Ow.pm r_5 (fun (x : TA) => .agg (eA x).toArray) pv_query_left th_query_left q_3_1 none :: Ow.box b_6 99 (c_acequiaref22_Act (.int .i64 r_0_1) (.int .i64 r_1_1) (r_2_1, r_3_1) (.bool r_19_1) vr_20_1).toArray :: Ow.own 28 17 eA vr_20_1 r_20_1 :: Ow.pool 190 18 erL ps_1 :: Ow.box b_1 56 (e_api_Tune t).toArray :: Ow.box b_4 95 #[.int .i64 x_0_1, .bool x_1_1, .int .i64 x_2_1, .int .i64 x_3_1, vx_4_1] :: Ow.own 184 20 erO vx_4_1 x_4_1 :: fr) h_10 := hS.perm2 [4, 5, 6, 7, 0, 1, 2, 3, 8, 9] 10 rfl rfl
         refine HS.call rfl (want_none) rfl (ec en_49 rfl rfl) (query_Queries_Cancel_walk (fr := (Ow.box b_6 99 (c_acequiaref22_Act (.int .i64 r_0_1) (.int .i64 r_1_1) (r_2_1, r_3_1) (.bool r_19_1) vr_20_1).toArray :: Ow.own 28 17 eA vr_20_1 r_20_1 :: Ow.pool 190 18 erL ps_1 :: Ow.box b_1 56 (e_api_Tune t).toArray :: Ow.box b_4 95 #[.int .i64 x_0_1, .bool x_1_1, .int .i64 x_2_1, .int .i64 x_3_1, vx_4_1] :: Ow.own 184 20 erO vx_4_1 x_4_1 :: fr)) q_0_1 q_1_0_1 q_2_1 q_3_1 (r_2_1, r_3_1) b_2 b_3 r_4 r_5 hS hM) ?_
         rintro _ h_18 ⟨F_17, r_8, q_now_4, qm_7, q_first_4, qm_8, rfl, hk, hS, hM⟩
         replace hK := hK.trans hk
         replace hN_acts := hN_acts.kp hk
         replace hL_acts := hL_acts.kp hk
         refine HA.one (k := 9) ⟨(hS.box 4 rfl), (Go.Wk.at_nil _ _)⟩ (by kernel_rfl) ?_
         replace hS : St F_17 (Ow.box b_4 95 #[.int .i64 x_0_1, .bool x_1_1, .int .i64 x_2_1, .int .i64 x_3_1, vx_4_1] :: Ow.own 184 20 erO vx_4_1 x_4_1 :: Ow.pool 190 18 erL ps_1 :: Ow.box b_2 167 #[.int .i64 q_now_4, .pointer (some ⟨b_3, 0, none⟩), .int .i64 q_first_4, .map (some r_5)] :: Ow.box b_3 222 #[.map (some r_4)] :: Ow.map r_4 kT kI qm_7 :: Ow.pm r_5 (fun (x : TA) => .agg (eA x).toArray) pv_query_left th_query_left qm_8 none :: Ow.box b_6 99 (c_acequiaref22_Act (.int .i64 r_0_1) (.int .i64 r_1_1) (r_2_1, r_3_1) (.bool r_19_1) vr_20_1).toArray :: Ow.own 28 17 eA vr_20_1 r_20_1 :: Ow.box b_1 56 (e_api_Tune t).toArray :: fr) h_18 := hS.perm2 [8, 9, 6, 0, 1, 2, 3, 4, 5, 7] 10 rfl rfl
         refine HS.call rfl (want_none) rfl (ec en_50 rfl rfl) (ref22_Q_Cancel_walk (fr := (Ow.box b_2 167 #[.int .i64 q_now_4, .pointer (some ⟨b_3, 0, none⟩), .int .i64 q_first_4, .map (some r_5)] :: Ow.box b_3 222 #[.map (some r_4)] :: Ow.map r_4 kT kI qm_7 :: Ow.pm r_5 (fun (x : TA) => .agg (eA x).toArray) pv_query_left th_query_left qm_8 none :: Ow.box b_6 99 (c_acequiaref22_Act (.int .i64 r_0_1) (.int .i64 r_1_1) (r_2_1, r_3_1) (.bool r_19_1) vr_20_1).toArray :: Ow.own 28 17 eA vr_20_1 r_20_1 :: Ow.box b_1 56 (e_api_Tune t).toArray :: fr)) x_0_1 x_1_1 x_2_1 x_3_1 x_4_1 (r_2_1, r_3_1) ps_1 b_4 vx_4_1 hS hM) ?_
         rintro _ h_19 ⟨F_18, r_9, ps_6, q_Now_4, q_On_4, q_At_4, q_First_4, q_L_3, v_3, rfl, hk, hS, hM⟩
         replace hK := hK.trans hk
         replace hN_acts := hN_acts.kp hk
         replace hL_acts := hL_acts.kp hk
         refine HA.val (k := 10) (v := .bool (!(r_8 == r_9))) rfl rfl (by kernel_rfl) (by kernel_rfl) (want_none) rfl (fun _ c376 => q_neqB Tryz.underlying4 rfl rfl) ?_
         refine HA.nil ⟨(hS.box 7 rfl), (Go.Wk.at_nil _ _)⟩ (by kernel_rfl) (thenQ_normal (?_))
         refine HW.cond (!(r_8 == r_9)) rfl (fun c_9 => ?_) (fun c_9 => ?_)
         ·
          replace hM := hM.1 c_9
          refine HW.seq ?_
          refine HW.region ?_
          refine oA (.bool false) rfl rfl ?_
          refine HO.nil (thenQ_normal (?_))
          refine HW.ret (blockQ_ret (thenQ_ret (blockQ_ret (thenQ_ret (thenQ_ret (blockQ_ret (thenQ_ret (?_))))))))
          refine ⟨.inr rfl, .bool false, res1 rfl (rt rfl), ?_⟩
          replace hS : St F_18 (fr) h_19 := hS.perm2 [] 10 rfl rfl
          exact ⟨F_18, false, rfl, hK, hS, hN_acts, hL_acts, hM⟩
         ·
          replace hM := hM.2 c_9
          refine HW.skip (blockQ_normal (thenQ_normal (?_)))
          replace hS : St F_18 (Ow.pool 190 18 erL ps_6 :: Ow.box b_1 56 (e_api_Tune t).toArray :: Ow.box b_2 167 #[.int .i64 q_now_4, .pointer (some ⟨b_3, 0, none⟩), .int .i64 q_first_4, .map (some r_5)] :: Ow.box b_3 222 #[.map (some r_4)] :: Ow.map r_4 kT kI qm_7 :: Ow.pm r_5 (fun (x : TA) => .agg (eA x).toArray) pv_query_left th_query_left qm_8 none :: Ow.box b_4 95 #[.int .i64 q_Now_4, .bool q_On_4, .int .i64 q_At_4, .int .i64 q_First_4, v_3] :: Ow.own 184 20 erO v_3 q_L_3 :: fr) h_19 := hS.perm2 [0, 9, 3, 4, 5, 6, 1, 2] 10 rfl rfl
          exact ⟨F_18, ps_6, q_now_4, qm_7, q_first_4, qm_8, q_Now_4, q_On_4, q_At_4, q_First_4, q_L_3, v_3, rfl, rfl, rfl, rfl, rfl, rfl, rfl, hK, hS, hN_acts, hL_acts, hM⟩
        ·
         replace hM := hM.2 (of_decide_eq_false c_8)
         refine HW.seq ?_
         refine HW.region ?_
         refine oM (.pointer (some ⟨b_2, 0, none⟩)) rfl rfl ?_
         refine oM (.int .i64 (now_1 + r_1_1)) rfl rfl ?_
         refine oV (.agg (e_api_Tune t).toArray) (q_loadAgg (cs := (e_api_Tune t)) ta_56 rfl rfl (Blk.cells (k := 5) (hS.box 3 rfl) rfl)) rfl ?_
         replace hS : St F_6 (Ow.box b_2 167 #[.int .i64 q_0_1, .pointer (some ⟨b_3, 0, none⟩), .int .i64 q_2_1, .map (some r_5)] :: Ow.box b_3 222 #[.map (some r_4)] :: Ow.map r_4 kT kI q_1_0_1 :: Ow.pm r_5 (fun (x : TA) => .agg (eA x).toArray) pv_query_left th_query_left q_3_1 none :: Ow.box b_6 99 (c_acequiaref22_Act (.int .i64 r_0_1) (.int .i64 r_1_1) (r_2_1, r_3_1) (.bool r_19_1) vr_20_1).toArray :: Ow.own 28 17 eA vr_20_1 r_20_1 :: Ow.pool 190 18 erL ps_1 :: Ow.box b_1 56 (e_api_Tune t).toArray :: Ow.box b_4 95 #[.int .i64 x_0_1, .bool x_1_1, .int .i64 x_2_1, .int .i64 x_3_1, vx_4_1] :: Ow.own 184 20 erO vx_4_1 x_4_1 :: fr) h_10 := hS.perm2 [4, 5, 6, 7, 0, 1, 2, 3, 8, 9] 10 rfl rfl
         refine HO.call (want_none) rfl (ec en_51 rfl rfl) (query_Queries_Due_walk (fr := (Ow.box b_6 99 (c_acequiaref22_Act (.int .i64 r_0_1) (.int .i64 r_1_1) (r_2_1, r_3_1) (.bool r_19_1) vr_20_1).toArray :: Ow.own 28 17 eA vr_20_1 r_20_1 :: Ow.pool 190 18 erL ps_1 :: Ow.box b_1 56 (e_api_Tune t).toArray :: Ow.box b_4 95 #[.int .i64 x_0_1, .bool x_1_1, .int .i64 x_2_1, .int .i64 x_3_1, vx_4_1] :: Ow.own 184 20 erO vx_4_1 x_4_1 :: fr)) q_0_1 q_1_0_1 q_2_1 q_3_1 (now_1 + r_1_1) t b_2 b_3 r_4 r_5 hS hM) ?_
         rintro _ h_20 ⟨F_19, r0_1, r1_1, q_now_5, qm_9, q_first_5, qm_10, vr1_1, rfl, hk, hS, hL_4, hM⟩
         replace hK := hK.trans hk
         replace hN_acts := hN_acts.kp hk
         replace hL_acts := hL_acts.kp hk
         refine oM (.tuple #[.bool r0_1, vr1_1]) rfl rfl ?_
         refine oV (.bool r0_1) (q_extract rfl rfl) rfl ?_
         refine oV (vr1_1) (q_extract rfl rfl) rfl ?_
         refine oA (.bool r0_1) rfl rfl ?_
         refine oA (vr1_1) rfl rfl ?_
         refine HO.nil (thenQ_normal (?_))
         refine HW.seq ?_
         refine HW.region ?_
         refine oM (.pointer (some ⟨b_4, 0, none⟩)) rfl rfl ?_
         refine oM (.int .i64 (now_1 + r_1_1)) rfl rfl ?_
         refine oV (.agg (e_api_Tune t).toArray) (q_loadAgg (cs := (e_api_Tune t)) ta_56 rfl rfl (Blk.cells (k := 5) (hS.box 8 rfl) rfl)) rfl ?_
         replace hS : St F_19 (Ow.box b_4 95 #[.int .i64 x_0_1, .bool x_1_1, .int .i64 x_2_1, .int .i64 x_3_1, vx_4_1] :: Ow.own 184 20 erO vx_4_1 x_4_1 :: Ow.pool 190 18 erL ps_1 :: Ow.own 97 19 e_api_Asked vr1_1 r1_1 :: Ow.box b_2 167 #[.int .i64 q_now_5, .pointer (some ⟨b_3, 0, none⟩), .int .i64 q_first_5, .map (some r_5)] :: Ow.box b_3 222 #[.map (some r_4)] :: Ow.map r_4 kT kI qm_9 :: Ow.pm r_5 (fun (x : TA) => .agg (eA x).toArray) pv_query_left th_query_left qm_10 none :: Ow.box b_6 99 (c_acequiaref22_Act (.int .i64 r_0_1) (.int .i64 r_1_1) (r_2_1, r_3_1) (.bool r_19_1) vr_20_1).toArray :: Ow.own 28 17 eA vr_20_1 r_20_1 :: Ow.box b_1 56 (e_api_Tune t).toArray :: fr) h_20 := hS.perm2 [9, 10, 7, 0, 1, 2, 3, 4, 5, 6, 8] 11 rfl rfl
         refine HO.call (want_none) rfl (ec en_52 rfl rfl) (ref22_Q_Due_walk (fr := (Ow.own 97 19 e_api_Asked vr1_1 r1_1 :: Ow.box b_2 167 #[.int .i64 q_now_5, .pointer (some ⟨b_3, 0, none⟩), .int .i64 q_first_5, .map (some r_5)] :: Ow.box b_3 222 #[.map (some r_4)] :: Ow.map r_4 kT kI qm_9 :: Ow.pm r_5 (fun (x : TA) => .agg (eA x).toArray) pv_query_left th_query_left qm_10 none :: Ow.box b_6 99 (c_acequiaref22_Act (.int .i64 r_0_1) (.int .i64 r_1_1) (r_2_1, r_3_1) (.bool r_19_1) vr_20_1).toArray :: Ow.own 28 17 eA vr_20_1 r_20_1 :: Ow.box b_1 56 (e_api_Tune t).toArray :: fr)) x_0_1 x_1_1 x_2_1 x_3_1 x_4_1 (now_1 + r_1_1) t ps_1 b_4 vx_4_1 hS hM) ?_
         rintro _ h_21 ⟨F_20, r0_2, r1_2, ps_7, q_Now_5, q_On_5, q_At_5, q_First_5, q_L_4, vr1_2, v_4, rfl, hk, hS, hL_5, hM⟩
         replace hK := hK.trans hk
         replace hN_acts := hN_acts.kp hk
         replace hL_acts := hL_acts.kp hk
         replace hL_4 := hL_4.kp hk
         refine oM (.tuple #[.bool r0_2, vr1_2]) rfl rfl ?_
         refine oV (.bool r0_2) (q_extract rfl rfl) rfl ?_
         refine oV (vr1_2) (q_extract rfl rfl) rfl ?_
         refine oA (.bool r0_2) rfl rfl ?_
         refine oA (vr1_2) rfl rfl ?_
         refine HO.nil (thenQ_normal (?_))
         refine HW.seq ?_
         refine HW.region ?_
         refine oM (.bool r0_1) rfl rfl ?_
         refine oM (.bool r0_2) rfl rfl ?_
         refine oV (.bool (!(r0_1 == r0_2))) (q_neqB Tryz.underlying4 rfl rfl) rfl ?_
         refine oM (.bool (!(r0_1 == r0_2))) rfl rfl ?_
         rcases Bool.eq_false_or_eq_true (!(r0_1 == r0_2)) with c_10 | c_10
         ·
          replace hM := hM.1 c_10
          refine HO.past (past_by rfl rfl c_10) rfl ?_
          refine HO.past (past_by rfl rfl c_10) rfl ?_
          refine HO.past (past_by rfl rfl c_10) rfl ?_
          refine HO.past (past_by rfl rfl c_10) rfl ?_
          refine oV (.bool true) (q_pickK true rfl c_10 rfl) rfl ?_
          refine HO.nil (thenQ_normal (?_))
          refine HW.condT rfl ?_
          refine HW.seq ?_
          refine HW.region ?_
          refine oA (.bool false) rfl rfl ?_
          refine HO.nil (thenQ_normal (?_))
          refine HW.ret (blockQ_ret (thenQ_ret (blockQ_ret (thenQ_ret (thenQ_ret (blockQ_ret (thenQ_ret (?_))))))))
          refine ⟨.inr rfl, .bool false, res1 rfl (rt rfl), ?_⟩
          replace hS : St F_20 (fr) h_21 := hS.perm2 [] 12 rfl rfl
          exact ⟨F_20, false, rfl, hK, hS, hN_acts, hL_acts, hM⟩
         ·
          replace hM := hM.2 c_10
          refine HO.val (v := vr1_1) (want_by rfl rfl c_10) rfl (q_move rfl) ?_
          refine HO.val (v := vr1_2) (want_by rfl rfl c_10) rfl (q_move rfl) ?_
          replace hS : St F_20 (Ow.own 97 19 e_api_Asked vr1_1 r1_1 :: Ow.own 97 19 e_api_Asked vr1_2 r1_2 :: Ow.pool 190 18 erL ps_7 :: Ow.box b_4 95 #[.int .i64 q_Now_5, .bool q_On_5, .int .i64 q_At_5, .int .i64 q_First_5, v_4] :: Ow.own 184 20 erO v_4 q_L_4 :: Ow.box b_2 167 #[.int .i64 q_now_5, .pointer (some ⟨b_3, 0, none⟩), .int .i64 q_first_5, .map (some r_5)] :: Ow.box b_3 222 #[.map (some r_4)] :: Ow.map r_4 kT kI qm_9 :: Ow.pm r_5 (fun (x : TA) => .agg (eA x).toArray) pv_query_left th_query_left qm_10 none :: Ow.box b_6 99 (c_acequiaref22_Act (.int .i64 r_0_1) (.int .i64 r_1_1) (r_2_1, r_3_1) (.bool r_19_1) vr_20_1).toArray :: Ow.own 28 17 eA vr_20_1 r_20_1 :: Ow.box b_1 56 (e_api_Tune t).toArray :: fr) h_21 := hS.perm2 [4, 0, 1, 2, 3, 5, 6, 7, 8, 9, 10, 11] 12 rfl rfl
          have hZ_4 := hS
          have hkz_4 := (hS.freeze).2
          replace hS := hS.freeze.1
          have hL_6 : SliceF (fun bz_ => F_20 bz_ ∨ (Ow.own 97 19 e_api_Asked vr1_1 r1_1).foot bz_) h_21 19 e_api_Asked vr1_1 r1_1 := ⟨(hZ_4.own 0 rfl).slice, fun _ b hb => .inr hb⟩
          replace hS : St (fun bz_ => F_20 bz_ ∨ (Ow.own 97 19 e_api_Asked vr1_1 r1_1).foot bz_) (Ow.own 97 19 e_api_Asked vr1_2 r1_2 :: Ow.pool 190 18 erL ps_7 :: Ow.box b_4 95 #[.int .i64 q_Now_5, .bool q_On_5, .int .i64 q_At_5, .int .i64 q_First_5, v_4] :: Ow.own 184 20 erO v_4 q_L_4 :: Ow.box b_2 167 #[.int .i64 q_now_5, .pointer (some ⟨b_3, 0, none⟩), .int .i64 q_first_5, .map (some r_5)] :: Ow.box b_3 222 #[.map (some r_4)] :: Ow.map r_4 kT kI qm_9 :: Ow.pm r_5 (fun (x : TA) => .agg (eA x).toArray) pv_query_left th_query_left qm_10 none :: Ow.box b_6 99 (c_acequiaref22_Act (.int .i64 r_0_1) (.int .i64 r_1_1) (r_2_1, r_3_1) (.bool r_19_1) vr_20_1).toArray :: Ow.own 28 17 eA vr_20_1 r_20_1 :: Ow.box b_1 56 (e_api_Tune t).toArray :: fr) h_21 := hS
          have hZ_5 := hS
          have hkz_5 := (hS.freeze).2
          replace hS := hS.freeze.1
          have hL_7 : SliceF (fun bz_ => (fun bz_ => F_20 bz_ ∨ (Ow.own 97 19 e_api_Asked vr1_1 r1_1).foot bz_) bz_ ∨ (Ow.own 97 19 e_api_Asked vr1_2 r1_2).foot bz_) h_21 19 e_api_Asked vr1_2 r1_2 := ⟨(hZ_5.own 0 rfl).slice, fun _ b hb => .inr hb⟩
          refine HO.call (want_by rfl rfl c_10) rfl (ec en_53 rfl rfl) (ref18_SameAsked_walk (fr := (Ow.pool 190 18 erL ps_7 :: Ow.box b_4 95 #[.int .i64 q_Now_5, .bool q_On_5, .int .i64 q_At_5, .int .i64 q_First_5, v_4] :: Ow.own 184 20 erO v_4 q_L_4 :: Ow.box b_2 167 #[.int .i64 q_now_5, .pointer (some ⟨b_3, 0, none⟩), .int .i64 q_first_5, .map (some r_5)] :: Ow.box b_3 222 #[.map (some r_4)] :: Ow.map r_4 kT kI qm_9 :: Ow.pm r_5 (fun (x : TA) => .agg (eA x).toArray) pv_query_left th_query_left qm_10 none :: Ow.box b_6 99 (c_acequiaref22_Act (.int .i64 r_0_1) (.int .i64 r_1_1) (r_2_1, r_3_1) (.bool r_19_1) vr_20_1).toArray :: Ow.own 28 17 eA vr_20_1 r_20_1 :: Ow.box b_1 56 (e_api_Tune t).toArray :: fr)) r1_1 r1_2 vr1_1 vr1_2 hS (NfL.kp (NfL.kp hL_4 hkz_4) hkz_5) (hL_6.kp hkz_5) (NfL.kp (NfL.kp hL_5 hkz_4) hkz_5) hL_7 hM) ?_
          rintro _ h_22 ⟨F_21, r_10, rfl, hk, hS, _, _, _, _, hM⟩
          obtain ⟨hS, hk⟩ := hZ_5.back hk hS
          obtain ⟨hS, hk⟩ := hZ_4.back hk hS
          generalize (fun bz_ => (fun bz_ => F_21 bz_ ∧ ¬ (Ow.own 97 19 e_api_Asked vr1_2 r1_2).foot bz_) bz_ ∧ ¬ (Ow.own 97 19 e_api_Asked vr1_1 r1_1).foot bz_) = F_22 at hS hk
          replace hK := hK.trans hk
          replace hN_acts := hN_acts.kp hk
          replace hL_acts := hL_acts.kp hk
          refine HO.val (v := .bool (!r_10)) (want_by rfl rfl c_10) rfl (q_not rfl) ?_
          refine oV (.bool (!r_10)) (q_pickK false rfl c_10 rfl) rfl ?_
          refine HO.nil (thenQ_normal (?_))
          refine HW.cond (!r_10) rfl (fun c_11 => ?_) (fun c_11 => ?_)
          ·
           replace hM := hM.1 c_11
           refine HW.seq ?_
           refine HW.region ?_
           refine oA (.bool false) rfl rfl ?_
           refine HO.nil (thenQ_normal (?_))
           refine HW.ret (blockQ_ret (thenQ_ret (blockQ_ret (thenQ_ret (thenQ_ret (blockQ_ret (thenQ_ret (?_))))))))
           refine ⟨.inr rfl, .bool false, res1 rfl (rt rfl), ?_⟩
           replace hS : St F_22 (fr) h_22 := hS.perm2 [] 12 rfl rfl
           exact ⟨F_22, false, rfl, hK, hS, hN_acts, hL_acts, hM⟩
          ·
           replace hM := hM.2 c_11
           refine HW.skip (blockQ_normal (thenQ_normal (?_)))
           replace hS : St F_22 (Ow.pool 190 18 erL ps_7 :: Ow.box b_1 56 (e_api_Tune t).toArray :: Ow.box b_2 167 #[.int .i64 q_now_5, .pointer (some ⟨b_3, 0, none⟩), .int .i64 q_first_5, .map (some r_5)] :: Ow.box b_3 222 #[.map (some r_4)] :: Ow.map r_4 kT kI qm_9 :: Ow.pm r_5 (fun (x : TA) => .agg (eA x).toArray) pv_query_left th_query_left qm_10 none :: Ow.box b_4 95 #[.int .i64 q_Now_5, .bool q_On_5, .int .i64 q_At_5, .int .i64 q_First_5, v_4] :: Ow.own 184 20 erO v_4 q_L_4 :: fr) h_22 := hS.perm2 [2, 11, 5, 6, 7, 8, 3, 4] 12 rfl rfl
           exact ⟨F_22, ps_7, q_now_5, qm_9, q_first_5, qm_10, q_Now_5, q_On_5, q_At_5, q_First_5, q_L_4, v_4, rfl, rfl, rfl, rfl, rfl, rfl, rfl, hK, hS, hN_acts, hL_acts, hM⟩
    ·
     rintro f_3 h_23 ⟨F_23, ps_2, q_0_2, q_1_0_2, q_2_2, q_3_2, x_0_2, x_1_2, x_2_2, x_3_2, x_4_2, vx_4_2, e1, e2, e4, e5, e6, e7, e8, hK, hS, hN_acts, hL_acts, hM⟩
     unfold law22_QueryPlays_j2 at hM
     refine HW.fr [(1, vacts), (2, .pointer (some ⟨b_1, 0, none⟩)), (4, .bool false), (5, .pointer (some ⟨b_2, 0, none⟩)), (6, .pointer (some ⟨b_4, 0, none⟩)), (7, .int .i64 (now_1 + r_1_1)), (8, .int .i64 i_1)] ⟨e1, e2, e4, e5, e6, e7, e8, trivial⟩ ?_
     refine HW.seq ?_
     refine HW.region ?_
     refine oM (.pointer (some ⟨b_2, 0, none⟩)) rfl rfl ?_
     replace hS : St F_23 (Ow.box b_2 167 #[.int .i64 q_0_2, .pointer (some ⟨b_3, 0, none⟩), .int .i64 q_2_2, .map (some r_5)] :: Ow.box b_3 222 #[.map (some r_4)] :: Ow.map r_4 kT kI q_1_0_2 :: Ow.pm r_5 (fun (x : TA) => .agg (eA x).toArray) pv_query_left th_query_left q_3_2 none :: Ow.pool 190 18 erL ps_2 :: Ow.box b_1 56 (e_api_Tune t).toArray :: Ow.box b_4 95 #[.int .i64 x_0_2, .bool x_1_2, .int .i64 x_2_2, .int .i64 x_3_2, vx_4_2] :: Ow.own 184 20 erO vx_4_2 x_4_2 :: fr) h_23 := hS.perm2 [2, 3, 4, 5, 0, 1, 6, 7] 8 rfl rfl
     refine HO.call (want_none) rfl (ec en_54 rfl rfl) (query_Queries_Next_walk (fr := (Ow.pool 190 18 erL ps_2 :: Ow.box b_1 56 (e_api_Tune t).toArray :: Ow.box b_4 95 #[.int .i64 x_0_2, .bool x_1_2, .int .i64 x_2_2, .int .i64 x_3_2, vx_4_2] :: Ow.own 184 20 erO vx_4_2 x_4_2 :: fr)) q_0_2 q_1_0_2 q_2_2 q_3_2 b_2 b_3 r_4 r_5 hS hM) ?_
     rintro _ h_24 ⟨F_24, r0_3, r1_3, q_now_6, qm_11, q_first_6, qm_12, rfl, hk, hS, hM⟩
     replace hK := hK.trans hk
     replace hN_acts := hN_acts.kp hk
     replace hL_acts := hL_acts.kp hk
     refine oM (.tuple #[.int .i64 r0_3, .bool r1_3]) rfl rfl ?_
     refine oV (.int .i64 r0_3) (q_extract rfl rfl) rfl ?_
     refine oV (.bool r1_3) (q_extract rfl rfl) rfl ?_
     refine oA (.int .i64 r0_3) rfl rfl ?_
     refine oA (.bool r1_3) rfl rfl ?_
     refine HO.nil (thenQ_normal (?_))
     refine HW.seq ?_
     refine HW.region ?_
     refine oM (.pointer (some ⟨b_4, 0, none⟩)) rfl rfl ?_
     replace hS : St F_24 (Ow.box b_4 95 #[.int .i64 x_0_2, .bool x_1_2, .int .i64 x_2_2, .int .i64 x_3_2, vx_4_2] :: Ow.box b_2 167 #[.int .i64 q_now_6, .pointer (some ⟨b_3, 0, none⟩), .int .i64 q_first_6, .map (some r_5)] :: Ow.box b_3 222 #[.map (some r_4)] :: Ow.map r_4 kT kI qm_11 :: Ow.pm r_5 (fun (x : TA) => .agg (eA x).toArray) pv_query_left th_query_left qm_12 none :: Ow.pool 190 18 erL ps_2 :: Ow.box b_1 56 (e_api_Tune t).toArray :: Ow.own 184 20 erO vx_4_2 x_4_2 :: fr) h_24 := hS.perm2 [6, 0, 1, 2, 3, 4, 5, 7] 8 rfl rfl
     have hZ_6 := hS
     have hkz_6 := (hS.freeze).2
     replace hS := hS.freeze.1
     have hL_8 := hZ_6.lent
     replace hS : St (fun bz_ => F_24 bz_ ∨ (Ow.box b_4 95 #[.int .i64 x_0_2, .bool x_1_2, .int .i64 x_2_2, .int .i64 x_3_2, vx_4_2]).foot bz_) (Ow.own 184 20 erO vx_4_2 x_4_2 :: Ow.box b_2 167 #[.int .i64 q_now_6, .pointer (some ⟨b_3, 0, none⟩), .int .i64 q_first_6, .map (some r_5)] :: Ow.box b_3 222 #[.map (some r_4)] :: Ow.map r_4 kT kI qm_11 :: Ow.pm r_5 (fun (x : TA) => .agg (eA x).toArray) pv_query_left th_query_left qm_12 none :: Ow.pool 190 18 erL ps_2 :: Ow.box b_1 56 (e_api_Tune t).toArray :: fr) h_24 := hS.perm2 [6, 0, 1, 2, 3, 4, 5] 7 rfl rfl
     have hZ_7 := hS
     have hkz_7 := (hS.freeze).2
     replace hS := hS.freeze.1
     have hL_9 : SliceF (fun bz_ => (fun bz_ => F_24 bz_ ∨ (Ow.box b_4 95 #[.int .i64 x_0_2, .bool x_1_2, .int .i64 x_2_2, .int .i64 x_3_2, vx_4_2]).foot bz_) bz_ ∨ (Ow.own 184 20 erO vx_4_2 x_4_2).foot bz_) h_24 20 erO vx_4_2 x_4_2 := ⟨(hZ_7.own 0 rfl).slice, fun _ b hb => .inr hb⟩
     replace hS : St (fun bz_ => (fun bz_ => F_24 bz_ ∨ (Ow.box b_4 95 #[.int .i64 x_0_2, .bool x_1_2, .int .i64 x_2_2, .int .i64 x_3_2, vx_4_2]).foot bz_) bz_ ∨ (Ow.own 184 20 erO vx_4_2 x_4_2).foot bz_) (Ow.pool 190 18 erL ps_2 :: Ow.box b_2 167 #[.int .i64 q_now_6, .pointer (some ⟨b_3, 0, none⟩), .int .i64 q_first_6, .map (some r_5)] :: Ow.box b_3 222 #[.map (some r_4)] :: Ow.map r_4 kT kI qm_11 :: Ow.pm r_5 (fun (x : TA) => .agg (eA x).toArray) pv_query_left th_query_left qm_12 none :: Ow.box b_1 56 (e_api_Tune t).toArray :: fr) h_24 := hS.perm2 [4, 0, 1, 2, 3, 5] 6 rfl rfl
     refine HO.call (want_none) rfl (ec en_55 rfl rfl) (ref22_Q_Next_walk (fr := (Ow.box b_2 167 #[.int .i64 q_now_6, .pointer (some ⟨b_3, 0, none⟩), .int .i64 q_first_6, .map (some r_5)] :: Ow.box b_3 222 #[.map (some r_4)] :: Ow.map r_4 kT kI qm_11 :: Ow.pm r_5 (fun (x : TA) => .agg (eA x).toArray) pv_query_left th_query_left qm_12 none :: Ow.box b_1 56 (e_api_Tune t).toArray :: fr)) x_0_2 x_1_2 x_2_2 x_3_2 x_4_2 ps_2 b_4 vx_4_2 hS hL_9 (hL_8.kp hkz_7) hM) ?_
     rintro _ h_25 ⟨F_25, r0_4, r1_4, ps_8, rfl, hk, hS, _, _, hM⟩
     obtain ⟨hS, hk⟩ := hZ_7.back hk hS
     obtain ⟨hS, hk⟩ := hZ_6.back hk hS
     generalize (fun bz_ => (fun bz_ => F_25 bz_ ∧ ¬ (Ow.own 184 20 erO vx_4_2 x_4_2).foot bz_) bz_ ∧ ¬ (Ow.box b_4 95 #[.int .i64 x_0_2, .bool x_1_2, .int .i64 x_2_2, .int .i64 x_3_2, vx_4_2]).foot bz_) = F_26 at hS hk
     replace hK := hK.trans hk
     replace hN_acts := hN_acts.kp hk
     replace hL_acts := hL_acts.kp hk
     refine oM (.tuple #[.int .i64 r0_4, .bool r1_4]) rfl rfl ?_
     refine oV (.int .i64 r0_4) (q_extract rfl rfl) rfl ?_
     refine oV (.bool r1_4) (q_extract rfl rfl) rfl ?_
     refine oA (.int .i64 r0_4) rfl rfl ?_
     refine oA (.bool r1_4) rfl rfl ?_
     refine HO.nil (thenQ_normal (?_))
     refine HW.seq ?_
     refine HW.region ?_
     refine oM (.int .i64 r0_3) rfl rfl ?_
     refine oM (.int .i64 r0_4) rfl rfl ?_
     refine oV (.bool (!decide (r0_3 = r0_4))) (q_neq rfl rfl) rfl ?_
     refine oM (.bool (!decide (r0_3 = r0_4))) rfl rfl ?_
     rcases Bool.eq_false_or_eq_true (!decide (r0_3 = r0_4)) with c_12 | c_12
     ·
      replace hM := hM.1 (nd_true c_12)
      refine HO.past (past_by rfl rfl c_12) rfl ?_
      refine HO.past (past_by rfl rfl c_12) rfl ?_
      refine HO.past (past_by rfl rfl c_12) rfl ?_
      refine oV (.bool true) (q_pickK true rfl c_12 rfl) rfl ?_
      refine oM (.bool true) rfl rfl ?_
      refine HO.past (past_some rfl rfl) rfl ?_
      refine HO.past (past_some rfl rfl) rfl ?_
      refine HO.past (past_some rfl rfl) rfl ?_
      refine HO.past (past_some rfl rfl) rfl ?_
      refine HO.past (past_some rfl rfl) rfl ?_
      refine HO.past (past_some rfl rfl) rfl ?_
      refine oV (.bool true) (q_pick rfl rfl) rfl ?_
      refine HO.nil (thenQ_normal (?_))
      refine HW.condT rfl ?_
      refine HW.seq ?_
      refine HW.region ?_
      refine oA (.bool false) rfl rfl ?_
      refine HO.nil (thenQ_normal (?_))
      refine HW.ret (blockQ_ret (thenQ_ret (thenQ_ret (blockQ_ret (thenQ_ret (?_))))))
      refine ⟨.inr rfl, .bool false, res1 rfl (rt rfl), ?_⟩
      replace hS : St F_26 (fr) h_25 := hS.perm2 [] 8 rfl rfl
      exact ⟨F_26, false, rfl, hK, hS, hN_acts, hL_acts, hM⟩
     ·
      replace hM := hM.2 (nd_false c_12)
      refine HO.val (v := .bool r1_3) (want_by rfl rfl c_12) rfl (q_move rfl) ?_
      refine HO.val (v := .bool r1_4) (want_by rfl rfl c_12) rfl (q_move rfl) ?_
      refine HO.val (v := .bool (!(r1_3 == r1_4))) (want_by rfl rfl c_12) rfl (q_neqB Tryz.underlying4 rfl rfl) ?_
      refine oV (.bool (!(r1_3 == r1_4))) (q_pickK false rfl c_12 rfl) rfl ?_
      refine oM (.bool (!(r1_3 == r1_4))) rfl rfl ?_
      rcases Bool.eq_false_or_eq_true (!(r1_3 == r1_4)) with c_13 | c_13
      ·
       replace hM := hM.1 c_13
       refine HO.past (past_by rfl rfl c_13) rfl ?_
       refine HO.past (past_by rfl rfl c_13) rfl ?_
       refine HO.past (past_by rfl rfl c_13) rfl ?_
       refine HO.past (past_by rfl rfl c_13) rfl ?_
       refine HO.past (past_by rfl rfl c_13) rfl ?_
       refine HO.past (past_by rfl rfl c_13) rfl ?_
       refine oV (.bool true) (q_pickK true rfl c_13 rfl) rfl ?_
       refine HO.nil (thenQ_normal (?_))
       refine HW.condT rfl ?_
       refine HW.seq ?_
       refine HW.region ?_
       refine oA (.bool false) rfl rfl ?_
       refine HO.nil (thenQ_normal (?_))
       refine HW.ret (blockQ_ret (thenQ_ret (thenQ_ret (blockQ_ret (thenQ_ret (?_))))))
       refine ⟨.inr rfl, .bool false, res1 rfl (rt rfl), ?_⟩
       replace hS : St F_26 (fr) h_25 := hS.perm2 [] 8 rfl rfl
       exact ⟨F_26, false, rfl, hK, hS, hN_acts, hL_acts, hM⟩
      ·
       replace hM := hM.2 c_13
       refine HO.val (v := .pointer (some ⟨b_2, 0, none⟩)) (want_by rfl rfl c_13) rfl (q_move rfl) ?_
       replace hS : St F_26 (Ow.box b_2 167 #[.int .i64 q_now_6, .pointer (some ⟨b_3, 0, none⟩), .int .i64 q_first_6, .map (some r_5)] :: Ow.box b_3 222 #[.map (some r_4)] :: Ow.map r_4 kT kI qm_11 :: Ow.pm r_5 (fun (x : TA) => .agg (eA x).toArray) pv_query_left th_query_left qm_12 none :: Ow.box b_4 95 #[.int .i64 x_0_2, .bool x_1_2, .int .i64 x_2_2, .int .i64 x_3_2, vx_4_2] :: Ow.own 184 20 erO vx_4_2 x_4_2 :: Ow.pool 190 18 erL ps_8 :: Ow.box b_1 56 (e_api_Tune t).toArray :: fr) h_25 := hS.perm2 [3, 4, 5, 6, 0, 1, 2, 7] 8 rfl rfl
       refine HO.call (want_by rfl rfl c_13) rfl (ec en_56 rfl rfl) (query_Queries_Open_walk (fr := (Ow.box b_4 95 #[.int .i64 x_0_2, .bool x_1_2, .int .i64 x_2_2, .int .i64 x_3_2, vx_4_2] :: Ow.own 184 20 erO vx_4_2 x_4_2 :: Ow.pool 190 18 erL ps_8 :: Ow.box b_1 56 (e_api_Tune t).toArray :: fr)) q_now_6 qm_11 q_first_6 qm_12 b_2 b_3 r_4 r_5 hS hM) ?_
       rintro vr_1 h_26 ⟨F_27, r_11, q_now_7, qm_13, q_first_7, qm_14, _, rfl, hk, hS, hL_10, hM⟩
       replace hK := hK.trans hk
       replace hN_acts := hN_acts.kp hk
       replace hL_acts := hL_acts.kp hk
       refine HO.val (v := .pointer (some ⟨b_4, 0, none⟩)) (want_by rfl rfl c_13) rfl (q_move rfl) ?_
       replace hS : St F_27 (Ow.box b_4 95 #[.int .i64 x_0_2, .bool x_1_2, .int .i64 x_2_2, .int .i64 x_3_2, vx_4_2] :: Ow.own 184 20 erO vx_4_2 x_4_2 :: Ow.pool 190 18 erL ps_8 :: Ow.own 97 19 e_api_Asked vr_1 r_11 :: Ow.box b_2 167 #[.int .i64 q_now_7, .pointer (some ⟨b_3, 0, none⟩), .int .i64 q_first_7, .map (some r_5)] :: Ow.box b_3 222 #[.map (some r_4)] :: Ow.map r_4 kT kI qm_13 :: Ow.pm r_5 (fun (x : TA) => .agg (eA x).toArray) pv_query_left th_query_left qm_14 none :: Ow.box b_1 56 (e_api_Tune t).toArray :: fr) h_26 := hS.perm2 [5, 6, 7, 0, 1, 2, 3, 4, 8] 9 rfl rfl
       refine HO.call (want_by rfl rfl c_13) rfl (ec en_57 rfl rfl) (ref22_Q_Open_walk (fr := (Ow.own 97 19 e_api_Asked vr_1 r_11 :: Ow.box b_2 167 #[.int .i64 q_now_7, .pointer (some ⟨b_3, 0, none⟩), .int .i64 q_first_7, .map (some r_5)] :: Ow.box b_3 222 #[.map (some r_4)] :: Ow.map r_4 kT kI qm_13 :: Ow.pm r_5 (fun (x : TA) => .agg (eA x).toArray) pv_query_left th_query_left qm_14 none :: Ow.box b_1 56 (e_api_Tune t).toArray :: fr)) x_0_2 x_1_2 x_2_2 x_3_2 x_4_2 ps_8 b_4 vx_4_2 hS hM) ?_
       rintro vr_2 h_27 ⟨F_28, r_12, ps_9, q_Now_6, q_On_6, q_At_6, q_First_6, q_L_5, _, v_5, rfl, hk, hS, hL_11, hM⟩
       replace hK := hK.trans hk
       replace hN_acts := hN_acts.kp hk
       replace hL_acts := hL_acts.kp hk
       replace hL_10 := hL_10.kp hk
       replace hS : St F_28 (Ow.own 97 19 e_api_Asked vr_1 r_11 :: Ow.own 97 19 e_api_Asked vr_2 r_12 :: Ow.pool 190 18 erL ps_9 :: Ow.box b_4 95 #[.int .i64 q_Now_6, .bool q_On_6, .int .i64 q_At_6, .int .i64 q_First_6, v_5] :: Ow.own 184 20 erO v_5 q_L_5 :: Ow.box b_2 167 #[.int .i64 q_now_7, .pointer (some ⟨b_3, 0, none⟩), .int .i64 q_first_7, .map (some r_5)] :: Ow.box b_3 222 #[.map (some r_4)] :: Ow.map r_4 kT kI qm_13 :: Ow.pm r_5 (fun (x : TA) => .agg (eA x).toArray) pv_query_left th_query_left qm_14 none :: Ow.box b_1 56 (e_api_Tune t).toArray :: fr) h_27 := hS.perm2 [4, 0, 1, 2, 3, 5, 6, 7, 8, 9] 10 rfl rfl
       have hZ_8 := hS
       have hkz_8 := (hS.freeze).2
       replace hS := hS.freeze.1
       have hL_12 : SliceF (fun bz_ => F_28 bz_ ∨ (Ow.own 97 19 e_api_Asked vr_1 r_11).foot bz_) h_27 19 e_api_Asked vr_1 r_11 := ⟨(hZ_8.own 0 rfl).slice, fun _ b hb => .inr hb⟩
       replace hS : St (fun bz_ => F_28 bz_ ∨ (Ow.own 97 19 e_api_Asked vr_1 r_11).foot bz_) (Ow.own 97 19 e_api_Asked vr_2 r_12 :: Ow.pool 190 18 erL ps_9 :: Ow.box b_4 95 #[.int .i64 q_Now_6, .bool q_On_6, .int .i64 q_At_6, .int .i64 q_First_6, v_5] :: Ow.own 184 20 erO v_5 q_L_5 :: Ow.box b_2 167 #[.int .i64 q_now_7, .pointer (some ⟨b_3, 0, none⟩), .int .i64 q_first_7, .map (some r_5)] :: Ow.box b_3 222 #[.map (some r_4)] :: Ow.map r_4 kT kI qm_13 :: Ow.pm r_5 (fun (x : TA) => .agg (eA x).toArray) pv_query_left th_query_left qm_14 none :: Ow.box b_1 56 (e_api_Tune t).toArray :: fr) h_27 := hS
       have hZ_9 := hS
       have hkz_9 := (hS.freeze).2
       replace hS := hS.freeze.1
       have hL_13 : SliceF (fun bz_ => (fun bz_ => F_28 bz_ ∨ (Ow.own 97 19 e_api_Asked vr_1 r_11).foot bz_) bz_ ∨ (Ow.own 97 19 e_api_Asked vr_2 r_12).foot bz_) h_27 19 e_api_Asked vr_2 r_12 := ⟨(hZ_9.own 0 rfl).slice, fun _ b hb => .inr hb⟩
       refine HO.call (want_by rfl rfl c_13) rfl (ec en_53 rfl rfl) (ref18_SameAsked_walk (fr := (Ow.pool 190 18 erL ps_9 :: Ow.box b_4 95 #[.int .i64 q_Now_6, .bool q_On_6, .int .i64 q_At_6, .int .i64 q_First_6, v_5] :: Ow.own 184 20 erO v_5 q_L_5 :: Ow.box b_2 167 #[.int .i64 q_now_7, .pointer (some ⟨b_3, 0, none⟩), .int .i64 q_first_7, .map (some r_5)] :: Ow.box b_3 222 #[.map (some r_4)] :: Ow.map r_4 kT kI qm_13 :: Ow.pm r_5 (fun (x : TA) => .agg (eA x).toArray) pv_query_left th_query_left qm_14 none :: Ow.box b_1 56 (e_api_Tune t).toArray :: fr)) r_11 r_12 vr_1 vr_2 hS (NfL.kp (NfL.kp hL_10 hkz_8) hkz_9) (hL_12.kp hkz_9) (NfL.kp (NfL.kp hL_11 hkz_8) hkz_9) hL_13 hM) ?_
       rintro _ h_28 ⟨F_29, r_13, rfl, hk, hS, _, _, _, _, hM⟩
       obtain ⟨hS, hk⟩ := hZ_9.back hk hS
       obtain ⟨hS, hk⟩ := hZ_8.back hk hS
       generalize (fun bz_ => (fun bz_ => F_29 bz_ ∧ ¬ (Ow.own 97 19 e_api_Asked vr_2 r_12).foot bz_) bz_ ∧ ¬ (Ow.own 97 19 e_api_Asked vr_1 r_11).foot bz_) = F_30 at hS hk
       replace hK := hK.trans hk
       replace hN_acts := hN_acts.kp hk
       replace hL_acts := hL_acts.kp hk
       refine HO.val (v := .bool (!r_13)) (want_by rfl rfl c_13) rfl (q_not rfl) ?_
       refine oV (.bool (!r_13)) (q_pickK false rfl c_13 rfl) rfl ?_
       refine HO.nil (thenQ_normal (?_))
       refine HW.cond (!r_13) rfl (fun c_14 => ?_) (fun c_14 => ?_)
       ·
        replace hM := hM.1 c_14
        refine HW.seq ?_
        refine HW.region ?_
        refine oA (.bool false) rfl rfl ?_
        refine HO.nil (thenQ_normal (?_))
        refine HW.ret (blockQ_ret (thenQ_ret (thenQ_ret (blockQ_ret (thenQ_ret (?_))))))
        refine ⟨.inr rfl, .bool false, res1 rfl (rt rfl), ?_⟩
        replace hS : St F_30 (fr) h_28 := hS.perm2 [] 10 rfl rfl
        exact ⟨F_30, false, rfl, hK, hS, hN_acts, hL_acts, hM⟩
       ·
        replace hM := hM.2 c_14
        refine HW.skip (blockQ_normal (thenQ_normal (?_)))
        refine HW.region ?_
        refine oM (.int .i64 i_1) rfl rfl ?_
        obtain ⟨ho_3, hM⟩ := hM
        refine oV (.int .i64 (i_1 + 1)) (q_addN _ rfl rfl rfl ho_3.1 ho_3.2) rfl ?_
        refine oA (.int .i64 (i_1 + 1)) rfl rfl ?_
        refine HO.nil (thenQ_normal (?_))
        replace hS : St F_30 (Ow.pool 190 18 erL ps_9 :: Ow.box b_1 56 (e_api_Tune t).toArray :: Ow.box b_2 167 #[.int .i64 q_now_7, .pointer (some ⟨b_3, 0, none⟩), .int .i64 q_first_7, .map (some r_5)] :: Ow.box b_3 222 #[.map (some r_4)] :: Ow.map r_4 kT kI qm_13 :: Ow.pm r_5 (fun (x : TA) => .agg (eA x).toArray) pv_query_left th_query_left qm_14 none :: Ow.box b_4 95 #[.int .i64 q_Now_6, .bool q_On_6, .int .i64 q_At_6, .int .i64 q_First_6, v_5] :: Ow.own 184 20 erO v_5 q_L_5 :: fr) h_28 := hS.perm2 [2, 9, 5, 6, 7, 8, 3, 4] 10 rfl rfl
        rw [hKe_1] at hM
        exact ⟨(ps_9, q_now_7, qm_13, q_first_7, qm_14, q_Now_6, q_On_6, q_At_6, q_First_6, q_L_5, now_1 + r_1_1, i_1 + 1), ⟨F_30, v_5, rfl, rfl, rfl, rfl, rfl, rfl, rfl, hK, hS, hN_acts, hL_acts, hM.1⟩, hM.2⟩
   ·
    replace hM := hM.2 c_3
    refine HW.exit (thenQ_exit (thenQ_exit (blockQ_exit (thenQ_normal (?_)))))
    refine HW.seq ?_
    refine HW.region ?_
    refine HO.call (want_none) rfl (ec en_40 rfl rfl) (law22_lives_walk (fr := (Ow.pool 190 18 erL ps_1 :: Ow.box b_1 56 (e_api_Tune t).toArray :: Ow.box b_2 167 #[.int .i64 q_0_1, .pointer (some ⟨b_3, 0, none⟩), .int .i64 q_2_1, .map (some r_5)] :: Ow.box b_3 222 #[.map (some r_4)] :: Ow.map r_4 kT kI q_1_0_1 :: Ow.pm r_5 (fun (x : TA) => .agg (eA x).toArray) pv_query_left th_query_left q_3_1 none :: Ow.box b_4 95 #[.int .i64 x_0_1, .bool x_1_1, .int .i64 x_2_1, .int .i64 x_3_1, vx_4_1] :: Ow.own 184 20 erO vx_4_1 x_4_1 :: fr))  hS hM) ?_
    rintro _ h_29 ⟨F_31, r_14, rfl, hk, hS, hM⟩
    replace hK := hK.trans hk
    replace hN_acts := hN_acts.kp hk
    replace hL_acts := hL_acts.kp hk
    refine oA (.bool r_14) rfl rfl ?_
    refine HO.nil (thenQ_normal (?_))
    refine HW.ret (?_)
    refine ⟨.inr rfl, .bool r_14, res1 rfl (rt rfl), ?_⟩
    replace hS : St F_31 (fr) h_29 := hS.perm2 [] 8 rfl rfl
    exact ⟨F_31, r_14, rfl, hK, hS, hN_acts, hL_acts, hM⟩
end Go.Wk
