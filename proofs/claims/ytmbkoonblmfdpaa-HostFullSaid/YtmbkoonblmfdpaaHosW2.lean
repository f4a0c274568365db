/- Walks of Host and Proxy. -/
import Derived.Test.YtmbkoonblmfdpaaHosW1
set_option linter.unusedSimpArgs false
set_option linter.unusedVariables false
set_option linter.unusedSectionVars false
set_option maxHeartbeats 40000000
set_option maxRecDepth 100000
namespace Go.Wk
open Go.HL
open Go.Proofs hiding encI
variable [DM]
def host_Host_older_j2 (h_v6 : Bool) (h_now : Int) (h_want : List (T_api_Addr × T_api_Filter)) (h_one : Int) (h_two : Int) (g : T_api_Addr) (kind : Int) (Q : (List T_api_Talk) → Bool → Int → (List (T_api_Addr × T_api_Filter)) → Int → Int → Prop) (t_1_1 : Int) (b_4 : Bool) : Prop :=
 (b_4 = true → Q [] h_v6 h_now h_want h_one h_two) ∧ (b_4 = false → Q ([(h_v6, t_1_1, kind, 0, g, false, 0, 0, (.slice none 0 0, []), (.slice none 0 0, []))] : List T_api_Talk) h_v6 h_now h_want h_one h_two)
def host_Host_older_j1 (h_v6 : Bool) (h_now : Int) (h_want : List (T_api_Addr × T_api_Filter)) (h_one : Int) (h_two : Int) (g : T_api_Addr) (kind : Int) (Q : (List T_api_Talk) → Bool → Int → (List (T_api_Addr × T_api_Filter)) → Int → Int → Prop) (t_1_1 : Int) : Prop :=
 (kind = 3 → (t_1_1 = 1 → host_Host_older_j2 h_v6 h_now h_want h_one h_two g kind Q t_1_1 (!h_v6)) ∧ (¬ (t_1_1 = 1) → host_Host_older_j2 h_v6 h_now h_want h_one h_two g kind Q t_1_1 false)) ∧ (¬ (kind = 3) → host_Host_older_j2 h_v6 h_now h_want h_one h_two g kind Q t_1_1 false)
def host_Host_older_W (h_v6 : Bool) (h_now : Int) (h_want : List (T_api_Addr × T_api_Filter)) (h_one : Int) (h_two : Int) (g : T_api_Addr) (kind : Int) (Q : (List T_api_Talk) → Bool → Int → (List (T_api_Addr × T_api_Filter)) → Int → Int → Prop) : Prop :=
 host_Host_mode_W h_v6 h_now h_want h_one h_two (fun r_2 => host_Host_older_j1 h_v6 h_now h_want h_one h_two g kind Q r_2)
theorem host_Host_older_walk {F : Fz} {fr : List Ow} {h0 : Heap} (h_v6 : Bool) (h_now : Int) (h_want : List (T_api_Addr × T_api_Filter)) (h_one : Int) (h_two : Int) (g : T_api_Addr) (kind : Int) (bh : Nat) (rh_want : Nat) (hS : St F (Ow.box bh 52 #[.bool h_v6, .int .i64 h_now, .map (some rh_want), .int .i64 h_one, .int .i64 h_two] :: Ow.map rh_want (fun (x : T_api_Addr) => .agg (e_api_Addr x).toArray) (fun (x : T_api_Filter) => .agg #[.bool x.1, x.2.1]) h_want :: fr) h0) (hN_h_want : NfL nf_api_Filter F h0 (h_want.map (·.2))) {Q : (List T_api_Talk) → Bool → Int → (List (T_api_Addr × T_api_Filter)) → Int → Int → Prop} (hM : host_Host_older_W h_v6 h_now h_want h_one h_two g kind Q) :
  HC Try.prog 30 #[.pointer (some ⟨bh, 0, none⟩), .agg (e_api_Addr g).toArray, .int .i64 kind] h0 fun u h' => ∃ (F' : Fz) (r_1 : List T_api_Talk) (a0_v6_1 : Bool) (a0_now_1 : Int) (a0m_1 : List (T_api_Addr × T_api_Filter)) (a0_one_1 : Int) (a0_two_1 : Int) (vr_1 : Value), u = vr_1 ∧ Kp F h0 F' h' ∧ St F' (Ow.own 39 26 e_api_Talk vr_1 r_1 :: Ow.box bh 52 #[.bool a0_v6_1, .int .i64 a0_now_1, .map (some rh_want), .int .i64 a0_one_1, .int .i64 a0_two_1] :: Ow.map rh_want (fun (x : T_api_Addr) => .agg (e_api_Addr x).toArray) (fun (x : T_api_Filter) => .agg #[.bool x.1, x.2.1]) a0m_1 :: fr) h' ∧ (NfL nf_api_Filter F' h' (h_want.map (·.2))) ∧ (NfL nf_api_Talk F' h' r_1) ∧ (NfL nf_api_Filter F' h' (a0m_1.map (·.2))) ∧ Q r_1 a0_v6_1 a0_now_1 a0m_1 a0_one_1 a0_two_1 := by
 unfold host_Host_older_W at hM
 have hK := Kp.refl F h0
 refine HC.of_HW (n := 33) Try.func30 rfl rfl (Nat.le_of_ble_eq_true rfl) ?_
 refine HW.seq ?_
 refine HW.region ?_
 refine HO.eff (want_none) rfl (st_box (c := (e_api_Addr g).toArray) (k' := 17) hS rfl rfl) ?_
 rintro _ h_1 ⟨b_1, rfl, hS, hk⟩
 replace hK := hK.trans hk
 replace hN_h_want := hN_h_want.kp hk
 refine oA (.slice none 0 0) rfl rfl ?_
 refine HO.nil (thenQ_normal (?_))
 refine HW.seq_mid (fun f h => ∃ (F' : Fz) (t_1_1 : Int) (b_2 : Nat), f 0 = .pointer (some ⟨bh, 0, none⟩) ∧ f 2 = .int .i64 kind ∧ f 6 = .slice none 0 0 ∧ f 7 = .pointer (some ⟨b_2, 0, none⟩) ∧ Kp F h0 F' h ∧ St F' (Ow.box bh 52 #[.bool h_v6, .int .i64 h_now, .map (some rh_want), .int .i64 h_one, .int .i64 h_two] :: Ow.map rh_want (fun (x : T_api_Addr) => .agg (e_api_Addr x).toArray) (fun (x : T_api_Filter) => .agg #[.bool x.1, x.2.1]) h_want :: Ow.box b_2 39 (c_api_Talk (.bool h_v6) (.int .i64 t_1_1) (.int .i64 kind) (.int .i64 0) g (.bool false) (.int .i64 0) (.int .i64 0) (.slice none 0 0) (.slice none 0 0)).toArray :: fr) h ∧ (NfL nf_api_Filter F' h (h_want.map (·.2))) ∧ host_Host_older_j1 h_v6 h_now h_want h_one h_two g kind Q t_1_1) ?_ ?_
 ·
  refine HW.regionA 11 mixed (fun h => (Blk h b_1 (.cells (e_api_Addr g).toArray 30 (0, 0))) ∧ (Blk h bh (.cells #[.bool h_v6, .int .i64 h_now, .map (some rh_want), .int .i64 h_one, .int .i64 h_two] 52 (0, 0)))) [] (by kernel_rfl) ?_
  refine HA.val (k := 0) (v := .pointer (some ⟨bh, 0, none⟩)) rfl rfl (by kernel_rfl) (by kernel_rfl) (want_none) rfl (fun _ ⟨c208, c1⟩ => q_move rfl) ?_
  refine HA.val (k := 1) (v := .pointer (some ⟨bh, 0, none⟩)) rfl rfl (by kernel_rfl) (by kernel_rfl) (want_none) rfl (fun _ ⟨c208, c1⟩ => q_nilCheck rfl) ?_
  refine HA.val (k := 2) (v := .pointer (some ⟨bh, 0, none⟩)) rfl rfl (by kernel_rfl) (by kernel_rfl) (want_none) rfl (fun _ ⟨c208, c1⟩ => q_fieldAddr fa_52_0 rfl rfl) ?_
  refine HA.val (k := 3) (v := .bool h_v6) rfl rfl (by kernel_rfl) (by kernel_rfl) (want_none) rfl (fun _ ⟨c208, c1⟩ => q_load to_4 rfl (Blk.cell c1 rfl)) ?_
  refine HA.val (k := 4) (v := .pointer (some ⟨bh, 0, none⟩)) rfl rfl (by kernel_rfl) (by kernel_rfl) (want_none) rfl (fun _ ⟨c208, c1⟩ => q_move rfl) ?_
  refine HA.val (k := 6) (v := .int .i64 kind) rfl rfl (by kernel_rfl) (by kernel_rfl) (want_none) rfl (fun _ ⟨c208, c1⟩ => q_move rfl) ?_
  refine HA.val (k := 7) (v := .agg (e_api_Addr g).toArray) rfl rfl (by kernel_rfl) (by kernel_rfl) (want_none) rfl (fun _ ⟨c208, c1⟩ => q_loadAgg (cs := (e_api_Addr g)) ta_30 rfl rfl (Blk.cells (k := 17) c208 rfl)) ?_
  refine HA.two (k := 5) (k' := 9) ⟨⟨(hS.box 0 rfl), (hS.box 1 rfl)⟩, (Go.Wk.at_nil _ _)⟩ (by kernel_rfl) ?_ ?_
  ·
   replace hS : St F (Ow.box bh 52 #[.bool h_v6, .int .i64 h_now, .map (some rh_want), .int .i64 h_one, .int .i64 h_two] :: Ow.box b_1 30 (e_api_Addr g).toArray :: Ow.map rh_want (fun (x : T_api_Addr) => .agg (e_api_Addr x).toArray) (fun (x : T_api_Filter) => .agg #[.bool x.1, x.2.1]) h_want :: fr) h_1 := hS.perm2 [1, 0, 2] 3 rfl rfl
   have hZ_1 := hS
   have hkz_1 := (hS.freeze).2
   replace hS := hS.freeze.1
   have hL_1 := hZ_1.lent
   replace hS : St (fun bz_ => F bz_ ∨ (Ow.box bh 52 #[.bool h_v6, .int .i64 h_now, .map (some rh_want), .int .i64 h_one, .int .i64 h_two]).foot bz_) (Ow.map rh_want (fun (x : T_api_Addr) => .agg (e_api_Addr x).toArray) (fun (x : T_api_Filter) => .agg #[.bool x.1, x.2.1]) h_want :: Ow.box b_1 30 (e_api_Addr g).toArray :: fr) h_1 := hS.perm2 [1, 0] 2 rfl rfl
   have hZ_2 := hS
   have hkz_2 := (hS.freeze).2
   replace hS := hS.freeze.1
   have hL_2 := hZ_2.lent
   refine HS.call rfl (want_none) rfl (ec en_28 rfl rfl) (host_Host_mode_walk (fr := (Ow.box b_1 30 (e_api_Addr g).toArray :: fr)) h_v6 h_now h_want h_one h_two bh rh_want hS (NfL.kp (NfL.kp hN_h_want hkz_1) hkz_2) hL_2 (hL_1.kp hkz_2) hM) ?_
   rintro _ h_2 ⟨F_1, r_2, rfl, hk, hS, _, _, _, hM⟩
   obtain ⟨hS, hk⟩ := hZ_2.back hk hS
   obtain ⟨hS, hk⟩ := hZ_1.back hk hS
   generalize (fun bz_ => (fun bz_ => F_1 bz_ ∧ ¬ (Ow.map rh_want (fun (x : T_api_Addr) => .agg (e_api_Addr x).toArray) (fun (x : T_api_Filter) => .agg #[.bool x.1, x.2.1]) h_want).foot bz_) bz_ ∧ ¬ (Ow.box bh 52 #[.bool h_v6, .int .i64 h_now, .map (some rh_want), .int .i64 h_one, .int .i64 h_two]).foot bz_) = F_2 at hS hk
   replace hK := hK.trans hk
   replace hN_h_want := hN_h_want.kp hk
   refine HA.val (k := 8) (v := .agg (c_api_Talk (.bool h_v6) (.int .i64 r_2) (.int .i64 kind) (.int .i64 0) g (.bool false) (.int .i64 0) (.int .i64 0) (.slice none 0 0) (.slice none 0 0)).toArray) rfl rfl (by kernel_rfl) (by kernel_rfl) (want_none) rfl (fun _ ⟨c208, c1⟩ => q_build tp_39 (fill_cons (cs' := (c_api_Talk (.bool h_v6) (.int .i64 0) (.int .i64 0) (.int .i64 0) (false, (default : Ba 16)) (.bool false) (.int .i64 0) (.int .i64 0) (.slice none 0 0) (.slice none 0 0)).toArray) (vc := #[.bool h_v6]) rfl rfl rfl (Nat.le_of_ble_eq_true rfl) rfl (fill_cons (cs' := (c_api_Talk (.bool h_v6) (.int .i64 r_2) (.int .i64 0) (.int .i64 0) (false, (default : Ba 16)) (.bool false) (.int .i64 0) (.int .i64 0) (.slice none 0 0) (.slice none 0 0)).toArray) (vc := #[.int .i64 r_2]) rfl rfl rfl (Nat.le_of_ble_eq_true rfl) rfl (fill_cons (cs' := (c_api_Talk (.bool h_v6) (.int .i64 r_2) (.int .i64 kind) (.int .i64 0) (false, (default : Ba 16)) (.bool false) (.int .i64 0) (.int .i64 0) (.slice none 0 0) (.slice none 0 0)).toArray) (vc := #[.int .i64 kind]) rfl rfl rfl (Nat.le_of_ble_eq_true rfl) rfl (fill_cons (cs' := (c_api_Talk (.bool h_v6) (.int .i64 r_2) (.int .i64 kind) (.int .i64 0) g (.bool false) (.int .i64 0) (.int .i64 0) (.slice none 0 0) (.slice none 0 0)).toArray) (vc := (e_api_Addr g).toArray) rfl rfl rfl (Nat.le_of_ble_eq_true rfl) rfl rfl))))) ?_
   refine HA.one (k := 9) ⟨⟨(hS.box 2 rfl), (hS.box 0 rfl)⟩, (Go.Wk.at_nil _ _)⟩ (by kernel_rfl) ?_
   refine HS.eff rfl (want_none) rfl (st_alloc (c := (c_api_Talk (.bool false) (.int .i64 0) (.int .i64 0) (.int .i64 0) (false, (default : Ba 16)) (.bool false) (.int .i64 0) (.int .i64 0) (.slice none 0 0) (.slice none 0 0)).toArray) hS tz_39 rfl) ?_
   rintro _ h_3 ⟨b_3, rfl, hS, hk⟩
   replace hK := hK.trans hk
   replace hN_h_want := hN_h_want.kp hk
   refine HA.one (k := 10) ⟨⟨(hS.box 3 rfl), (hS.box 1 rfl)⟩, (Go.Wk.at_nil _ _)⟩ (by kernel_rfl) ?_
   refine HS.sto rfl (want_none) rfl (st_storeAgg (c' := (c_api_Talk (.bool h_v6) (.int .i64 r_2) (.int .i64 kind) (.int .i64 0) g (.bool false) (.int .i64 0) (.int .i64 0) (.slice none 0 0) (.slice none 0 0)).toArray) hS (i := 0) rfl ta_39 rfl rfl rfl (List.forall_mem_cons.2 ⟨rfl, (List.forall_mem_cons.2 ⟨rfl, (List.forall_mem_cons.2 ⟨rfl, (List.forall_mem_cons.2 ⟨rfl, (List.forall_mem_cons.2 ⟨rfl, (List.forall_mem_cons.2 ⟨rfl, (List.forall_mem_cons.2 ⟨rfl, (List.forall_mem_cons.2 ⟨rfl, (List.forall_mem_cons.2 ⟨rfl, (List.forall_mem_cons.2 ⟨rfl, (List.forall_mem_cons.2 ⟨rfl, (List.forall_mem_cons.2 ⟨rfl, (List.forall_mem_cons.2 ⟨rfl, (List.forall_mem_cons.2 ⟨rfl, (List.forall_mem_cons.2 ⟨rfl, (List.forall_mem_cons.2 ⟨rfl, (List.forall_mem_cons.2 ⟨rfl, (List.forall_mem_cons.2 ⟨rfl, (List.forall_mem_cons.2 ⟨rfl, (List.forall_mem_cons.2 ⟨rfl, (List.forall_mem_cons.2 ⟨rfl, (List.forall_mem_cons.2 ⟨rfl, (List.forall_mem_cons.2 ⟨rfl, (List.forall_mem_cons.2 ⟨rfl, (List.forall_mem_cons.2 ⟨rfl, (List.forall_mem_cons.2 ⟨rfl, (fun _ h => by cases h)⟩)⟩)⟩)⟩)⟩)⟩)⟩)⟩)⟩)⟩)⟩)⟩)⟩)⟩)⟩)⟩)⟩)⟩)⟩)⟩)⟩)⟩)⟩)⟩)⟩)⟩) (Nat.le_of_ble_eq_true rfl) rfl) ?_
   rintro h_4 ⟨hS, hk⟩
   replace hK := hK.trans hk
   replace hN_h_want := hN_h_want.kp hk
   refine HA.nil ⟨⟨(hS.box 3 rfl), (hS.box 1 rfl)⟩, (Go.Wk.at_nil _ _)⟩ (by kernel_rfl) (thenQ_normal (?_))
   replace hS : St F_2 (Ow.box bh 52 #[.bool h_v6, .int .i64 h_now, .map (some rh_want), .int .i64 h_one, .int .i64 h_two] :: Ow.map rh_want (fun (x : T_api_Addr) => .agg (e_api_Addr x).toArray) (fun (x : T_api_Filter) => .agg #[.bool x.1, x.2.1]) h_want :: Ow.box b_3 39 (c_api_Talk (.bool h_v6) (.int .i64 r_2) (.int .i64 kind) (.int .i64 0) g (.bool false) (.int .i64 0) (.int .i64 0) (.slice none 0 0) (.slice none 0 0)).toArray :: fr) h_4 := hS.perm2 [1, 2, 0] 4 rfl rfl
   exact ⟨F_2, r_2, b_3, rfl, rfl, rfl, rfl, hK, hS, hN_h_want, hM⟩
  ·
   refine HS.eff rfl (want_none) rfl (st_alloc (c := (c_api_Talk (.bool false) (.int .i64 0) (.int .i64 0) (.int .i64 0) (false, (default : Ba 16)) (.bool false) (.int .i64 0) (.int .i64 0) (.slice none 0 0) (.slice none 0 0)).toArray) hS tz_39 rfl) ?_
   rintro _ h_2 ⟨b_3, rfl, hS, hk⟩
   replace hK := hK.trans hk
   replace hN_h_want := hN_h_want.kp hk
   refine HA.one (k := 5) ⟨⟨(hS.box 1 rfl), (hS.box 2 rfl)⟩, (Go.Wk.at_nil _ _)⟩ (by kernel_rfl) ?_
   replace hS : St F (Ow.box bh 52 #[.bool h_v6, .int .i64 h_now, .map (some rh_want), .int .i64 h_one, .int .i64 h_two] :: Ow.box b_3 39 (c_api_Talk (.bool false) (.int .i64 0) (.int .i64 0) (.int .i64 0) (false, (default : Ba 16)) (.bool false) (.int .i64 0) (.int .i64 0) (.slice none 0 0) (.slice none 0 0)).toArray :: Ow.box b_1 30 (e_api_Addr g).toArray :: Ow.map rh_want (fun (x : T_api_Addr) => .agg (e_api_Addr x).toArray) (fun (x : T_api_Filter) => .agg #[.bool x.1, x.2.1]) h_want :: fr) h_2 := hS.perm2 [2, 0, 1, 3] 4 rfl rfl
   have hZ_1 := hS
   have hkz_1 := (hS.freeze).2
   replace hS := hS.freeze.1
   have hL_1 := hZ_1.lent
   replace hS : St (fun bz_ => F bz_ ∨ (Ow.box bh 52 #[.bool h_v6, .int .i64 h_now, .map (some rh_want), .int .i64 h_one, .int .i64 h_two]).foot bz_) (Ow.map rh_want (fun (x : T_api_Addr) => .agg (e_api_Addr x).toArray) (fun (x : T_api_Filter) => .agg #[.bool x.1, x.2.1]) h_want :: Ow.box b_3 39 (c_api_Talk (.bool false) (.int .i64 0) (.int .i64 0) (.int .i64 0) (false, (default : Ba 16)) (.bool false) (.int .i64 0) (.int .i64 0) (.slice none 0 0) (.slice none 0 0)).toArray :: Ow.box b_1 30 (e_api_Addr g).toArray :: fr) h_2 := hS.perm2 [2, 0, 1] 3 rfl rfl
   have hZ_2 := hS
   have hkz_2 := (hS.freeze).2
   replace hS := hS.freeze.1
   have hL_2 := hZ_2.lent
   refine HS.call rfl (want_none) rfl (ec en_28 rfl rfl) (host_Host_mode_walk (fr := (Ow.box b_3 39 (c_api_Talk (.bool false) (.int .i64 0) (.int .i64 0) (.int .i64 0) (false, (default : Ba 16)) (.bool false) (.int .i64 0) (.int .i64 0) (.slice none 0 0) (.slice none 0 0)).toArray :: Ow.box b_1 30 (e_api_Addr g).toArray :: fr)) h_v6 h_now h_want h_one h_two bh rh_want hS (NfL.kp (NfL.kp hN_h_want hkz_1) hkz_2) hL_2 (hL_1.kp hkz_2) hM) ?_
   rintro _ h_3 ⟨F_1, r_2, rfl, hk, hS, _, _, _, hM⟩
   obtain ⟨hS, hk⟩ := hZ_2.back hk hS
   obtain ⟨hS, hk⟩ := hZ_1.back hk hS
   generalize (fun bz_ => (fun bz_ => F_1 bz_ ∧ ¬ (Ow.map rh_want (fun (x : T_api_Addr) => .agg (e_api_Addr x).toArray) (fun (x : T_api_Filter) => .agg #[.bool x.1, x.2.1]) h_want).foot bz_) bz_ ∧ ¬ (Ow.box bh 52 #[.bool h_v6, .int .i64 h_now, .map (some rh_want), .int .i64 h_one, .int .i64 h_two]).foot bz_) = F_2 at hS hk
   replace hK := hK.trans hk
   replace hN_h_want := hN_h_want.kp hk
   refine HA.val (k := 8) (v := .agg (c_api_Talk (.bool h_v6) (.int .i64 r_2) (.int .i64 kind) (.int .i64 0) g (.bool false) (.int .i64 0) (.int .i64 0) (.slice none 0 0) (.slice none 0 0)).toArray) rfl rfl (by kernel_rfl) (by kernel_rfl) (want_none) rfl (fun _ ⟨c208, c1⟩ => q_build tp_39 (fill_cons (cs' := (c_api_Talk (.bool h_v6) (.int .i64 0) (.int .i64 0) (.int .i64 0) (false, (default : Ba 16)) (.bool false) (.int .i64 0) (.int .i64 0) (.slice none 0 0) (.slice none 0 0)).toArray) (vc := #[.bool h_v6]) rfl rfl rfl (Nat.le_of_ble_eq_true rfl) rfl (fill_cons (cs' := (c_api_Talk (.bool h_v6) (.int .i64 r_2) (.int .i64 0) (.int .i64 0) (false, (default : Ba 16)) (.bool false) (.int .i64 0) (.int .i64 0) (.slice none 0 0) (.slice none 0 0)).toArray) (vc := #[.int .i64 r_2]) rfl rfl rfl (Nat.le_of_ble_eq_true rfl) rfl (fill_cons (cs' := (c_api_Talk (.bool h_v6) (.int .i64 r_2) (.int .i64 kind) (.int .i64 0) (false, (default : Ba 16)) (.bool false) (.int .i64 0) (.int .i64 0) (.slice none 0 0) (.slice none 0 0)).toArray) (vc := #[.int .i64 kind]) rfl rfl rfl (Nat.le_of_ble_eq_true rfl) rfl (fill_cons (cs' := (c_api_Talk (.bool h_v6) (.int .i64 r_2) (.int .i64 kind) (.int .i64 0) g (.bool false) (.int .i64 0) (.int .i64 0) (.slice none 0 0) (.slice none 0 0)).toArray) (vc := (e_api_Addr g).toArray) rfl rfl rfl (Nat.le_of_ble_eq_true rfl) rfl rfl))))) ?_
   refine HA.one (k := 10) ⟨⟨(hS.box 3 rfl), (hS.box 0 rfl)⟩, (Go.Wk.at_nil _ _)⟩ (by kernel_rfl) ?_
   refine HS.sto rfl (want_none) rfl (st_storeAgg (c' := (c_api_Talk (.bool h_v6) (.int .i64 r_2) (.int .i64 kind) (.int .i64 0) g (.bool false) (.int .i64 0) (.int .i64 0) (.slice none 0 0) (.slice none 0 0)).toArray) hS (i := 2) rfl ta_39 rfl rfl rfl (List.forall_mem_cons.2 ⟨rfl, (List.forall_mem_cons.2 ⟨rfl, (List.forall_mem_cons.2 ⟨rfl, (List.forall_mem_cons.2 ⟨rfl, (List.forall_mem_cons.2 ⟨rfl, (List.forall_mem_cons.2 ⟨rfl, (List.forall_mem_cons.2 ⟨rfl, (List.forall_mem_cons.2 ⟨rfl, (List.forall_mem_cons.2 ⟨rfl, (List.forall_mem_cons.2 ⟨rfl, (List.forall_mem_cons.2 ⟨rfl, (List.forall_mem_cons.2 ⟨rfl, (List.forall_mem_cons.2 ⟨rfl, (List.forall_mem_cons.2 ⟨rfl, (List.forall_mem_cons.2 ⟨rfl, (List.forall_mem_cons.2 ⟨rfl, (List.forall_mem_cons.2 ⟨rfl, (List.forall_mem_cons.2 ⟨rfl, (List.forall_mem_cons.2 ⟨rfl, (List.forall_mem_cons.2 ⟨rfl, (List.forall_mem_cons.2 ⟨rfl, (List.forall_mem_cons.2 ⟨rfl, (List.forall_mem_cons.2 ⟨rfl, (List.forall_mem_cons.2 ⟨rfl, (List.forall_mem_cons.2 ⟨rfl, (List.forall_mem_cons.2 ⟨rfl, (fun _ h => by cases h)⟩)⟩)⟩)⟩)⟩)⟩)⟩)⟩)⟩)⟩)⟩)⟩)⟩)⟩)⟩)⟩)⟩)⟩)⟩)⟩)⟩)⟩)⟩)⟩)⟩)⟩) (Nat.le_of_ble_eq_true rfl) rfl) ?_
   rintro h_4 ⟨hS, hk⟩
   replace hK := hK.trans hk
   replace hN_h_want := hN_h_want.kp hk
   refine HA.nil ⟨⟨(hS.box 3 rfl), (hS.box 0 rfl)⟩, (Go.Wk.at_nil _ _)⟩ (by kernel_rfl) (thenQ_normal (?_))
   replace hS : St F_2 (Ow.box bh 52 #[.bool h_v6, .int .i64 h_now, .map (some rh_want), .int .i64 h_one, .int .i64 h_two] :: Ow.map rh_want (fun (x : T_api_Addr) => .agg (e_api_Addr x).toArray) (fun (x : T_api_Filter) => .agg #[.bool x.1, x.2.1]) h_want :: Ow.box b_3 39 (c_api_Talk (.bool h_v6) (.int .i64 r_2) (.int .i64 kind) (.int .i64 0) g (.bool false) (.int .i64 0) (.int .i64 0) (.slice none 0 0) (.slice none 0 0)).toArray :: fr) h_4 := hS.perm2 [0, 1, 2] 4 rfl rfl
   exact ⟨F_2, r_2, b_3, rfl, rfl, rfl, rfl, hK, hS, hN_h_want, hM⟩
 ·
  rintro f_1 h_5 ⟨F_3, t_1_1, b_2, e0, e2, e6, e7, hK, hS, hN_h_want, hM⟩
  unfold host_Host_older_j1 at hM
  refine HW.fr [(0, .pointer (some ⟨bh, 0, none⟩)), (2, .int .i64 kind), (6, .slice none 0 0), (7, .pointer (some ⟨b_2, 0, none⟩))] ⟨e0, e2, e6, e7, trivial⟩ ?_
  refine HW.seq ?_
  refine HW.seq_mid (fun f h => ∃ (F' : Fz) (b_4 : Bool), f 6 = .slice none 0 0 ∧ f 7 = .pointer (some ⟨b_2, 0, none⟩) ∧ f 30 = .bool b_4 ∧ Kp F h0 F' h ∧ St F' (Ow.box bh 52 #[.bool h_v6, .int .i64 h_now, .map (some rh_want), .int .i64 h_one, .int .i64 h_two] :: Ow.map rh_want (fun (x : T_api_Addr) => .agg (e_api_Addr x).toArray) (fun (x : T_api_Filter) => .agg #[.bool x.1, x.2.1]) h_want :: Ow.box b_2 39 (c_api_Talk (.bool h_v6) (.int .i64 t_1_1) (.int .i64 kind) (.int .i64 0) g (.bool false) (.int .i64 0) (.int .i64 0) (.slice none 0 0) (.slice none 0 0)).toArray :: fr) h ∧ (NfL nf_api_Filter F' h (h_want.map (·.2))) ∧ host_Host_older_j2 h_v6 h_now h_want h_one h_two g kind Q t_1_1 b_4) ?_ ?_
  ·
   refine HW.region ?_
   refine oM (.int .i64 kind) rfl rfl ?_
   refine oV (.bool (decide (kind = 3))) (q_eql rfl rfl) rfl ?_
   refine oM (.bool (decide (kind = 3))) rfl rfl ?_
   rcases Bool.eq_false_or_eq_true (decide (kind = 3)) with c_1 | c_1
   ·
    replace hM := hM.1 (of_decide_eq_true c_1)
    refine HO.val (v := .pointer (some ⟨b_2, 1, none⟩)) (want_by rfl rfl c_1) rfl (q_fieldAddr fa_39_1 rfl rfl) ?_
    refine HO.val (v := .int .i64 t_1_1) (want_by rfl rfl c_1) rfl (q_load to_3 rfl (Blk.cell (hS.box 2 rfl) rfl)) ?_
    refine HO.val (v := .bool (decide (t_1_1 = 1))) (want_by rfl rfl c_1) rfl (q_eql rfl rfl) ?_
    refine oV (.bool (decide (t_1_1 = 1))) (q_pickK true rfl c_1 rfl) rfl ?_
    refine oM (.bool (decide (t_1_1 = 1))) rfl rfl ?_
    rcases Bool.eq_false_or_eq_true (decide (t_1_1 = 1)) with c_2 | c_2
    ·
     replace hM := hM.1 (of_decide_eq_true c_2)
     refine HO.val (v := .pointer (some ⟨bh, 0, none⟩)) (want_by rfl rfl c_2) rfl (q_move rfl) ?_
     refine HO.val (v := .pointer (some ⟨bh, 0, none⟩)) (want_by rfl rfl c_2) rfl (q_nilCheck rfl) ?_
     refine HO.val (v := .pointer (some ⟨bh, 0, none⟩)) (want_by rfl rfl c_2) rfl (q_fieldAddr fa_52_0 rfl rfl) ?_
     refine HO.val (v := .bool h_v6) (want_by rfl rfl c_2) rfl (q_load to_4 rfl (Blk.cell (hS.box 0 rfl) rfl)) ?_
     refine HO.val (v := .bool (!h_v6)) (want_by rfl rfl c_2) rfl (q_not rfl) ?_
     refine oV (.bool (!h_v6)) (q_pickK true rfl c_2 rfl) rfl ?_
     refine HO.nil (thenQ_normal (?_))
     exact ⟨F_3, !h_v6, rfl, rfl, rfl, hK, hS, hN_h_want, hM⟩
    ·
     replace hM := hM.2 (of_decide_eq_false c_2)
     refine HO.past (past_by rfl rfl c_2) rfl ?_
     refine HO.past (past_by rfl rfl c_2) rfl ?_
     refine HO.past (past_by rfl rfl c_2) rfl ?_
     refine HO.past (past_by rfl rfl c_2) rfl ?_
     refine HO.past (past_by rfl rfl c_2) rfl ?_
     refine oV (.bool false) (q_pickK false rfl c_2 rfl) rfl ?_
     refine HO.nil (thenQ_normal (?_))
     exact ⟨F_3, false, rfl, rfl, rfl, hK, hS, hN_h_want, hM⟩
   ·
    replace hM := hM.2 (of_decide_eq_false c_1)
    refine HO.past (past_by rfl rfl c_1) rfl ?_
    refine HO.past (past_by rfl rfl c_1) rfl ?_
    refine HO.past (past_by rfl rfl c_1) rfl ?_
    refine oV (.bool false) (q_pickK false rfl c_1 rfl) rfl ?_
    refine oM (.bool false) rfl rfl ?_
    refine HO.past (past_some rfl rfl) rfl ?_
    refine HO.past (past_some rfl rfl) rfl ?_
    refine HO.past (past_some rfl rfl) rfl ?_
    refine HO.past (past_some rfl rfl) rfl ?_
    refine HO.past (past_some rfl rfl) rfl ?_
    refine oV (.bool false) (q_pick rfl rfl) rfl ?_
    refine HO.nil (thenQ_normal (?_))
    exact ⟨F_3, false, rfl, rfl, rfl, hK, hS, hN_h_want, hM⟩
  ·
   rintro f_2 h_6 ⟨F_4, b_4, e6, e7, e30, hK, hS, hN_h_want, hM⟩
   unfold host_Host_older_j2 at hM
   refine HW.fr [(6, .slice none 0 0), (7, .pointer (some ⟨b_2, 0, none⟩)), (30, .bool b_4)] ⟨e6, e7, e30, trivial⟩ ?_
   refine HW.cond b_4 rfl (fun c_3 => ?_) (fun c_3 => ?_)
   ·
    replace hM := hM.1 c_3
    refine HW.seq ?_
    refine HW.region ?_
    refine oA (.slice none 0 0) rfl rfl ?_
    refine HO.nil (thenQ_normal (?_))
    refine HW.ret (thenQ_ret (?_))
    refine ⟨.inr rfl, .slice none 0 0, res1 rfl (rt rfl), ?_⟩
    replace hS := hS.nilOwn 39 26 e_api_Talk
    have hN_3 : NfL nf_api_Talk F_4 h_6 ([] : List T_api_Talk) := NfL.nil _ _ _
    replace hS : St F_4 (Ow.own 39 26 e_api_Talk (.slice none 0 0) ([] : List T_api_Talk) :: Ow.box bh 52 #[.bool h_v6, .int .i64 h_now, .map (some rh_want), .int .i64 h_one, .int .i64 h_two] :: Ow.map rh_want (fun (x : T_api_Addr) => .agg (e_api_Addr x).toArray) (fun (x : T_api_Filter) => .agg #[.bool x.1, x.2.1]) h_want :: fr) h_6 := hS.perm2 [0, 1, 2] 4 rfl rfl
    exact ⟨F_4, [], h_v6, h_now, h_want, h_one, h_two, .slice none 0 0, rfl, hK, hS, hN_h_want, hN_3, hN_h_want, hM⟩
   ·
    replace hM := hM.2 c_3
    refine HW.skip (thenQ_normal (?_))
    refine HW.seq ?_
    refine HW.region ?_
    refine oV (.agg (c_api_Talk (.bool h_v6) (.int .i64 t_1_1) (.int .i64 kind) (.int .i64 0) g (.bool false) (.int .i64 0) (.int .i64 0) (.slice none 0 0) (.slice none 0 0)).toArray) (q_loadAgg (cs := (c_api_Talk (.bool h_v6) (.int .i64 t_1_1) (.int .i64 kind) (.int .i64 0) g (.bool false) (.int .i64 0) (.int .i64 0) (.slice none 0 0) (.slice none 0 0))) ta_39 rfl rfl (Blk.cells (k := 26) (hS.box 2 rfl) rfl)) rfl ?_
    refine HO.eff (want_none) rfl (st_lit (enc := e_api_Talk) (cells := #[.bool h_v6, .int .i64 t_1_1, .int .i64 kind, .int .i64 0, .bool g.1, .int .u8 (b8 g.2 0), .int .u8 (b8 g.2 1), .int .u8 (b8 g.2 2), .int .u8 (b8 g.2 3), .int .u8 (b8 g.2 4), .int .u8 (b8 g.2 5), .int .u8 (b8 g.2 6), .int .u8 (b8 g.2 7), .int .u8 (b8 g.2 8), .int .u8 (b8 g.2 9), .int .u8 (b8 g.2 10), .int .u8 (b8 g.2 11), .int .u8 (b8 g.2 12), .int .u8 (b8 g.2 13), .int .u8 (b8 g.2 14), .int .u8 (b8 g.2 15), .bool false, .int .i64 0, .int .i64 0, .slice none 0 0, .slice none 0 0]) #[.bool false, .int .i64 0, .int .i64 0, .int .i64 0, .bool false, .int .u8 0, .int .u8 0, .int .u8 0, .int .u8 0, .int .u8 0, .int .u8 0, .int .u8 0, .int .u8 0, .int .u8 0, .int .u8 0, .int .u8 0, .int .u8 0, .int .u8 0, .int .u8 0, .int .u8 0, .int .u8 0, .bool false, .int .i64 0, .int .i64 0, .slice none 0 0, .slice none 0 0] ([(h_v6, t_1_1, kind, 0, g, false, 0, 0, (.slice none 0 0, []), (.slice none 0 0, []))] : List T_api_Talk) hS tl_24 (by decide) (by decide) (by kernel_rfl) (by kernel_rfl) rfl (by intro x hx; rfl) rfl) ?_
    rintro _ h_7 ⟨b_5, rfl, hS, hk⟩
    replace hK := hK.trans hk
    replace hN_h_want := hN_h_want.kp hk
    have hN_4 : NfL nf_api_Talk F_4 h_7 ([(h_v6, t_1_1, kind, 0, g, false, 0, 0, (.slice none 0 0, []), (.slice none 0 0, []))] : List T_api_Talk) := (NfL.cons (nfm_api_Talk (h_v6, t_1_1, kind, 0, g, false, 0, 0, (.slice none 0 0, []), (.slice none 0 0, [])) (SliceF.nil _ _ _ _) (SliceF.nil _ _ _ _) (NfL.nil _ _ _)) (NfL.nil _ _ _))
    refine oA (.slice (some ⟨b_5, 0, none⟩) 1 1) rfl rfl ?_
    refine HO.nil (thenQ_normal (?_))
    refine HW.ret (?_)
    refine ⟨.inr rfl, .slice (some ⟨b_5, 0, none⟩) 1 1, res1 rfl (rt rfl), ?_⟩
    replace hS : St F_4 (Ow.own 39 26 e_api_Talk (.slice (some ⟨b_5, 0, none⟩) 1 1) ([(h_v6, t_1_1, kind, 0, g, false, 0, 0, (.slice none 0 0, []), (.slice none 0 0, []))] : List T_api_Talk) :: Ow.box bh 52 #[.bool h_v6, .int .i64 h_now, .map (some rh_want), .int .i64 h_one, .int .i64 h_two] :: Ow.map rh_want (fun (x : T_api_Addr) => .agg (e_api_Addr x).toArray) (fun (x : T_api_Filter) => .agg #[.bool x.1, x.2.1]) h_want :: fr) h_7 := hS.perm2 [0, 1, 2] 4 rfl rfl
    exact ⟨F_4, ([(h_v6, t_1_1, kind, 0, g, false, 0, 0, (.slice none 0 0, []), (.slice none 0 0, []))] : List T_api_Talk), h_v6, h_now, h_want, h_one, h_two, .slice (some ⟨b_5, 0, none⟩) 1 1, rfl, hK, hS, hN_h_want, hN_4, hN_h_want, hM⟩
def host_Host_said_j2 (h_v6 : Bool) (h_now : Int) (h_want : List (T_api_Addr × T_api_Filter)) (h_one : Int) (h_two : Int) (g : T_api_Addr) (Q : (List T_api_Talk) → Bool → Int → (List (T_api_Addr × T_api_Filter)) → Int → Int → Prop) (b_5 : Bool) : Prop :=
 (b_5 = true → host_Host_older_W h_v6 h_now h_want h_one h_two g 3 (fun r_11 a0_v6_3 a0_now_3 a0m_3 a0_one_3 a0_two_3 => Q r_11 a0_v6_3 a0_now_3 a0m_3 a0_one_3 a0_two_3)) ∧ (b_5 = false → Q [] h_v6 h_now h_want h_one h_two)
def host_Host_said_j1 (h_v6 : Bool) (h_now : Int) (h_want : List (T_api_Addr × T_api_Filter)) (h_one : Int) (h_two : Int) (g : T_api_Addr) (was_Exclude : Bool) (was_Sources : List T_api_Addr) (is_Exclude : Bool) (is_Sources : List T_api_Addr) (Q : (List T_api_Talk) → Bool → Int → (List (T_api_Addr × T_api_Filter)) → Int → Int → Prop) (b_4 : Bool) : Prop :=
 (b_4 = true → host_Host_older_W h_v6 h_now h_want h_one h_two g 2 (fun r_8 a0_v6_2 a0_now_2 a0m_2 a0_one_2 a0_two_2 => Q r_8 a0_v6_2 a0_now_2 a0m_2 a0_one_2 a0_two_2)) ∧ (b_4 = false → merge_None_W was_Exclude was_Sources (fun r_9 => ((!r_9) = true → merge_None_W is_Exclude is_Sources (fun r_10 => host_Host_said_j2 h_v6 h_now h_want h_one h_two g Q r_10)) ∧ ((!r_9) = false → host_Host_said_j2 h_v6 h_now h_want h_one h_two g Q false)))
def host_Host_said_W (h_v6 : Bool) (h_now : Int) (h_want : List (T_api_Addr × T_api_Filter)) (h_one : Int) (h_two : Int) (g : T_api_Addr) (was_Exclude : Bool) (was_Sources : List T_api_Addr) (is_Exclude : Bool) (is_Sources : List T_api_Addr) (Q : (List T_api_Talk) → Bool → Int → (List (T_api_Addr × T_api_Filter)) → Int → Int → Prop) : Prop :=
 host_Host_mode_W h_v6 h_now h_want h_one h_two (fun r_2 => compat_Last_W h_v6 (fun r_3 => (r_3 ≤ r_2 → merge_Change_W g was_Exclude was_Sources is_Exclude is_Sources (fun r_4 => host_pack_W h_v6 r_4 (fun r_5 => Q r_5 h_v6 h_now h_want h_one h_two))) ∧ (¬ (r_3 ≤ r_2) → merge_None_W was_Exclude was_Sources (fun r_6 => (r_6 = true → merge_None_W is_Exclude is_Sources (fun r_7 => host_Host_said_j1 h_v6 h_now h_want h_one h_two g was_Exclude was_Sources is_Exclude is_Sources Q (!r_7))) ∧ (r_6 = false → host_Host_said_j1 h_v6 h_now h_want h_one h_two g was_Exclude was_Sources is_Exclude is_Sources Q false)))))
theorem host_Host_said_walk {F : Fz} {fr : List Ow} {h0 : Heap} (h_v6 : Bool) (h_now : Int) (h_want : List (T_api_Addr × T_api_Filter)) (h_one : Int) (h_two : Int) (g : T_api_Addr) (was_Exclude : Bool) (was_Sources : List T_api_Addr) (is_Exclude : Bool) (is_Sources : List T_api_Addr) (bh : Nat) (rh_want : Nat) (vwas_Sources : Value) (vis_Sources : Value) (hS : St F (Ow.box bh 52 #[.bool h_v6, .int .i64 h_now, .map (some rh_want), .int .i64 h_one, .int .i64 h_two] :: Ow.map rh_want (fun (x : T_api_Addr) => .agg (e_api_Addr x).toArray) (fun (x : T_api_Filter) => .agg #[.bool x.1, x.2.1]) h_want :: fr) h0) (hN_h_want : NfL nf_api_Filter F h0 (h_want.map (·.2))) (hL_was_Sources : SliceF F h0 17 e_api_Addr vwas_Sources was_Sources) (hL_is_Sources : SliceF F h0 17 e_api_Addr vis_Sources is_Sources) {Q : (List T_api_Talk) → Bool → Int → (List (T_api_Addr × T_api_Filter)) → Int → Int → Prop} (hM : host_Host_said_W h_v6 h_now h_want h_one h_two g was_Exclude was_Sources is_Exclude is_Sources Q) :
  HC Try.prog 24 #[.pointer (some ⟨bh, 0, none⟩), .agg (e_api_Addr g).toArray, .agg #[.bool was_Exclude, vwas_Sources], .agg #[.bool is_Exclude, vis_Sources]] h0 fun u h' => ∃ (F' : Fz) (r_1 : List T_api_Talk) (a0_v6_1 : Bool) (a0_now_1 : Int) (a0m_1 : List (T_api_Addr × T_api_Filter)) (a0_one_1 : Int) (a0_two_1 : Int) (vr_1 : Value), u = vr_1 ∧ Kp F h0 F' h' ∧ St F' (Ow.own 39 26 e_api_Talk vr_1 r_1 :: Ow.box bh 52 #[.bool a0_v6_1, .int .i64 a0_now_1, .map (some rh_want), .int .i64 a0_one_1, .int .i64 a0_two_1] :: Ow.map rh_want (fun (x : T_api_Addr) => .agg (e_api_Addr x).toArray) (fun (x : T_api_Filter) => .agg #[.bool x.1, x.2.1]) a0m_1 :: fr) h' ∧ (NfL nf_api_Filter F' h' (h_want.map (·.2))) ∧ (SliceF F' h' 17 e_api_Addr vwas_Sources was_Sources) ∧ (SliceF F' h' 17 e_api_Addr vis_Sources is_Sources) ∧ (NfL nf_api_Talk F' h' r_1) ∧ (NfL nf_api_Filter F' h' (a0m_1.map (·.2))) ∧ Q r_1 a0_v6_1 a0_now_1 a0m_1 a0_one_1 a0_two_1 := by
 unfold host_Host_said_W at hM
 have hK := Kp.refl F h0
 refine HC.of_HW (n := 49) Try.func24 rfl rfl (Nat.le_of_ble_eq_true rfl) ?_
 refine HW.seq ?_
 refine HW.region ?_
 refine HO.eff (want_none) rfl (st_box (c := (e_api_Addr g).toArray) (k' := 17) hS rfl rfl) ?_
 rintro _ h_1 ⟨b_1, rfl, hS, hk⟩
 replace hK := hK.trans hk
 replace hN_h_want := hN_h_want.kp hk
 replace hL_was_Sources := hL_was_Sources.kp hk
 replace hL_is_Sources := hL_is_Sources.kp hk
 refine HO.eff (want_none) rfl (st_box (c := #[.bool was_Exclude, vwas_Sources]) (k' := 2) hS rfl rfl) ?_
 rintro _ h_2 ⟨b_2, rfl, hS, hk⟩
 replace hK := hK.trans hk
 replace hN_h_want := hN_h_want.kp hk
 replace hL_was_Sources := hL_was_Sources.kp hk
 replace hL_is_Sources := hL_is_Sources.kp hk
 refine HO.eff (want_none) rfl (st_box (c := #[.bool is_Exclude, vis_Sources]) (k' := 2) hS rfl rfl) ?_
 rintro _ h_3 ⟨b_3, rfl, hS, hk⟩
 replace hK := hK.trans hk
 replace hN_h_want := hN_h_want.kp hk
 replace hL_was_Sources := hL_was_Sources.kp hk
 replace hL_is_Sources := hL_is_Sources.kp hk
 refine oA (.slice none 0 0) rfl rfl ?_
 refine HO.nil (thenQ_normal (?_))
 refine HW.seq ?_
 refine HW.block ?_
 refine HW.seq ?_
 refine HW.regionA 9 mixed (fun h => (Blk h bh (.cells #[.bool h_v6, .int .i64 h_now, .map (some rh_want), .int .i64 h_one, .int .i64 h_two] 52 (0, 0)))) [] (by kernel_rfl) ?_
 refine HA.val (k := 0) (v := .pointer (some ⟨bh, 0, none⟩)) rfl rfl (by kernel_rfl) (by kernel_rfl) (want_none) rfl (fun _ c1 => q_move rfl) ?_
 refine HA.val (k := 2) (v := .pointer (some ⟨bh, 0, none⟩)) rfl rfl (by kernel_rfl) (by kernel_rfl) (want_none) rfl (fun _ c1 => q_move rfl) ?_
 refine HA.val (k := 3) (v := .pointer (some ⟨bh, 0, none⟩)) rfl rfl (by kernel_rfl) (by kernel_rfl) (want_none) rfl (fun _ c1 => q_nilCheck rfl) ?_
 refine HA.val (k := 4) (v := .pointer (some ⟨bh, 0, none⟩)) rfl rfl (by kernel_rfl) (by kernel_rfl) (want_none) rfl (fun _ c1 => q_fieldAddr fa_52_0 rfl rfl) ?_
 refine HA.val (k := 5) (v := .bool h_v6) rfl rfl (by kernel_rfl) (by kernel_rfl) (want_none) rfl (fun _ c1 => q_load to_4 rfl (Blk.cell c1 rfl)) ?_
 refine HA.one (k := 1) ⟨(hS.box 3 rfl), (Go.Wk.at_nil _ _)⟩ (by kernel_rfl) ?_
 replace hS : St F (Ow.box bh 52 #[.bool h_v6, .int .i64 h_now, .map (some rh_want), .int .i64 h_one, .int .i64 h_two] :: Ow.box b_3 34 #[.bool is_Exclude, vis_Sources] :: Ow.box b_2 34 #[.bool was_Exclude, vwas_Sources] :: Ow.box b_1 30 (e_api_Addr g).toArray :: Ow.map rh_want (fun (x : T_api_Addr) => .agg (e_api_Addr x).toArray) (fun (x : T_api_Filter) => .agg #[.bool x.1, x.2.1]) h_want :: fr) h_3 := hS.perm2 [3, 0, 1, 2, 4] 5 rfl rfl
 have hZ_1 := hS
 have hkz_1 := (hS.freeze).2
 replace hS := hS.freeze.1
 have hL_1 := hZ_1.lent
 replace hS : St (fun bz_ => F bz_ ∨ (Ow.box bh 52 #[.bool h_v6, .int .i64 h_now, .map (some rh_want), .int .i64 h_one, .int .i64 h_two]).foot bz_) (Ow.map rh_want (fun (x : T_api_Addr) => .agg (e_api_Addr x).toArray) (fun (x : T_api_Filter) => .agg #[.bool x.1, x.2.1]) h_want :: Ow.box b_3 34 #[.bool is_Exclude, vis_Sources] :: Ow.box b_2 34 #[.bool was_Exclude, vwas_Sources] :: Ow.box b_1 30 (e_api_Addr g).toArray :: fr) h_3 := hS.perm2 [3, 0, 1, 2] 4 rfl rfl
 have hZ_2 := hS
 have hkz_2 := (hS.freeze).2
 replace hS := hS.freeze.1
 have hL_2 := hZ_2.lent
 refine HS.call rfl (want_none) rfl (ec en_28 rfl rfl) (host_Host_mode_walk (fr := (Ow.box b_3 34 #[.bool is_Exclude, vis_Sources] :: Ow.box b_2 34 #[.bool was_Exclude, vwas_Sources] :: Ow.box b_1 30 (e_api_Addr g).toArray :: fr)) h_v6 h_now h_want h_one h_two bh rh_want hS (NfL.kp (NfL.kp hN_h_want hkz_1) hkz_2) hL_2 (hL_1.kp hkz_2) hM) ?_
 rintro _ h_4 ⟨F_1, r_2, rfl, hk, hS, _, _, _, hM⟩
 obtain ⟨hS, hk⟩ := hZ_2.back hk hS
 obtain ⟨hS, hk⟩ := hZ_1.back hk hS
 generalize (fun bz_ => (fun bz_ => F_1 bz_ ∧ ¬ (Ow.map rh_want (fun (x : T_api_Addr) => .agg (e_api_Addr x).toArray) (fun (x : T_api_Filter) => .agg #[.bool x.1, x.2.1]) h_want).foot bz_) bz_ ∧ ¬ (Ow.box bh 52 #[.bool h_v6, .int .i64 h_now, .map (some rh_want), .int .i64 h_one, .int .i64 h_two]).foot bz_) = F_2 at hS hk
 replace hK := hK.trans hk
 replace hN_h_want := hN_h_want.kp hk
 replace hL_was_Sources := hL_was_Sources.kp hk
 replace hL_is_Sources := hL_is_Sources.kp hk
 refine HA.one (k := 6) ⟨(hS.box 0 rfl), (Go.Wk.at_nil _ _)⟩ (by kernel_rfl) ?_
 refine HS.call rfl (want_none) rfl (ec en_29 rfl rfl) (compat_Last_walk (fr := (Ow.box bh 52 #[.bool h_v6, .int .i64 h_now, .map (some rh_want), .int .i64 h_one, .int .i64 h_two] :: Ow.map rh_want (fun (x : T_api_Addr) => .agg (e_api_Addr x).toArray) (fun (x : T_api_Filter) => .agg #[.bool x.1, x.2.1]) h_want :: Ow.box b_3 34 #[.bool is_Exclude, vis_Sources] :: Ow.box b_2 34 #[.bool was_Exclude, vwas_Sources] :: Ow.box b_1 30 (e_api_Addr g).toArray :: fr)) h_v6 hS hM) ?_
 rintro _ h_5 ⟨F_3, r_3, rfl, hk, hS, hM⟩
 replace hK := hK.trans hk
 replace hN_h_want := hN_h_want.kp hk
 replace hL_was_Sources := hL_was_Sources.kp hk
 replace hL_is_Sources := hL_is_Sources.kp hk
 refine HA.val (k := 7) (v := .bool (decide (r_3 ≤ r_2))) rfl rfl (by kernel_rfl) (by kernel_rfl) (want_none) rfl (fun _ c1 => q_geq rfl rfl) ?_
 refine HA.val (k := 8) (v := .bool (decide (r_3 ≤ r_2))) rfl rfl (by kernel_rfl) (by kernel_rfl) (want_none) rfl (fun _ c1 => q_assign rfl) ?_
 refine HA.nil ⟨(hS.box 0 rfl), (Go.Wk.at_nil _ _)⟩ (by kernel_rfl) (thenQ_normal (?_))
 refine HW.cond (decide (r_3 ≤ r_2)) rfl (fun c_1 => ?_) (fun c_1 => ?_)
 ·
  replace hM := hM.1 (of_decide_eq_true c_1)
  refine HW.seq ?_
  refine HW.regionA 10 mixed (fun h => (Blk h bh (.cells #[.bool h_v6, .int .i64 h_now, .map (some rh_want), .int .i64 h_one, .int .i64 h_two] 52 (0, 0))) ∧ (Blk h b_3 (.cells #[.bool is_Exclude, vis_Sources] 34 (0, 0))) ∧ (Blk h b_2 (.cells #[.bool was_Exclude, vwas_Sources] 34 (0, 0))) ∧ (Blk h b_1 (.cells (e_api_Addr g).toArray 30 (0, 0)))) [] (by kernel_rfl) ?_
  refine HA.val (k := 0) (v := .pointer (some ⟨bh, 0, none⟩)) rfl rfl (by kernel_rfl) (by kernel_rfl) (want_none) rfl (fun _ ⟨c1, c210, c209, c208⟩ => q_move rfl) ?_
  refine HA.val (k := 1) (v := .pointer (some ⟨bh, 0, none⟩)) rfl rfl (by kernel_rfl) (by kernel_rfl) (want_none) rfl (fun _ ⟨c1, c210, c209, c208⟩ => q_nilCheck rfl) ?_
  refine HA.val (k := 2) (v := .pointer (some ⟨bh, 0, none⟩)) rfl rfl (by kernel_rfl) (by kernel_rfl) (want_none) rfl (fun _ ⟨c1, c210, c209, c208⟩ => q_fieldAddr fa_52_0 rfl rfl) ?_
  refine HA.val (k := 3) (v := .bool h_v6) rfl rfl (by kernel_rfl) (by kernel_rfl) (want_none) rfl (fun _ ⟨c1, c210, c209, c208⟩ => q_load to_4 rfl (Blk.cell c1 rfl)) ?_
  refine HA.val (k := 4) (v := .agg (e_api_Addr g).toArray) rfl rfl (by kernel_rfl) (by kernel_rfl) (want_none) rfl (fun _ ⟨c1, c210, c209, c208⟩ => q_loadAgg (cs := (e_api_Addr g)) ta_30 rfl rfl (Blk.cells (k := 17) c208 rfl)) ?_
  refine HA.val (k := 5) (v := .agg #[.bool was_Exclude, vwas_Sources]) rfl rfl (by kernel_rfl) (by kernel_rfl) (want_none) rfl (fun _ ⟨c1, c210, c209, c208⟩ => q_loadAgg (cs := [.bool was_Exclude, vwas_Sources]) ta_34 rfl rfl (Blk.cells (k := 2) c209 rfl)) ?_
  refine HA.val (k := 6) (v := .agg #[.bool is_Exclude, vis_Sources]) rfl rfl (by kernel_rfl) (by kernel_rfl) (want_none) rfl (fun _ ⟨c1, c210, c209, c208⟩ => q_loadAgg (cs := [.bool is_Exclude, vis_Sources]) ta_34 rfl rfl (Blk.cells (k := 2) c210 rfl)) ?_
  refine HA.one (k := 7) ⟨⟨(hS.box 0 rfl), (hS.box 2 rfl), (hS.box 3 rfl), (hS.box 4 rfl)⟩, (Go.Wk.at_nil _ _)⟩ (by kernel_rfl) ?_
  refine HS.call rfl (want_none) rfl (ec en_43 rfl rfl) (merge_Change_walk (fr := (Ow.box bh 52 #[.bool h_v6, .int .i64 h_now, .map (some rh_want), .int .i64 h_one, .int .i64 h_two] :: Ow.map rh_want (fun (x : T_api_Addr) => .agg (e_api_Addr x).toArray) (fun (x : T_api_Filter) => .agg #[.bool x.1, x.2.1]) h_want :: Ow.box b_3 34 #[.bool is_Exclude, vis_Sources] :: Ow.box b_2 34 #[.bool was_Exclude, vwas_Sources] :: Ow.box b_1 30 (e_api_Addr g).toArray :: fr)) g was_Exclude was_Sources is_Exclude is_Sources vwas_Sources vis_Sources hS hL_was_Sources hL_is_Sources hM) ?_
  rintro vr_2 h_6 ⟨F_4, r_4, _, rfl, hk, hS, _, _, hL_3, hM⟩
  replace hK := hK.trans hk
  replace hN_h_want := hN_h_want.kp hk
  replace hL_was_Sources := hL_was_Sources.kp hk
  replace hL_is_Sources := hL_is_Sources.kp hk
  refine HA.one (k := 8) ⟨⟨(hS.box 1 rfl), (hS.box 3 rfl), (hS.box 4 rfl), (hS.box 5 rfl)⟩, (Go.Wk.at_nil _ _)⟩ (by kernel_rfl) ?_
  obtain ⟨F_5, hS, hk, hL_4⟩ := hS.freezeOwn
  replace hK := hK.trans hk
  replace hN_h_want := hN_h_want.kp hk
  replace hL_was_Sources := hL_was_Sources.kp hk
  replace hL_is_Sources := hL_is_Sources.kp hk
  replace hL_3 := hL_3.kp hk
  refine HS.call rfl (want_none) rfl (ec en_32 rfl rfl) (host_pack_walk (fr := (Ow.box bh 52 #[.bool h_v6, .int .i64 h_now, .map (some rh_want), .int .i64 h_one, .int .i64 h_two] :: Ow.map rh_want (fun (x : T_api_Addr) => .agg (e_api_Addr x).toArray) (fun (x : T_api_Filter) => .agg #[.bool x.1, x.2.1]) h_want :: Ow.box b_3 34 #[.bool is_Exclude, vis_Sources] :: Ow.box b_2 34 #[.bool was_Exclude, vwas_Sources] :: Ow.box b_1 30 (e_api_Addr g).toArray :: fr)) h_v6 r_4 vr_2 hS hL_3 hL_4 hM) ?_
  rintro vr_3 h_7 ⟨F_6, r_5, _, rfl, hk, hS, _, _, hL_5, hM⟩
  replace hK := hK.trans hk
  replace hN_h_want := hN_h_want.kp hk
  replace hL_was_Sources := hL_was_Sources.kp hk
  replace hL_is_Sources := hL_is_Sources.kp hk
  refine HA.val (k := 9) (v := vr_3) rfl rfl (by kernel_rfl) (by kernel_rfl) (want_none) rfl (fun _ ⟨c1, c210, c209, c208⟩ => q_assign rfl) ?_
  refine HA.nil ⟨⟨(hS.box 1 rfl), (hS.box 3 rfl), (hS.box 4 rfl), (hS.box 5 rfl)⟩, (Go.Wk.at_nil _ _)⟩ (by kernel_rfl) (thenQ_normal (?_))
  refine HW.ret (blockQ_ret (thenQ_ret (?_)))
  refine ⟨.inr rfl, vr_3, res1 rfl (rt rfl), ?_⟩
  replace hS : St F_6 (Ow.own 39 26 e_api_Talk vr_3 r_5 :: Ow.box bh 52 #[.bool h_v6, .int .i64 h_now, .map (some rh_want), .int .i64 h_one, .int .i64 h_two] :: Ow.map rh_want (fun (x : T_api_Addr) => .agg (e_api_Addr x).toArray) (fun (x : T_api_Filter) => .agg #[.bool x.1, x.2.1]) h_want :: fr) h_7 := hS.perm2 [0, 1, 2] 6 rfl rfl
  exact ⟨F_6, r_5, h_v6, h_now, h_want, h_one, h_two, vr_3, rfl, hK, hS, hN_h_want, hL_was_Sources, hL_is_Sources, hL_5, hN_h_want, hM⟩
 ·
  replace hM := hM.2 (of_decide_eq_false c_1)
  refine HW.seq_mid (fun f h => ∃ (F' : Fz) (b_4 : Bool), f 0 = .pointer (some ⟨bh, 0, none⟩) ∧ f 5 = .pointer (some ⟨b_1, 0, none⟩) ∧ f 6 = .pointer (some ⟨b_2, 0, none⟩) ∧ f 7 = .pointer (some ⟨b_3, 0, none⟩) ∧ f 8 = .slice none 0 0 ∧ f 27 = .bool b_4 ∧ Kp F h0 F' h ∧ St F' (Ow.box bh 52 #[.bool h_v6, .int .i64 h_now, .map (some rh_want), .int .i64 h_one, .int .i64 h_two] :: Ow.map rh_want (fun (x : T_api_Addr) => .agg (e_api_Addr x).toArray) (fun (x : T_api_Filter) => .agg #[.bool x.1, x.2.1]) h_want :: Ow.box b_1 30 (e_api_Addr g).toArray :: Ow.box b_2 34 #[.bool was_Exclude, vwas_Sources] :: Ow.box b_3 34 #[.bool is_Exclude, vis_Sources] :: fr) h ∧ (NfL nf_api_Filter F' h (h_want.map (·.2))) ∧ (SliceF F' h 17 e_api_Addr vwas_Sources was_Sources) ∧ (SliceF F' h 17 e_api_Addr vis_Sources is_Sources) ∧ host_Host_said_j1 h_v6 h_now h_want h_one h_two g was_Exclude was_Sources is_Exclude is_Sources Q b_4) ?_ ?_
  ·
   refine HW.region ?_
   refine oV (.agg #[.bool was_Exclude, vwas_Sources]) (q_loadAgg (cs := [.bool was_Exclude, vwas_Sources]) ta_34 rfl rfl (Blk.cells (k := 2) (hS.box 3 rfl) rfl)) rfl ?_
   refine HO.call (want_none) rfl (ec en_22 rfl rfl) (merge_None_walk (fr := (Ow.box bh 52 #[.bool h_v6, .int .i64 h_now, .map (some rh_want), .int .i64 h_one, .int .i64 h_two] :: Ow.map rh_want (fun (x : T_api_Addr) => .agg (e_api_Addr x).toArray) (fun (x : T_api_Filter) => .agg #[.bool x.1, x.2.1]) h_want :: Ow.box b_3 34 #[.bool is_Exclude, vis_Sources] :: Ow.box b_2 34 #[.bool was_Exclude, vwas_Sources] :: Ow.box b_1 30 (e_api_Addr g).toArray :: fr)) was_Exclude was_Sources vwas_Sources hS hL_was_Sources hM) ?_
   rintro _ h_8 ⟨F_7, r_6, rfl, hk, hS, _, hM⟩
   replace hK := hK.trans hk
   replace hN_h_want := hN_h_want.kp hk
   replace hL_was_Sources := hL_was_Sources.kp hk
   replace hL_is_Sources := hL_is_Sources.kp hk
   refine oM (.bool r_6) rfl rfl ?_
   rcases Bool.eq_false_or_eq_true r_6 with c_2 | c_2
   ·
    replace hM := hM.1 c_2
    refine HO.val (v := .agg #[.bool is_Exclude, vis_Sources]) (want_by rfl rfl c_2) rfl (q_loadAgg (cs := [.bool is_Exclude, vis_Sources]) ta_34 rfl rfl (Blk.cells (k := 2) (hS.box 2 rfl) rfl)) ?_
    refine HO.call (want_by rfl rfl c_2) rfl (ec en_22 rfl rfl) (merge_None_walk (fr := (Ow.box bh 52 #[.bool h_v6, .int .i64 h_now, .map (some rh_want), .int .i64 h_one, .int .i64 h_two] :: Ow.map rh_want (fun (x : T_api_Addr) => .agg (e_api_Addr x).toArray) (fun (x : T_api_Filter) => .agg #[.bool x.1, x.2.1]) h_want :: Ow.box b_3 34 #[.bool is_Exclude, vis_Sources] :: Ow.box b_2 34 #[.bool was_Exclude, vwas_Sources] :: Ow.box b_1 30 (e_api_Addr g).toArray :: fr)) is_Exclude is_Sources vis_Sources hS hL_is_Sources hM) ?_
    rintro _ h_9 ⟨F_8, r_7, rfl, hk, hS, _, hM⟩
    replace hK := hK.trans hk
    replace hN_h_want := hN_h_want.kp hk
    replace hL_was_Sources := hL_was_Sources.kp hk
    replace hL_is_Sources := hL_is_Sources.kp hk
    refine HO.val (v := .bool (!r_7)) (want_by rfl rfl c_2) rfl (q_not rfl) ?_
    refine oV (.bool (!r_7)) (q_pickK true rfl c_2 rfl) rfl ?_
    refine oA (.bool (!r_7)) rfl rfl ?_
    refine HO.nil (thenQ_normal (?_))
    replace hS : St F_8 (Ow.box bh 52 #[.bool h_v6, .int .i64 h_now, .map (some rh_want), .int .i64 h_one, .int .i64 h_two] :: Ow.map rh_want (fun (x : T_api_Addr) => .agg (e_api_Addr x).toArray) (fun (x : T_api_Filter) => .agg #[.bool x.1, x.2.1]) h_want :: Ow.box b_1 30 (e_api_Addr g).toArray :: Ow.box b_2 34 #[.bool was_Exclude, vwas_Sources] :: Ow.box b_3 34 #[.bool is_Exclude, vis_Sources] :: fr) h_9 := hS.perm2 [0, 1, 4, 3, 2] 5 rfl rfl
    exact ⟨F_8, !r_7, rfl, rfl, rfl, rfl, rfl, rfl, hK, hS, hN_h_want, hL_was_Sources, hL_is_Sources, hM⟩
   ·
    replace hM := hM.2 c_2
    refine HO.past (past_by rfl rfl c_2) rfl ?_
    refine HO.past (past_by rfl rfl c_2) rfl ?_
    refine HO.past (past_by rfl rfl c_2) rfl ?_
    refine oV (.bool false) (q_pickK false rfl c_2 rfl) rfl ?_
    refine oA (.bool false) rfl rfl ?_
    refine HO.nil (thenQ_normal (?_))
    replace hS : St F_7 (Ow.box bh 52 #[.bool h_v6, .int .i64 h_now, .map (some rh_want), .int .i64 h_one, .int .i64 h_two] :: Ow.map rh_want (fun (x : T_api_Addr) => .agg (e_api_Addr x).toArray) (fun (x : T_api_Filter) => .agg #[.bool x.1, x.2.1]) h_want :: Ow.box b_1 30 (e_api_Addr g).toArray :: Ow.box b_2 34 #[.bool was_Exclude, vwas_Sources] :: Ow.box b_3 34 #[.bool is_Exclude, vis_Sources] :: fr) h_8 := hS.perm2 [0, 1, 4, 3, 2] 5 rfl rfl
    exact ⟨F_7, false, rfl, rfl, rfl, rfl, rfl, rfl, hK, hS, hN_h_want, hL_was_Sources, hL_is_Sources, hM⟩
  ·
   rintro f_1 h_10 ⟨F_9, b_4, e0, e5, e6, e7, e8, e27, hK, hS, hN_h_want, hL_was_Sources, hL_is_Sources, hM⟩
   unfold host_Host_said_j1 at hM
   refine HW.fr [(0, .pointer (some ⟨bh, 0, none⟩)), (5, .pointer (some ⟨b_1, 0, none⟩)), (6, .pointer (some ⟨b_2, 0, none⟩)), (7, .pointer (some ⟨b_3, 0, none⟩)), (8, .slice none 0 0), (27, .bool b_4)] ⟨e0, e5, e6, e7, e8, e27, trivial⟩ ?_
   refine HW.cond b_4 rfl (fun c_3 => ?_) (fun c_3 => ?_)
   ·
    replace hM := hM.1 c_3
    refine HW.seq ?_
    refine HW.region ?_
    refine oM (.pointer (some ⟨bh, 0, none⟩)) rfl rfl ?_
    refine oV (.agg (e_api_Addr g).toArray) (q_loadAgg (cs := (e_api_Addr g)) ta_30 rfl rfl (Blk.cells (k := 17) (hS.box 2 rfl) rfl)) rfl ?_
    refine HO.call (want_none) rfl (ec en_30 rfl rfl) (host_Host_older_walk (fr := (Ow.box b_1 30 (e_api_Addr g).toArray :: Ow.box b_2 34 #[.bool was_Exclude, vwas_Sources] :: Ow.box b_3 34 #[.bool is_Exclude, vis_Sources] :: fr)) h_v6 h_now h_want h_one h_two g 2 bh rh_want hS hN_h_want hM) ?_
    rintro vr_4 h_11 ⟨F_10, r_8, a0_v6_2, a0_now_2, a0m_2, a0_one_2, a0_two_2, _, rfl, hk, hS, _, hL_6, hL_7, hM⟩
    replace hK := hK.trans hk
    replace hN_h_want := hN_h_want.kp hk
    replace hL_was_Sources := hL_was_Sources.kp hk
    replace hL_is_Sources := hL_is_Sources.kp hk
    refine oA (vr_4) rfl rfl ?_
    refine HO.nil (thenQ_normal (?_))
    refine HW.ret (blockQ_ret (thenQ_ret (?_)))
    refine ⟨.inr rfl, vr_4, res1 rfl (rt rfl), ?_⟩
    replace hS : St F_10 (Ow.own 39 26 e_api_Talk vr_4 r_8 :: Ow.box bh 52 #[.bool a0_v6_2, .int .i64 a0_now_2, .map (some rh_want), .int .i64 a0_one_2, .int .i64 a0_two_2] :: Ow.map rh_want (fun (x : T_api_Addr) => .agg (e_api_Addr x).toArray) (fun (x : T_api_Filter) => .agg #[.bool x.1, x.2.1]) a0m_2 :: fr) h_11 := hS.perm2 [0, 1, 2] 6 rfl rfl
    exact ⟨F_10, r_8, a0_v6_2, a0_now_2, a0m_2, a0_one_2, a0_two_2, vr_4, rfl, hK, hS, hN_h_want, hL_was_Sources, hL_is_Sources, hL_6, hL_7, hM⟩
   ·
    replace hM := hM.2 c_3
    refine HW.seq_mid (fun f h => ∃ (F' : Fz) (b_5 : Bool), f 0 = .pointer (some ⟨bh, 0, none⟩) ∧ f 5 = .pointer (some ⟨b_1, 0, none⟩) ∧ f 8 = .slice none 0 0 ∧ f 38 = .bool b_5 ∧ Kp F h0 F' h ∧ St F' (Ow.box bh 52 #[.bool h_v6, .int .i64 h_now, .map (some rh_want), .int .i64 h_one, .int .i64 h_two] :: Ow.map rh_want (fun (x : T_api_Addr) => .agg (e_api_Addr x).toArray) (fun (x : T_api_Filter) => .agg #[.bool x.1, x.2.1]) h_want :: Ow.box b_1 30 (e_api_Addr g).toArray :: fr) h ∧ (NfL nf_api_Filter F' h (h_want.map (·.2))) ∧ (SliceF F' h 17 e_api_Addr vwas_Sources was_Sources) ∧ (SliceF F' h 17 e_api_Addr vis_Sources is_Sources) ∧ host_Host_said_j2 h_v6 h_now h_want h_one h_two g Q b_5) ?_ ?_
    ·
     refine HW.region ?_
     refine oV (.agg #[.bool was_Exclude, vwas_Sources]) (q_loadAgg (cs := [.bool was_Exclude, vwas_Sources]) ta_34 rfl rfl (Blk.cells (k := 2) (hS.box 3 rfl) rfl)) rfl ?_
     refine HO.call (want_none) rfl (ec en_22 rfl rfl) (merge_None_walk (fr := (Ow.box bh 52 #[.bool h_v6, .int .i64 h_now, .map (some rh_want), .int .i64 h_one, .int .i64 h_two] :: Ow.map rh_want (fun (x : T_api_Addr) => .agg (e_api_Addr x).toArray) (fun (x : T_api_Filter) => .agg #[.bool x.1, x.2.1]) h_want :: Ow.box b_1 30 (e_api_Addr g).toArray :: Ow.box b_2 34 #[.bool was_Exclude, vwas_Sources] :: Ow.box b_3 34 #[.bool is_Exclude, vis_Sources] :: fr)) was_Exclude was_Sources vwas_Sources hS hL_was_Sources hM) ?_
     rintro _ h_12 ⟨F_11, r_9, rfl, hk, hS, _, hM⟩
     replace hK := hK.trans hk
     replace hN_h_want := hN_h_want.kp hk
     replace hL_was_Sources := hL_was_Sources.kp hk
     replace hL_is_Sources := hL_is_Sources.kp hk
     refine oV (.bool (!r_9)) (q_not rfl) rfl ?_
     refine oM (.bool (!r_9)) rfl rfl ?_
     rcases Bool.eq_false_or_eq_true (!r_9) with c_4 | c_4
     ·
      replace hM := hM.1 c_4
      refine HO.val (v := .agg #[.bool is_Exclude, vis_Sources]) (want_by rfl rfl c_4) rfl (q_loadAgg (cs := [.bool is_Exclude, vis_Sources]) ta_34 rfl rfl (Blk.cells (k := 2) (hS.box 4 rfl) rfl)) ?_
      refine HO.call (want_by rfl rfl c_4) rfl (ec en_22 rfl rfl) (merge_None_walk (fr := (Ow.box bh 52 #[.bool h_v6, .int .i64 h_now, .map (some rh_want), .int .i64 h_one, .int .i64 h_two] :: Ow.map rh_want (fun (x : T_api_Addr) => .agg (e_api_Addr x).toArray) (fun (x : T_api_Filter) => .agg #[.bool x.1, x.2.1]) h_want :: Ow.box b_1 30 (e_api_Addr g).toArray :: Ow.box b_2 34 #[.bool was_Exclude, vwas_Sources] :: Ow.box b_3 34 #[.bool is_Exclude, vis_Sources] :: fr)) is_Exclude is_Sources vis_Sources hS hL_is_Sources hM) ?_
      rintro _ h_13 ⟨F_12, r_10, rfl, hk, hS, _, hM⟩
      replace hK := hK.trans hk
      replace hN_h_want := hN_h_want.kp hk
      replace hL_was_Sources := hL_was_Sources.kp hk
      replace hL_is_Sources := hL_is_Sources.kp hk
      refine oV (.bool r_10) (q_pickK true rfl c_4 rfl) rfl ?_
      refine oA (.bool r_10) rfl rfl ?_
      refine HO.nil (thenQ_normal (?_))
      replace hS : St F_12 (Ow.box bh 52 #[.bool h_v6, .int .i64 h_now, .map (some rh_want), .int .i64 h_one, .int .i64 h_two] :: Ow.map rh_want (fun (x : T_api_Addr) => .agg (e_api_Addr x).toArray) (fun (x : T_api_Filter) => .agg #[.bool x.1, x.2.1]) h_want :: Ow.box b_1 30 (e_api_Addr g).toArray :: fr) h_13 := hS.perm2 [0, 1, 2] 5 rfl rfl
      exact ⟨F_12, r_10, rfl, rfl, rfl, rfl, hK, hS, hN_h_want, hL_was_Sources, hL_is_Sources, hM⟩
     ·
      replace hM := hM.2 c_4
      refine HO.past (past_by rfl rfl c_4) rfl ?_
      refine HO.past (past_by rfl rfl c_4) rfl ?_
      refine oV (.bool false) (q_pickK false rfl c_4 rfl) rfl ?_
      refine oA (.bool false) rfl rfl ?_
      refine HO.nil (thenQ_normal (?_))
      replace hS : St F_11 (Ow.box bh 52 #[.bool h_v6, .int .i64 h_now, .map (some rh_want), .int .i64 h_one, .int .i64 h_two] :: Ow.map rh_want (fun (x : T_api_Addr) => .agg (e_api_Addr x).toArray) (fun (x : T_api_Filter) => .agg #[.bool x.1, x.2.1]) h_want :: Ow.box b_1 30 (e_api_Addr g).toArray :: fr) h_12 := hS.perm2 [0, 1, 2] 5 rfl rfl
      exact ⟨F_11, false, rfl, rfl, rfl, rfl, hK, hS, hN_h_want, hL_was_Sources, hL_is_Sources, hM⟩
    ·
     rintro f_2 h_14 ⟨F_13, b_5, e0, e5, e8, e38, hK, hS, hN_h_want, hL_was_Sources, hL_is_Sources, hM⟩
     unfold host_Host_said_j2 at hM
     refine HW.fr [(0, .pointer (some ⟨bh, 0, none⟩)), (5, .pointer (some ⟨b_1, 0, none⟩)), (8, .slice none 0 0), (38, .bool b_5)] ⟨e0, e5, e8, e38, trivial⟩ ?_
     refine HW.cond b_5 rfl (fun c_5 => ?_) (fun c_5 => ?_)
     ·
      replace hM := hM.1 c_5
      refine HW.seq ?_
      refine HW.region ?_
      refine oM (.pointer (some ⟨bh, 0, none⟩)) rfl rfl ?_
      refine oV (.agg (e_api_Addr g).toArray) (q_loadAgg (cs := (e_api_Addr g)) ta_30 rfl rfl (Blk.cells (k := 17) (hS.box 2 rfl) rfl)) rfl ?_
      refine HO.call (want_none) rfl (ec en_30 rfl rfl) (host_Host_older_walk (fr := (Ow.box b_1 30 (e_api_Addr g).toArray :: fr)) h_v6 h_now h_want h_one h_two g 3 bh rh_want hS hN_h_want hM) ?_
      rintro vr_5 h_15 ⟨F_14, r_11, a0_v6_3, a0_now_3, a0m_3, a0_one_3, a0_two_3, _, rfl, hk, hS, _, hL_8, hL_9, hM⟩
      replace hK := hK.trans hk
      replace hN_h_want := hN_h_want.kp hk
      replace hL_was_Sources := hL_was_Sources.kp hk
      replace hL_is_Sources := hL_is_Sources.kp hk
      refine oA (vr_5) rfl rfl ?_
      refine HO.nil (thenQ_normal (?_))
      refine HW.ret (blockQ_ret (thenQ_ret (?_)))
      refine ⟨.inr rfl, vr_5, res1 rfl (rt rfl), ?_⟩
      replace hS : St F_14 (Ow.own 39 26 e_api_Talk vr_5 r_11 :: Ow.box bh 52 #[.bool a0_v6_3, .int .i64 a0_now_3, .map (some rh_want), .int .i64 a0_one_3, .int .i64 a0_two_3] :: Ow.map rh_want (fun (x : T_api_Addr) => .agg (e_api_Addr x).toArray) (fun (x : T_api_Filter) => .agg #[.bool x.1, x.2.1]) a0m_3 :: fr) h_15 := hS.perm2 [0, 1, 2] 4 rfl rfl
      exact ⟨F_14, r_11, a0_v6_3, a0_now_3, a0m_3, a0_one_3, a0_two_3, vr_5, rfl, hK, hS, hN_h_want, hL_was_Sources, hL_is_Sources, hL_8, hL_9, hM⟩
     ·
      replace hM := hM.2 c_5
      refine HW.skip (blockQ_normal (thenQ_normal (?_)))
      refine HW.seq ?_
      refine HW.region ?_
      refine oA (.slice none 0 0) rfl rfl ?_
      refine HO.nil (thenQ_normal (?_))
      refine HW.ret (?_)
      refine ⟨.inr rfl, .slice none 0 0, res1 rfl (rt rfl), ?_⟩
      replace hS := hS.nilOwn 39 26 e_api_Talk
      have hN_4 : NfL nf_api_Talk F_13 h_14 ([] : List T_api_Talk) := NfL.nil _ _ _
      replace hS : St F_13 (Ow.own 39 26 e_api_Talk (.slice none 0 0) ([] : List T_api_Talk) :: Ow.box bh 52 #[.bool h_v6, .int .i64 h_now, .map (some rh_want), .int .i64 h_one, .int .i64 h_two] :: Ow.map rh_want (fun (x : T_api_Addr) => .agg (e_api_Addr x).toArray) (fun (x : T_api_Filter) => .agg #[.bool x.1, x.2.1]) h_want :: fr) h_14 := hS.perm2 [0, 1, 2] 4 rfl rfl
      exact ⟨F_13, [], h_v6, h_now, h_want, h_one, h_two, .slice none 0 0, rfl, hK, hS, hN_h_want, hL_was_Sources, hL_is_Sources, hN_4, hN_h_want, hM⟩
def host_Host_Set_j3 (g : T_api_Addr) (f_Exclude : Bool) (f_Sources : List T_api_Addr) (Q : (List T_api_Talk) → Int → Bool → Int → (List (T_api_Addr × T_api_Filter)) → Int → Int → Prop) (a0_v6_2 : Bool) (a0_now_2 : Int) (a0m_2 : List (T_api_Addr × T_api_Filter)) (a0_one_2 : Int) (a0_two_2 : Int) (a0_2_2 : List (T_api_Addr × T_api_Filter)) : Prop :=
 host_Host_said_W a0_v6_2 a0_now_2 a0_2_2 a0_one_2 a0_two_2 g ((mgetD z_api_Filter a0m_2 g).1) (((mgetD z_api_Filter a0m_2 g).2).2) f_Exclude f_Sources (fun r_10 a0_v6_3 a0_now_3 a0m_3 a0_one_3 a0_two_3 => Q r_10 0 a0_v6_3 a0_now_3 a0m_3 a0_one_3 a0_two_3)
def host_Host_Set_j2 (g : T_api_Addr) (f_Exclude : Bool) (f_Sources : List T_api_Addr) (Q : (List T_api_Talk) → Int → Bool → Int → (List (T_api_Addr × T_api_Filter)) → Int → Int → Prop) (a0_v6_2 : Bool) (a0_now_2 : Int) (a0m_2 : List (T_api_Addr × T_api_Filter)) (a0_one_2 : Int) (a0_two_2 : Int) : Prop :=
 merge_None_W f_Exclude f_Sources (fun r_9 => (r_9 = true → host_Host_Set_j3 g f_Exclude f_Sources Q a0_v6_2 a0_now_2 a0m_2 a0_one_2 a0_two_2 (mdel a0m_2 g)) ∧ (r_9 = false → host_own_W f_Exclude f_Sources (fun r_0_1 r_1_1 => ∀ vr_1_1 : Value, (host_Host_Set_j3 g f_Exclude f_Sources Q a0_v6_2 a0_now_2 a0m_2 a0_one_2 a0_two_2 (mset a0m_2 g (r_0_1, (vr_1_1, r_1_1)))))))
def host_Host_Set_j1 (g : T_api_Addr) (f_Exclude : Bool) (f_Sources : List T_api_Addr) (Q : (List T_api_Talk) → Int → Bool → Int → (List (T_api_Addr × T_api_Filter)) → Int → Int → Prop) (a0_v6_2 : Bool) (a0_now_2 : Int) (a0m_2 : List (T_api_Addr × T_api_Filter)) (a0_one_2 : Int) (a0_two_2 : Int) (b_3 : Bool) : Prop :=
 (b_3 = true → Q [] 1 a0_v6_2 a0_now_2 a0m_2 a0_one_2 a0_two_2) ∧ (b_3 = false → ((!((mget a0m_2 g).isSome)) = true → merge_None_W f_Exclude f_Sources (fun r_8 => ((!r_8) = true → (64 ≤ (a0m_2.length : Int) → Q [] 7 a0_v6_2 a0_now_2 a0m_2 a0_one_2 a0_two_2) ∧ (¬ (64 ≤ (a0m_2.length : Int)) → host_Host_Set_j2 g f_Exclude f_Sources Q a0_v6_2 a0_now_2 a0m_2 a0_one_2 a0_two_2)) ∧ ((!r_8) = false → host_Host_Set_j2 g f_Exclude f_Sources Q a0_v6_2 a0_now_2 a0m_2 a0_one_2 a0_two_2))) ∧ ((!((mget a0m_2 g).isSome)) = false → host_Host_Set_j2 g f_Exclude f_Sources Q a0_v6_2 a0_now_2 a0m_2 a0_one_2 a0_two_2))
def host_Host_Set_W (h_v6 : Bool) (h_now : Int) (h_want : List (T_api_Addr × T_api_Filter)) (h_one : Int) (h_two : Int) (now : Int) (g : T_api_Addr) (f_Exclude : Bool) (f_Sources : List T_api_Addr) (Q : (List T_api_Talk) → Int → Bool → Int → (List (T_api_Addr × T_api_Filter)) → Int → Int → Prop) : Prop :=
 host_Host_settle_W h_v6 h_now h_want h_one h_two now (fun r_1 a0_v6_2 a0_now_2 a0m_2 a0_one_2 a0_two_2 => addr_Good_W g (fun r_2 => ((!r_2) = true → host_Host_Set_j1 g f_Exclude f_Sources Q a0_v6_2 a0_now_2 a0m_2 a0_one_2 a0_two_2 true) ∧ ((!r_2) = false → addr_Group_W g (fun r_3 => ((!r_3) = true → host_Host_Set_j1 g f_Exclude f_Sources Q a0_v6_2 a0_now_2 a0m_2 a0_one_2 a0_two_2 true) ∧ ((!r_3) = false → addr_Local_W g (fun r_4 => (r_4 = true → host_Host_Set_j1 g f_Exclude f_Sources Q a0_v6_2 a0_now_2 a0m_2 a0_one_2 a0_two_2 true) ∧ (r_4 = false → host_Host_kind_W a0_v6_2 a0_now_2 a0m_2 a0_one_2 a0_two_2 ([g] : List T_api_Addr) (fun r_5 => ((!r_5) = true → host_Host_Set_j1 g f_Exclude f_Sources Q a0_v6_2 a0_now_2 a0m_2 a0_one_2 a0_two_2 true) ∧ ((!r_5) = false → host_Host_kind_W a0_v6_2 a0_now_2 a0m_2 a0_one_2 a0_two_2 f_Sources (fun r_6 => ((!r_6) = true → host_Host_Set_j1 g f_Exclude f_Sources Q a0_v6_2 a0_now_2 a0m_2 a0_one_2 a0_two_2 true) ∧ ((!r_6) = false → (64 < (f_Sources.length : Int) → host_Host_Set_j1 g f_Exclude f_Sources Q a0_v6_2 a0_now_2 a0m_2 a0_one_2 a0_two_2 true) ∧ (¬ (64 < (f_Sources.length : Int)) → srcs_Good_W f_Sources (fun r_7 => host_Host_Set_j1 g f_Exclude f_Sources Q a0_v6_2 a0_now_2 a0m_2 a0_one_2 a0_two_2 (!r_7))))))))))))))
theorem host_Host_Set_walk {F : Fz} {fr : List Ow} {h0 : Heap} (h_v6 : Bool) (h_now : Int) (h_want : List (T_api_Addr × T_api_Filter)) (h_one : Int) (h_two : Int) (now : Int) (g : T_api_Addr) (f_Exclude : Bool) (f_Sources : List T_api_Addr) (bh : Nat) (rh_want : Nat) (vf_Sources : Value) (hS : St F (Ow.box bh 52 #[.bool h_v6, .int .i64 h_now, .map (some rh_want), .int .i64 h_one, .int .i64 h_two] :: Ow.map rh_want (fun (x : T_api_Addr) => .agg (e_api_Addr x).toArray) (fun (x : T_api_Filter) => .agg #[.bool x.1, x.2.1]) h_want :: fr) h0) (hN_h_want : NfL nf_api_Filter F h0 (h_want.map (·.2))) (hL_f_Sources : SliceF F h0 17 e_api_Addr vf_Sources f_Sources) {Q : (List T_api_Talk) → Int → Bool → Int → (List (T_api_Addr × T_api_Filter)) → Int → Int → Prop} (hM : host_Host_Set_W h_v6 h_now h_want h_one h_two now g f_Exclude f_Sources Q) :
  HC Try.prog 6 #[.pointer (some ⟨bh, 0, none⟩), .int .i64 now, .agg (e_api_Addr g).toArray, .agg #[.bool f_Exclude, vf_Sources]] h0 fun u h' => ∃ (F' : Fz) (r0_1 : List T_api_Talk) (r1_1 : Int) (a0_v6_1 : Bool) (a0_now_1 : Int) (a0m_1 : List (T_api_Addr × T_api_Filter)) (a0_one_1 : Int) (a0_two_1 : Int) (vr0_1 : Value), u = .tuple #[vr0_1, .int .i64 r1_1] ∧ Kp F h0 F' h' ∧ St F' (Ow.own 39 26 e_api_Talk vr0_1 r0_1 :: Ow.box bh 52 #[.bool a0_v6_1, .int .i64 a0_now_1, .map (some rh_want), .int .i64 a0_one_1, .int .i64 a0_two_1] :: Ow.map rh_want (fun (x : T_api_Addr) => .agg (e_api_Addr x).toArray) (fun (x : T_api_Filter) => .agg #[.bool x.1, x.2.1]) a0m_1 :: fr) h' ∧ (NfL nf_api_Filter F' h' (h_want.map (·.2))) ∧ (SliceF F' h' 17 e_api_Addr vf_Sources f_Sources) ∧ (NfL nf_api_Talk F' h' r0_1) ∧ (NfL nf_api_Filter F' h' (a0m_1.map (·.2))) ∧ Q r0_1 r1_1 a0_v6_1 a0_now_1 a0m_1 a0_one_1 a0_two_1 := by
 unfold host_Host_Set_W at hM
 have hK := Kp.refl F h0
 refine HC.of_HW (n := 98) Try.func6 rfl rfl (Nat.le_of_ble_eq_true rfl) ?_
 refine HW.seq ?_
 refine HW.region ?_
 refine HO.eff (want_none) rfl (st_box (c := (e_api_Addr g).toArray) (k' := 17) hS rfl rfl) ?_
 rintro _ h_1 ⟨b_1, rfl, hS, hk⟩
 replace hK := hK.trans hk
 replace hN_h_want := hN_h_want.kp hk
 replace hL_f_Sources := hL_f_Sources.kp hk
 refine HO.eff (want_none) rfl (st_box (c := #[.bool f_Exclude, vf_Sources]) (k' := 2) hS rfl rfl) ?_
 rintro _ h_2 ⟨b_2, rfl, hS, hk⟩
 replace hK := hK.trans hk
 replace hN_h_want := hN_h_want.kp hk
 replace hL_f_Sources := hL_f_Sources.kp hk
 refine oA (.slice none 0 0) rfl rfl ?_
 refine oA (.int .i64 0) rfl rfl ?_
 refine HO.nil (thenQ_normal (?_))
 refine HW.seq ?_
 refine HW.seq ?_
 refine HW.region ?_
 refine oM (.pointer (some ⟨bh, 0, none⟩)) rfl rfl ?_
 refine oV (.bool false) (q_eqlPnil Try.underlying22 rfl rfl rfl) rfl ?_
 refine HO.nil (thenQ_normal (?_))
 refine HW.condF rfl ?_
 refine HW.skip (thenQ_normal (?_))
 refine HW.seq ?_
 refine HW.region ?_
 refine oM (.pointer (some ⟨bh, 0, none⟩)) rfl rfl ?_
 refine oM (.int .i64 now) rfl rfl ?_
 replace hS : St F (Ow.box bh 52 #[.bool h_v6, .int .i64 h_now, .map (some rh_want), .int .i64 h_one, .int .i64 h_two] :: Ow.map rh_want (fun (x : T_api_Addr) => .agg (e_api_Addr x).toArray) (fun (x : T_api_Filter) => .agg #[.bool x.1, x.2.1]) h_want :: Ow.box b_2 34 #[.bool f_Exclude, vf_Sources] :: Ow.box b_1 30 (e_api_Addr g).toArray :: fr) h_2 := hS.perm2 [2, 3, 0, 1] 4 rfl rfl
 refine HO.call (want_none) rfl (ec en_16 rfl rfl) (host_Host_settle_walk (fr := (Ow.box b_2 34 #[.bool f_Exclude, vf_Sources] :: Ow.box b_1 30 (e_api_Addr g).toArray :: fr)) h_v6 h_now h_want h_one h_two now bh rh_want hS hN_h_want hM) ?_
 rintro _ h_3 ⟨F_1, r_1, a0_v6_2, a0_now_2, a0m_2, a0_one_2, a0_two_2, rfl, hk, hS, _, hL_1, hM⟩
 replace hK := hK.trans hk
 replace hN_h_want := hN_h_want.kp hk
 replace hL_f_Sources := hL_f_Sources.kp hk
 refine HO.nil (thenQ_normal (?_))
 refine HW.seq ?_
 refine HW.seq_mid (fun f h => ∃ (F' : Fz) (b_3 : Bool), f 0 = .pointer (some ⟨bh, 0, none⟩) ∧ f 6 = .pointer (some ⟨b_1, 0, none⟩) ∧ f 7 = .pointer (some ⟨b_2, 0, none⟩) ∧ f 8 = .slice none 0 0 ∧ f 9 = .int .i64 0 ∧ f 54 = .bool b_3 ∧ Kp F h0 F' h ∧ St F' (Ow.box bh 52 #[.bool a0_v6_2, .int .i64 a0_now_2, .map (some rh_want), .int .i64 a0_one_2, .int .i64 a0_two_2] :: Ow.map rh_want (fun (x : T_api_Addr) => .agg (e_api_Addr x).toArray) (fun (x : T_api_Filter) => .agg #[.bool x.1, x.2.1]) a0m_2 :: Ow.box b_1 30 (e_api_Addr g).toArray :: Ow.box b_2 34 #[.bool f_Exclude, vf_Sources] :: fr) h ∧ (NfL nf_api_Filter F' h (h_want.map (·.2))) ∧ (SliceF F' h 17 e_api_Addr vf_Sources f_Sources) ∧ (NfL nf_api_Filter F' h (a0m_2.map (·.2))) ∧ host_Host_Set_j1 g f_Exclude f_Sources Q a0_v6_2 a0_now_2 a0m_2 a0_one_2 a0_two_2 b_3) ?_ ?_
 ·
  refine HW.region ?_
  refine oV (.agg (e_api_Addr g).toArray) (q_loadAgg (cs := (e_api_Addr g)) ta_30 rfl rfl (Blk.cells (k := 17) (hS.box 3 rfl) rfl)) rfl ?_
  refine HO.call (want_none) rfl (ec en_17 rfl rfl) (addr_Good_walk (fr := (Ow.box bh 52 #[.bool a0_v6_2, .int .i64 a0_now_2, .map (some rh_want), .int .i64 a0_one_2, .int .i64 a0_two_2] :: Ow.map rh_want (fun (x : T_api_Addr) => .agg (e_api_Addr x).toArray) (fun (x : T_api_Filter) => .agg #[.bool x.1, x.2.1]) a0m_2 :: Ow.box b_2 34 #[.bool f_Exclude, vf_Sources] :: Ow.box b_1 30 (e_api_Addr g).toArray :: fr)) g hS hM) ?_
  rintro _ h_4 ⟨F_2, r_2, rfl, hk, hS, hM⟩
  replace hK := hK.trans hk
  replace hN_h_want := hN_h_want.kp hk
  replace hL_f_Sources := hL_f_Sources.kp hk
  replace hL_1 := hL_1.kp hk
  refine oV (.bool (!r_2)) (q_not rfl) rfl ?_
  refine oM (.bool (!r_2)) rfl rfl ?_
  rcases Bool.eq_false_or_eq_true (!r_2) with c_1 | c_1
  ·
   replace hM := hM.1 c_1
   refine HO.past (past_by rfl rfl c_1) rfl ?_
   refine HO.past (past_by rfl rfl c_1) rfl ?_
   refine HO.past (past_by rfl rfl c_1) rfl ?_
   refine oV (.bool true) (q_pickK true rfl c_1 rfl) rfl ?_
   refine oM (.bool true) rfl rfl ?_
   refine HO.past (past_some rfl rfl) rfl ?_
   refine HO.past (past_some rfl rfl) rfl ?_
   refine oV (.bool true) (q_pick rfl rfl) rfl ?_
   refine oM (.bool true) rfl rfl ?_
   refine HO.past (past_some rfl rfl) rfl ?_
   refine HO.past (past_some rfl rfl) rfl ?_
   refine HO.past (past_some rfl rfl) rfl ?_
   refine HO.past (past_some rfl rfl) rfl ?_
   refine HO.past (past_some rfl rfl) rfl ?_
   refine oV (.bool true) (q_pick rfl rfl) rfl ?_
   refine oM (.bool true) rfl rfl ?_
   refine HO.past (past_some rfl rfl) rfl ?_
   refine HO.past (past_some rfl rfl) rfl ?_
   refine HO.past (past_some rfl rfl) rfl ?_
   refine HO.past (past_some rfl rfl) rfl ?_
   refine HO.past (past_some rfl rfl) rfl ?_
   refine oV (.bool true) (q_pick rfl rfl) rfl ?_
   refine oM (.bool true) rfl rfl ?_
   refine HO.past (past_some rfl rfl) rfl ?_
   refine HO.past (past_some rfl rfl) rfl ?_
   refine HO.past (past_some rfl rfl) rfl ?_
   refine HO.past (past_some rfl rfl) rfl ?_
   refine oV (.bool true) (q_pick rfl rfl) rfl ?_
   refine oM (.bool true) rfl rfl ?_
   refine HO.past (past_some rfl rfl) rfl ?_
   refine HO.past (past_some rfl rfl) rfl ?_
   refine HO.past (past_some rfl rfl) rfl ?_
   refine HO.past (past_some rfl rfl) rfl ?_
   refine oV (.bool true) (q_pick rfl rfl) rfl ?_
   refine HO.nil (thenQ_normal (?_))
   replace hS : St F_2 (Ow.box bh 52 #[.bool a0_v6_2, .int .i64 a0_now_2, .map (some rh_want), .int .i64 a0_one_2, .int .i64 a0_two_2] :: Ow.map rh_want (fun (x : T_api_Addr) => .agg (e_api_Addr x).toArray) (fun (x : T_api_Filter) => .agg #[.bool x.1, x.2.1]) a0m_2 :: Ow.box b_1 30 (e_api_Addr g).toArray :: Ow.box b_2 34 #[.bool f_Exclude, vf_Sources] :: fr) h_4 := hS.perm2 [0, 1, 3, 2] 4 rfl rfl
   exact ⟨F_2, true, rfl, rfl, rfl, rfl, rfl, rfl, hK, hS, hN_h_want, hL_f_Sources, hL_1, hM⟩
  ·
   replace hM := hM.2 c_1
   refine HO.val (v := .agg (e_api_Addr g).toArray) (want_by rfl rfl c_1) rfl (q_loadAgg (cs := (e_api_Addr g)) ta_30 rfl rfl (Blk.cells (k := 17) (hS.box 3 rfl) rfl)) ?_
   refine HO.call (want_by rfl rfl c_1) rfl (ec en_18 rfl rfl) (addr_Group_walk (fr := (Ow.box bh 52 #[.bool a0_v6_2, .int .i64 a0_now_2, .map (some rh_want), .int .i64 a0_one_2, .int .i64 a0_two_2] :: Ow.map rh_want (fun (x : T_api_Addr) => .agg (e_api_Addr x).toArray) (fun (x : T_api_Filter) => .agg #[.bool x.1, x.2.1]) a0m_2 :: Ow.box b_2 34 #[.bool f_Exclude, vf_Sources] :: Ow.box b_1 30 (e_api_Addr g).toArray :: fr)) g hS hM) ?_
   rintro _ h_5 ⟨F_3, r_3, rfl, hk, hS, hM⟩
   replace hK := hK.trans hk
   replace hN_h_want := hN_h_want.kp hk
   replace hL_f_Sources := hL_f_Sources.kp hk
   replace hL_1 := hL_1.kp hk
   refine HO.val (v := .bool (!r_3)) (want_by rfl rfl c_1) rfl (q_not rfl) ?_
   refine oV (.bool (!r_3)) (q_pickK false rfl c_1 rfl) rfl ?_
   refine oM (.bool (!r_3)) rfl rfl ?_
   rcases Bool.eq_false_or_eq_true (!r_3) with c_2 | c_2
   ·
    replace hM := hM.1 c_2
    refine HO.past (past_by rfl rfl c_2) rfl ?_
    refine HO.past (past_by rfl rfl c_2) rfl ?_
    refine oV (.bool true) (q_pickK true rfl c_2 rfl) rfl ?_
    refine oM (.bool true) rfl rfl ?_
    refine HO.past (past_some rfl rfl) rfl ?_
    refine HO.past (past_some rfl rfl) rfl ?_
    refine HO.past (past_some rfl rfl) rfl ?_
    refine HO.past (past_some rfl rfl) rfl ?_
    refine HO.past (past_some rfl rfl) rfl ?_
    refine oV (.bool true) (q_pick rfl rfl) rfl ?_
    refine oM (.bool true) rfl rfl ?_
    refine HO.past (past_some rfl rfl) rfl ?_
    refine HO.past (past_some rfl rfl) rfl ?_
    refine HO.past (past_some rfl rfl) rfl ?_
    refine HO.past (past_some rfl rfl) rfl ?_
    refine HO.past (past_some rfl rfl) rfl ?_
    refine oV (.bool true) (q_pick rfl rfl) rfl ?_
    refine oM (.bool true) rfl rfl ?_
    refine HO.past (past_some rfl rfl) rfl ?_
    refine HO.past (past_some rfl rfl) rfl ?_
    refine HO.past (past_some rfl rfl) rfl ?_
    refine HO.past (past_some rfl rfl) rfl ?_
    refine oV (.bool true) (q_pick rfl rfl) rfl ?_
    refine oM (.bool true) rfl rfl ?_
    refine HO.past (past_some rfl rfl) rfl ?_
    refine HO.past (past_some rfl rfl) rfl ?_
    refine HO.past (past_some rfl rfl) rfl ?_
    refine HO.past (past_some rfl rfl) rfl ?_
    refine oV (.bool true) (q_pick rfl rfl) rfl ?_
    refine HO.nil (thenQ_normal (?_))
    replace hS : St F_3 (Ow.box bh 52 #[.bool a0_v6_2, .int .i64 a0_now_2, .map (some rh_want), .int .i64 a0_one_2, .int .i64 a0_two_2] :: Ow.map rh_want (fun (x : T_api_Addr) => .agg (e_api_Addr x).toArray) (fun (x : T_api_Filter) => .agg #[.bool x.1, x.2.1]) a0m_2 :: Ow.box b_1 30 (e_api_Addr g).toArray :: Ow.box b_2 34 #[.bool f_Exclude, vf_Sources] :: fr) h_5 := hS.perm2 [0, 1, 3, 2] 4 rfl rfl
    exact ⟨F_3, true, rfl, rfl, rfl, rfl, rfl, rfl, hK, hS, hN_h_want, hL_f_Sources, hL_1, hM⟩
   ·
    replace hM := hM.2 c_2
    refine HO.val (v := .agg (e_api_Addr g).toArray) (want_by rfl rfl c_2) rfl (q_loadAgg (cs := (e_api_Addr g)) ta_30 rfl rfl (Blk.cells (k := 17) (hS.box 3 rfl) rfl)) ?_
    refine HO.call (want_by rfl rfl c_2) rfl (ec en_19 rfl rfl) (addr_Local_walk (fr := (Ow.box bh 52 #[.bool a0_v6_2, .int .i64 a0_now_2, .map (some rh_want), .int .i64 a0_one_2, .int .i64 a0_two_2] :: Ow.map rh_want (fun (x : T_api_Addr) => .agg (e_api_Addr x).toArray) (fun (x : T_api_Filter) => .agg #[.bool x.1, x.2.1]) a0m_2 :: Ow.box b_2 34 #[.bool f_Exclude, vf_Sources] :: Ow.box b_1 30 (e_api_Addr g).toArray :: fr)) g hS hM) ?_
    rintro _ h_6 ⟨F_4, r_4, rfl, hk, hS, hM⟩
    replace hK := hK.trans hk
    replace hN_h_want := hN_h_want.kp hk
    replace hL_f_Sources := hL_f_Sources.kp hk
    replace hL_1 := hL_1.kp hk
    refine oV (.bool r_4) (q_pickK false rfl c_2 rfl) rfl ?_
    refine oM (.bool r_4) rfl rfl ?_
    rcases Bool.eq_false_or_eq_true r_4 with c_3 | c_3
    ·
     replace hM := hM.1 c_3
     refine HO.past (past_by rfl rfl c_3) rfl ?_
     refine HO.past (past_by rfl rfl c_3) rfl ?_
     refine HO.past (past_by rfl rfl c_3) rfl ?_
     refine HO.past (past_by rfl rfl c_3) rfl ?_
     refine HO.past (past_by rfl rfl c_3) rfl ?_
     refine oV (.bool true) (q_pickK true rfl c_3 rfl) rfl ?_
     refine oM (.bool true) rfl rfl ?_
     refine HO.past (past_some rfl rfl) rfl ?_
     refine HO.past (past_some rfl rfl) rfl ?_
     refine HO.past (past_some rfl rfl) rfl ?_
     refine HO.past (past_some rfl rfl) rfl ?_
     refine HO.past (past_some rfl rfl) rfl ?_
     refine oV (.bool true) (q_pick rfl rfl) rfl ?_
     refine oM (.bool true) rfl rfl ?_
     refine HO.past (past_some rfl rfl) rfl ?_
     refine HO.past (past_some rfl rfl) rfl ?_
     refine HO.past (past_some rfl rfl) rfl ?_
     refine HO.past (past_some rfl rfl) rfl ?_
     refine oV (.bool true) (q_pick rfl rfl) rfl ?_
     refine oM (.bool true) rfl rfl ?_
     refine HO.past (past_some rfl rfl) rfl ?_
     refine HO.past (past_some rfl rfl) rfl ?_
     refine HO.past (past_some rfl rfl) rfl ?_
     refine HO.past (past_some rfl rfl) rfl ?_
     refine oV (.bool true) (q_pick rfl rfl) rfl ?_
     refine HO.nil (thenQ_normal (?_))
     replace hS : St F_4 (Ow.box bh 52 #[.bool a0_v6_2, .int .i64 a0_now_2, .map (some rh_want), .int .i64 a0_one_2, .int .i64 a0_two_2] :: Ow.map rh_want (fun (x : T_api_Addr) => .agg (e_api_Addr x).toArray) (fun (x : T_api_Filter) => .agg #[.bool x.1, x.2.1]) a0m_2 :: Ow.box b_1 30 (e_api_Addr g).toArray :: Ow.box b_2 34 #[.bool f_Exclude, vf_Sources] :: fr) h_6 := hS.perm2 [0, 1, 3, 2] 4 rfl rfl
     exact ⟨F_4, true, rfl, rfl, rfl, rfl, rfl, rfl, hK, hS, hN_h_want, hL_f_Sources, hL_1, hM⟩
    ·
     replace hM := hM.2 c_3
     refine HO.val (v := .pointer (some ⟨bh, 0, none⟩)) (want_by rfl rfl c_3) rfl (q_move rfl) ?_
     refine HO.val (v := .agg (e_api_Addr g).toArray) (want_by rfl rfl c_3) rfl (q_loadAgg (cs := (e_api_Addr g)) ta_30 rfl rfl (Blk.cells (k := 17) (hS.box 3 rfl) rfl)) ?_
     refine HO.eff (want_by rfl rfl c_3) rfl (st_lit (enc := e_api_Addr) (cells := #[.bool g.1, .int .u8 (b8 g.2 0), .int .u8 (b8 g.2 1), .int .u8 (b8 g.2 2), .int .u8 (b8 g.2 3), .int .u8 (b8 g.2 4), .int .u8 (b8 g.2 5), .int .u8 (b8 g.2 6), .int .u8 (b8 g.2 7), .int .u8 (b8 g.2 8), .int .u8 (b8 g.2 9), .int .u8 (b8 g.2 10), .int .u8 (b8 g.2 11), .int .u8 (b8 g.2 12), .int .u8 (b8 g.2 13), .int .u8 (b8 g.2 14), .int .u8 (b8 g.2 15)]) #[.bool false, .int .u8 0, .int .u8 0, .int .u8 0, .int .u8 0, .int .u8 0, .int .u8 0, .int .u8 0, .int .u8 0, .int .u8 0, .int .u8 0, .int .u8 0, .int .u8 0, .int .u8 0, .int .u8 0, .int .u8 0, .int .u8 0] ([g] : List T_api_Addr) hS tl_32 (by decide) (by decide) (by kernel_rfl) (by kernel_rfl) rfl (by intro x hx; rfl) rfl) ?_
     rintro _ h_7 ⟨b_4, rfl, hS, hk⟩
     replace hK := hK.trans hk
     replace hN_h_want := hN_h_want.kp hk
     replace hL_f_Sources := hL_f_Sources.kp hk
     replace hL_1 := hL_1.kp hk
     replace hS : St F_4 (Ow.box bh 52 #[.bool a0_v6_2, .int .i64 a0_now_2, .map (some rh_want), .int .i64 a0_one_2, .int .i64 a0_two_2] :: Ow.own 30 17 e_api_Addr (.slice (some ⟨b_4, 0, none⟩) 1 1) ([g] : List T_api_Addr) :: Ow.map rh_want (fun (x : T_api_Addr) => .agg (e_api_Addr x).toArray) (fun (x : T_api_Filter) => .agg #[.bool x.1, x.2.1]) a0m_2 :: Ow.box b_2 34 #[.bool f_Exclude, vf_Sources] :: Ow.box b_1 30 (e_api_Addr g).toArray :: fr) h_7 := hS.perm2 [1, 0, 2, 3, 4] 5 rfl rfl
     have hZ_1 := hS
     have hkz_1 := (hS.freeze).2
     replace hS := hS.freeze.1
     have hL_2 := hZ_1.lent
     replace hS : St (fun bz_ => F_4 bz_ ∨ (Ow.box bh 52 #[.bool a0_v6_2, .int .i64 a0_now_2, .map (some rh_want), .int .i64 a0_one_2, .int .i64 a0_two_2]).foot bz_) (Ow.map rh_want (fun (x : T_api_Addr) => .agg (e_api_Addr x).toArray) (fun (x : T_api_Filter) => .agg #[.bool x.1, x.2.1]) a0m_2 :: Ow.own 30 17 e_api_Addr (.slice (some ⟨b_4, 0, none⟩) 1 1) ([g] : List T_api_Addr) :: Ow.box b_2 34 #[.bool f_Exclude, vf_Sources] :: Ow.box b_1 30 (e_api_Addr g).toArray :: fr) h_7 := hS.perm2 [1, 0, 2, 3] 4 rfl rfl
     have hZ_2 := hS
     have hkz_2 := (hS.freeze).2
     replace hS := hS.freeze.1
     have hL_3 := hZ_2.lent
     replace hS : St (fun bz_ => (fun bz_ => F_4 bz_ ∨ (Ow.box bh 52 #[.bool a0_v6_2, .int .i64 a0_now_2, .map (some rh_want), .int .i64 a0_one_2, .int .i64 a0_two_2]).foot bz_) bz_ ∨ (Ow.map rh_want (fun (x : T_api_Addr) => .agg (e_api_Addr x).toArray) (fun (x : T_api_Filter) => .agg #[.bool x.1, x.2.1]) a0m_2).foot bz_) (Ow.own 30 17 e_api_Addr (.slice (some ⟨b_4, 0, none⟩) 1 1) ([g] : List T_api_Addr) :: Ow.box b_2 34 #[.bool f_Exclude, vf_Sources] :: Ow.box b_1 30 (e_api_Addr g).toArray :: fr) h_7 := hS
     have hZ_3 := hS
     have hkz_3 := (hS.freeze).2
     replace hS := hS.freeze.1
     have hL_4 : SliceF (fun bz_ => (fun bz_ => (fun bz_ => F_4 bz_ ∨ (Ow.box bh 52 #[.bool a0_v6_2, .int .i64 a0_now_2, .map (some rh_want), .int .i64 a0_one_2, .int .i64 a0_two_2]).foot bz_) bz_ ∨ (Ow.map rh_want (fun (x : T_api_Addr) => .agg (e_api_Addr x).toArray) (fun (x : T_api_Filter) => .agg #[.bool x.1, x.2.1]) a0m_2).foot bz_) bz_ ∨ (Ow.own 30 17 e_api_Addr (.slice (some ⟨b_4, 0, none⟩) 1 1) ([g] : List T_api_Addr)).foot bz_) h_7 17 e_api_Addr (.slice (some ⟨b_4, 0, none⟩) 1 1) ([g] : List T_api_Addr) := ⟨(hZ_3.own 0 rfl).slice, fun _ b hb => .inr hb⟩
     refine HO.call (want_by rfl rfl c_3) rfl (ec en_20 rfl rfl) (host_Host_kind_walk (fr := (Ow.box b_2 34 #[.bool f_Exclude, vf_Sources] :: Ow.box b_1 30 (e_api_Addr g).toArray :: fr)) a0_v6_2 a0_now_2 a0m_2 a0_one_2 a0_two_2 ([g] : List T_api_Addr) bh rh_want (.slice (some ⟨b_4, 0, none⟩) 1 1) hS (NfL.kp (NfL.kp (NfL.kp hL_1 hkz_1) hkz_2) hkz_3) (hL_3.kp hkz_3) ((hL_2.kp hkz_2).kp hkz_3) hL_4 hM) ?_
     rintro _ h_8 ⟨F_5, r_5, rfl, hk, hS, _, _, _, _, hM⟩
     obtain ⟨hS, hk⟩ := hZ_3.back hk hS
     obtain ⟨hS, hk⟩ := hZ_2.back hk hS
     obtain ⟨hS, hk⟩ := hZ_1.back hk hS
     generalize (fun bz_ => (fun bz_ => (fun bz_ => F_5 bz_ ∧ ¬ (Ow.own 30 17 e_api_Addr (.slice (some ⟨b_4, 0, none⟩) 1 1) ([g] : List T_api_Addr)).foot bz_) bz_ ∧ ¬ (Ow.map rh_want (fun (x : T_api_Addr) => .agg (e_api_Addr x).toArray) (fun (x : T_api_Filter) => .agg #[.bool x.1, x.2.1]) a0m_2).foot bz_) bz_ ∧ ¬ (Ow.box bh 52 #[.bool a0_v6_2, .int .i64 a0_now_2, .map (some rh_want), .int .i64 a0_one_2, .int .i64 a0_two_2]).foot bz_) = F_6 at hS hk
     replace hK := hK.trans hk
     replace hN_h_want := hN_h_want.kp hk
     replace hL_f_Sources := hL_f_Sources.kp hk
     replace hL_1 := hL_1.kp hk
     refine HO.val (v := .bool (!r_5)) (want_by rfl rfl c_3) rfl (q_not rfl) ?_
     refine oV (.bool (!r_5)) (q_pickK false rfl c_3 rfl) rfl ?_
     refine oM (.bool (!r_5)) rfl rfl ?_
     rcases Bool.eq_false_or_eq_true (!r_5) with c_4 | c_4
     ·
      replace hM := hM.1 c_4
      refine HO.past (past_by rfl rfl c_4) rfl ?_
      refine HO.past (past_by rfl rfl c_4) rfl ?_
      refine HO.past (past_by rfl rfl c_4) rfl ?_
      refine HO.past (past_by rfl rfl c_4) rfl ?_
      refine HO.past (past_by rfl rfl c_4) rfl ?_
      refine oV (.bool true) (q_pickK true rfl c_4 rfl) rfl ?_
      refine oM (.bool true) rfl rfl ?_
      refine HO.past (past_some rfl rfl) rfl ?_
      refine HO.past (past_some rfl rfl) rfl ?_
      refine HO.past (past_some rfl rfl) rfl ?_
      refine HO.past (past_some rfl rfl) rfl ?_
      refine oV (.bool true) (q_pick rfl rfl) rfl ?_
      refine oM (.bool true) rfl rfl ?_
      refine HO.past (past_some rfl rfl) rfl ?_
      refine HO.past (past_some rfl rfl) rfl ?_
      refine HO.past (past_some rfl rfl) rfl ?_
      refine HO.past (past_some rfl rfl) rfl ?_
      refine oV (.bool true) (q_pick rfl rfl) rfl ?_
      refine HO.nil (thenQ_normal (?_))
      replace hS : St F_6 (Ow.box bh 52 #[.bool a0_v6_2, .int .i64 a0_now_2, .map (some rh_want), .int .i64 a0_one_2, .int .i64 a0_two_2] :: Ow.map rh_want (fun (x : T_api_Addr) => .agg (e_api_Addr x).toArray) (fun (x : T_api_Filter) => .agg #[.bool x.1, x.2.1]) a0m_2 :: Ow.box b_1 30 (e_api_Addr g).toArray :: Ow.box b_2 34 #[.bool f_Exclude, vf_Sources] :: fr) h_8 := hS.perm2 [0, 1, 4, 3] 5 rfl rfl
      exact ⟨F_6, true, rfl, rfl, rfl, rfl, rfl, rfl, hK, hS, hN_h_want, hL_f_Sources, hL_1, hM⟩
     ·
      replace hM := hM.2 c_4
      refine HO.val (v := .pointer (some ⟨bh, 0, none⟩)) (want_by rfl rfl c_4) rfl (q_move rfl) ?_
      refine HO.val (v := .pointer (some ⟨b_2, 1, none⟩)) (want_by rfl rfl c_4) rfl (q_fieldAddr fa_34_1 rfl rfl) ?_
      refine HO.val (v := vf_Sources) (want_by rfl rfl c_4) rfl (q_load to_32 rfl (Blk.cell (hS.box 3 rfl) rfl)) ?_
      replace hS : St F_6 (Ow.box bh 52 #[.bool a0_v6_2, .int .i64 a0_now_2, .map (some rh_want), .int .i64 a0_one_2, .int .i64 a0_two_2] :: Ow.map rh_want (fun (x : T_api_Addr) => .agg (e_api_Addr x).toArray) (fun (x : T_api_Filter) => .agg #[.bool x.1, x.2.1]) a0m_2 :: Ow.own 30 17 e_api_Addr (.slice (some ⟨b_4, 0, none⟩) 1 1) ([g] : List T_api_Addr) :: Ow.box b_2 34 #[.bool f_Exclude, vf_Sources] :: Ow.box b_1 30 (e_api_Addr g).toArray :: fr) h_8 := hS
      have hZ_4 := hS
      have hkz_4 := (hS.freeze).2
      replace hS := hS.freeze.1
      have hL_5 := hZ_4.lent
      replace hS : St (fun bz_ => F_6 bz_ ∨ (Ow.box bh 52 #[.bool a0_v6_2, .int .i64 a0_now_2, .map (some rh_want), .int .i64 a0_one_2, .int .i64 a0_two_2]).foot bz_) (Ow.map rh_want (fun (x : T_api_Addr) => .agg (e_api_Addr x).toArray) (fun (x : T_api_Filter) => .agg #[.bool x.1, x.2.1]) a0m_2 :: Ow.own 30 17 e_api_Addr (.slice (some ⟨b_4, 0, none⟩) 1 1) ([g] : List T_api_Addr) :: Ow.box b_2 34 #[.bool f_Exclude, vf_Sources] :: Ow.box b_1 30 (e_api_Addr g).toArray :: fr) h_8 := hS
      have hZ_5 := hS
      have hkz_5 := (hS.freeze).2
      replace hS := hS.freeze.1
      have hL_6 := hZ_5.lent
      refine HO.call (want_by rfl rfl c_4) rfl (ec en_20 rfl rfl) (host_Host_kind_walk (fr := (Ow.own 30 17 e_api_Addr (.slice (some ⟨b_4, 0, none⟩) 1 1) ([g] : List T_api_Addr) :: Ow.box b_2 34 #[.bool f_Exclude, vf_Sources] :: Ow.box b_1 30 (e_api_Addr g).toArray :: fr)) a0_v6_2 a0_now_2 a0m_2 a0_one_2 a0_two_2 f_Sources bh rh_want vf_Sources hS (NfL.kp (NfL.kp hL_1 hkz_4) hkz_5) hL_6 (hL_5.kp hkz_5) ((hL_f_Sources.kp hkz_4).kp hkz_5) hM) ?_
      rintro _ h_9 ⟨F_7, r_6, rfl, hk, hS, _, _, _, _, hM⟩
      obtain ⟨hS, hk⟩ := hZ_5.back hk hS
      obtain ⟨hS, hk⟩ := hZ_4.back hk hS
      generalize (fun bz_ => (fun bz_ => F_7 bz_ ∧ ¬ (Ow.map rh_want (fun (x : T_api_Addr) => .agg (e_api_Addr x).toArray) (fun (x : T_api_Filter) => .agg #[.bool x.1, x.2.1]) a0m_2).foot bz_) bz_ ∧ ¬ (Ow.box bh 52 #[.bool a0_v6_2, .int .i64 a0_now_2, .map (some rh_want), .int .i64 a0_one_2, .int .i64 a0_two_2]).foot bz_) = F_8 at hS hk
      replace hK := hK.trans hk
      replace hN_h_want := hN_h_want.kp hk
      replace hL_f_Sources := hL_f_Sources.kp hk
      replace hL_1 := hL_1.kp hk
      refine HO.val (v := .bool (!r_6)) (want_by rfl rfl c_4) rfl (q_not rfl) ?_
      refine oV (.bool (!r_6)) (q_pickK false rfl c_4 rfl) rfl ?_
      refine oM (.bool (!r_6)) rfl rfl ?_
      rcases Bool.eq_false_or_eq_true (!r_6) with c_5 | c_5
      ·
       replace hM := hM.1 c_5
       refine HO.past (past_by rfl rfl c_5) rfl ?_
       refine HO.past (past_by rfl rfl c_5) rfl ?_
       refine HO.past (past_by rfl rfl c_5) rfl ?_
       refine HO.past (past_by rfl rfl c_5) rfl ?_
       refine oV (.bool true) (q_pickK true rfl c_5 rfl) rfl ?_
       refine oM (.bool true) rfl rfl ?_
       refine HO.past (past_some rfl rfl) rfl ?_
       refine HO.past (past_some rfl rfl) rfl ?_
       refine HO.past (past_some rfl rfl) rfl ?_
       refine HO.past (past_some rfl rfl) rfl ?_
       refine oV (.bool true) (q_pick rfl rfl) rfl ?_
       refine HO.nil (thenQ_normal (?_))
       replace hS : St F_8 (Ow.box bh 52 #[.bool a0_v6_2, .int .i64 a0_now_2, .map (some rh_want), .int .i64 a0_one_2, .int .i64 a0_two_2] :: Ow.map rh_want (fun (x : T_api_Addr) => .agg (e_api_Addr x).toArray) (fun (x : T_api_Filter) => .agg #[.bool x.1, x.2.1]) a0m_2 :: Ow.box b_1 30 (e_api_Addr g).toArray :: Ow.box b_2 34 #[.bool f_Exclude, vf_Sources] :: fr) h_9 := hS.perm2 [0, 1, 4, 3] 5 rfl rfl
       exact ⟨F_8, true, rfl, rfl, rfl, rfl, rfl, rfl, hK, hS, hN_h_want, hL_f_Sources, hL_1, hM⟩
      ·
       replace hM := hM.2 c_5
       refine HO.val (v := .pointer (some ⟨b_2, 1, none⟩)) (want_by rfl rfl c_5) rfl (q_fieldAddr fa_34_1 rfl rfl) ?_
       refine HO.val (v := vf_Sources) (want_by rfl rfl c_5) rfl (q_load to_32 rfl (Blk.cell (hS.box 3 rfl) rfl)) ?_
       refine HO.val (v := .int .i64 (f_Sources.length : Int)) (want_by rfl rfl c_5) rfl (q_len ts_32 (shp hL_f_Sources.is) rfl rfl) ?_
       refine HO.val (v := .bool (decide (64 < (f_Sources.length : Int)))) (want_by rfl rfl c_5) rfl (q_gtr rfl rfl) ?_
       refine oV (.bool (decide (64 < (f_Sources.length : Int)))) (q_pickK false rfl c_5 rfl) rfl ?_
       refine oM (.bool (decide (64 < (f_Sources.length : Int)))) rfl rfl ?_
       rcases Bool.eq_false_or_eq_true (decide (64 < (f_Sources.length : Int))) with c_6 | c_6
       ·
        replace hM := hM.1 (of_decide_eq_true c_6)
        refine HO.past (past_by rfl rfl c_6) rfl ?_
        refine HO.past (past_by rfl rfl c_6) rfl ?_
        refine HO.past (past_by rfl rfl c_6) rfl ?_
        refine HO.past (past_by rfl rfl c_6) rfl ?_
        refine oV (.bool true) (q_pickK true rfl c_6 rfl) rfl ?_
        refine HO.nil (thenQ_normal (?_))
        replace hS : St F_8 (Ow.box bh 52 #[.bool a0_v6_2, .int .i64 a0_now_2, .map (some rh_want), .int .i64 a0_one_2, .int .i64 a0_two_2] :: Ow.map rh_want (fun (x : T_api_Addr) => .agg (e_api_Addr x).toArray) (fun (x : T_api_Filter) => .agg #[.bool x.1, x.2.1]) a0m_2 :: Ow.box b_1 30 (e_api_Addr g).toArray :: Ow.box b_2 34 #[.bool f_Exclude, vf_Sources] :: fr) h_9 := hS.perm2 [0, 1, 4, 3] 5 rfl rfl
        exact ⟨F_8, true, rfl, rfl, rfl, rfl, rfl, rfl, hK, hS, hN_h_want, hL_f_Sources, hL_1, hM⟩
       ·
        replace hM := hM.2 (of_decide_eq_false c_6)
        refine HO.val (v := .pointer (some ⟨b_2, 1, none⟩)) (want_by rfl rfl c_6) rfl (q_fieldAddr fa_34_1 rfl rfl) ?_
        refine HO.val (v := vf_Sources) (want_by rfl rfl c_6) rfl (q_load to_32 rfl (Blk.cell (hS.box 3 rfl) rfl)) ?_
        refine HO.call (want_by rfl rfl c_6) rfl (ec en_21 rfl rfl) (srcs_Good_walk (fr := (Ow.box bh 52 #[.bool a0_v6_2, .int .i64 a0_now_2, .map (some rh_want), .int .i64 a0_one_2, .int .i64 a0_two_2] :: Ow.map rh_want (fun (x : T_api_Addr) => .agg (e_api_Addr x).toArray) (fun (x : T_api_Filter) => .agg #[.bool x.1, x.2.1]) a0m_2 :: Ow.own 30 17 e_api_Addr (.slice (some ⟨b_4, 0, none⟩) 1 1) ([g] : List T_api_Addr) :: Ow.box b_2 34 #[.bool f_Exclude, vf_Sources] :: Ow.box b_1 30 (e_api_Addr g).toArray :: fr)) f_Sources vf_Sources hS hL_f_Sources hM) ?_
        rintro _ h_10 ⟨F_9, r_7, rfl, hk, hS, _, hM⟩
        replace hK := hK.trans hk
        replace hN_h_want := hN_h_want.kp hk
        replace hL_f_Sources := hL_f_Sources.kp hk
        replace hL_1 := hL_1.kp hk
        refine HO.val (v := .bool (!r_7)) (want_by rfl rfl c_6) rfl (q_not rfl) ?_
        refine oV (.bool (!r_7)) (q_pickK false rfl c_6 rfl) rfl ?_
        refine HO.nil (thenQ_normal (?_))
        replace hS : St F_9 (Ow.box bh 52 #[.bool a0_v6_2, .int .i64 a0_now_2, .map (some rh_want), .int .i64 a0_one_2, .int .i64 a0_two_2] :: Ow.map rh_want (fun (x : T_api_Addr) => .agg (e_api_Addr x).toArray) (fun (x : T_api_Filter) => .agg #[.bool x.1, x.2.1]) a0m_2 :: Ow.box b_1 30 (e_api_Addr g).toArray :: Ow.box b_2 34 #[.bool f_Exclude, vf_Sources] :: fr) h_10 := hS.perm2 [0, 1, 4, 3] 5 rfl rfl
        exact ⟨F_9, !r_7, rfl, rfl, rfl, rfl, rfl, rfl, hK, hS, hN_h_want, hL_f_Sources, hL_1, hM⟩
 ·
  rintro f_1 h_11 ⟨F_10, b_3, e0, e6, e7, e8, e9, e54, hK, hS, hN_h_want, hL_f_Sources, hL_1, hM⟩
  unfold host_Host_Set_j1 at hM
  refine HW.fr [(0, .pointer (some ⟨bh, 0, none⟩)), (6, .pointer (some ⟨b_1, 0, none⟩)), (7, .pointer (some ⟨b_2, 0, none⟩)), (8, .slice none 0 0), (9, .int .i64 0), (54, .bool b_3)] ⟨e0, e6, e7, e8, e9, e54, trivial⟩ ?_
  refine HW.cond b_3 rfl (fun c_7 => ?_) (fun c_7 => ?_)
  ·
   replace hM := hM.1 c_7
   refine HW.seq ?_
   refine HW.region ?_
   refine oA (.slice none 0 0) rfl rfl ?_
   refine oA (.int .i64 1) rfl rfl ?_
   refine HO.nil (thenQ_normal (?_))
   refine HW.ret (thenQ_ret (?_))
   refine ⟨.inr rfl, .tuple #[.slice none 0 0, .int .i64 1], res2 rfl (rt rfl) (rt rfl), ?_⟩
   replace hS := hS.nilOwn 39 26 e_api_Talk
   have hN_4 : NfL nf_api_Talk F_10 h_11 ([] : List T_api_Talk) := NfL.nil _ _ _
   replace hS : St F_10 (Ow.own 39 26 e_api_Talk (.slice none 0 0) ([] : List T_api_Talk) :: Ow.box bh 52 #[.bool a0_v6_2, .int .i64 a0_now_2, .map (some rh_want), .int .i64 a0_one_2, .int .i64 a0_two_2] :: Ow.map rh_want (fun (x : T_api_Addr) => .agg (e_api_Addr x).toArray) (fun (x : T_api_Filter) => .agg #[.bool x.1, x.2.1]) a0m_2 :: fr) h_11 := hS.perm2 [0, 1, 2] 5 rfl rfl
   exact ⟨F_10, [], 1, a0_v6_2, a0_now_2, a0m_2, a0_one_2, a0_two_2, .slice none 0 0, rfl, hK, hS, hN_h_want, hL_f_Sources, hN_4, hL_1, hM⟩
  ·
   replace hM := hM.2 c_7
   refine HW.skip (thenQ_normal (?_))
   refine HW.seq ?_
   refine HW.regionA 12 mixed (fun h => (Blk h bh (.cells #[.bool a0_v6_2, .int .i64 a0_now_2, .map (some rh_want), .int .i64 a0_one_2, .int .i64 a0_two_2] 52 (0, 0))) ∧ (MapIs h rh_want (fun (x : T_api_Addr) => .agg (e_api_Addr x).toArray) (fun (x : T_api_Filter) => .agg #[.bool x.1, x.2.1]) a0m_2) ∧ (Blk h b_1 (.cells (e_api_Addr g).toArray 30 (0, 0)))) [] (by kernel_rfl) ?_
   refine HA.val (k := 0) (v := .pointer (some ⟨bh, 0, none⟩)) rfl rfl (by kernel_rfl) (by kernel_rfl) (want_none) rfl (fun _ ⟨c210, c211, c212⟩ => q_move rfl) ?_
   refine HA.val (k := 1) (v := .pointer (some ⟨bh, 0, none⟩)) rfl rfl (by kernel_rfl) (by kernel_rfl) (want_none) rfl (fun _ ⟨c210, c211, c212⟩ => q_nilCheck rfl) ?_
   refine HA.val (k := 2) (v := .pointer (some ⟨bh, 2, none⟩)) rfl rfl (by kernel_rfl) (by kernel_rfl) (want_none) rfl (fun _ ⟨c210, c211, c212⟩ => q_fieldAddr fa_52_2 rfl rfl) ?_
   refine HA.val (k := 3) (v := .map (some rh_want)) rfl rfl (by kernel_rfl) (by kernel_rfl) (want_none) rfl (fun _ ⟨c210, c211, c212⟩ => q_load to_50 rfl (Blk.cell c210 rfl)) ?_
   refine HA.val (k := 4) (v := .agg (e_api_Addr g).toArray) rfl rfl (by kernel_rfl) (by kernel_rfl) (want_none) rfl (fun _ ⟨c210, c211, c212⟩ => q_loadAgg (cs := (e_api_Addr g)) ta_30 rfl rfl (Blk.cells (k := 17) c212 rfl)) ?_
   have hL_7 : SliceF F_10 h_11 17 e_api_Addr (((mgetD z_api_Filter a0m_2 g).2).1) (((mgetD z_api_Filter a0m_2 g).2).2) := nff_api_Filter_1 (NfL.mgetD hL_1 g (nfm_api_Filter z_api_Filter (SliceF.nil _ _ _ _)))
   refine HA.val (k := 5) (v := .tuple #[.agg #[.bool ((mgetD z_api_Filter a0m_2 g).1), ((mgetD z_api_Filter a0m_2 g).2).1], .bool ((mget a0m_2 g).isSome)]) rfl rfl (by kernel_rfl) (by kernel_rfl) (want_none) rfl (fun _ ⟨c210, c211, c212⟩ => (q_lookupOk (k := g) ka_30 tmk_50 c211 rfl rfl).of_eq (congrArg (fun v => Value.tuple #[v, _]) (mvalD (z := z_api_Filter) rfl _ _))) ?_
   refine HA.val (k := 6) (v := .tuple #[.agg #[.bool ((mgetD z_api_Filter a0m_2 g).1), ((mgetD z_api_Filter a0m_2 g).2).1], .bool ((mget a0m_2 g).isSome)]) rfl rfl (by kernel_rfl) (by kernel_rfl) (want_none) rfl (fun _ ⟨c210, c211, c212⟩ => q_move rfl) ?_
   refine HA.val (k := 7) (v := .agg #[.bool ((mgetD z_api_Filter a0m_2 g).1), ((mgetD z_api_Filter a0m_2 g).2).1]) rfl rfl (by kernel_rfl) (by kernel_rfl) (want_none) rfl (fun _ ⟨c210, c211, c212⟩ => q_extract rfl rfl) ?_
   refine HA.val (k := 8) (v := .bool ((mget a0m_2 g).isSome)) rfl rfl (by kernel_rfl) (by kernel_rfl) (want_none) rfl (fun _ ⟨c210, c211, c212⟩ => q_extract rfl rfl) ?_
   refine HA.one (k := 9) ⟨⟨(hS.box 0 rfl), (hS.mp 1 rfl), (hS.box 2 rfl)⟩, (Go.Wk.at_nil _ _)⟩ (by kernel_rfl) ?_
   refine HS.eff rfl (want_none) rfl (st_alloc (c := #[.bool false, .slice none 0 0]) hS tz_34 rfl) ?_
   rintro _ h_12 ⟨b_5, rfl, hS, hk⟩
   replace hK := hK.trans hk
   replace hN_h_want := hN_h_want.kp hk
   replace hL_f_Sources := hL_f_Sources.kp hk
   replace hL_1 := hL_1.kp hk
   replace hL_7 := hL_7.kp hk
   refine HA.one (k := 10) ⟨⟨(hS.box 1 rfl), (hS.mp 2 rfl), (hS.box 3 rfl)⟩, (Go.Wk.at_nil _ _)⟩ (by kernel_rfl) ?_
   refine HS.sto rfl (want_none) rfl (st_storeAgg (c' := #[.bool ((mgetD z_api_Filter a0m_2 g).1), ((mgetD z_api_Filter a0m_2 g).2).1]) hS (i := 0) rfl ta_34 rfl rfl rfl (List.forall_mem_cons.2 ⟨rfl, (List.forall_mem_cons.2 ⟨(shp hL_7.is).one, (fun _ h => by cases h)⟩)⟩) (Nat.le_of_ble_eq_true rfl) rfl) ?_
   rintro h_13 ⟨hS, hk⟩
   replace hK := hK.trans hk
   replace hN_h_want := hN_h_want.kp hk
   replace hL_f_Sources := hL_f_Sources.kp hk
   replace hL_1 := hL_1.kp hk
   replace hL_7 := hL_7.kp hk
   refine HA.val (k := 11) (v := .bool ((mget a0m_2 g).isSome)) rfl rfl (by kernel_rfl) (by kernel_rfl) (want_none) rfl (fun _ ⟨c210, c211, c212⟩ => q_assign rfl) ?_
   refine HA.nil ⟨⟨(hS.box 1 rfl), (hS.mp 2 rfl), (hS.box 3 rfl)⟩, (Go.Wk.at_nil _ _)⟩ (by kernel_rfl) (thenQ_normal (?_))
   refine HW.seq_mid (fun f h => ∃ (F' : Fz), f 0 = .pointer (some ⟨bh, 0, none⟩) ∧ f 6 = .pointer (some ⟨b_1, 0, none⟩) ∧ f 7 = .pointer (some ⟨b_2, 0, none⟩) ∧ f 8 = .slice none 0 0 ∧ f 9 = .int .i64 0 ∧ f 10 = .pointer (some ⟨b_5, 0, none⟩) ∧ Kp F h0 F' h ∧ St F' (Ow.box bh 52 #[.bool a0_v6_2, .int .i64 a0_now_2, .map (some rh_want), .int .i64 a0_one_2, .int .i64 a0_two_2] :: Ow.map rh_want (fun (x : T_api_Addr) => .agg (e_api_Addr x).toArray) (fun (x : T_api_Filter) => .agg #[.bool x.1, x.2.1]) a0m_2 :: Ow.box b_1 30 (e_api_Addr g).toArray :: Ow.box b_2 34 #[.bool f_Exclude, vf_Sources] :: Ow.box b_5 34 #[.bool ((mgetD z_api_Filter a0m_2 g).1), ((mgetD z_api_Filter a0m_2 g).2).1] :: fr) h ∧ (NfL nf_api_Filter F' h (h_want.map (·.2))) ∧ (SliceF F' h 17 e_api_Addr vf_Sources f_Sources) ∧ (NfL nf_api_Filter F' h (a0m_2.map (·.2))) ∧ (SliceF F' h 17 e_api_Addr (((mgetD z_api_Filter a0m_2 g).2).1) (((mgetD z_api_Filter a0m_2 g).2).2)) ∧ host_Host_Set_j2 g f_Exclude f_Sources Q a0_v6_2 a0_now_2 a0m_2 a0_one_2 a0_two_2) ?_ ?_
   ·
    refine HW.seq ?_
    refine HW.region ?_
    refine oM (.bool ((mget a0m_2 g).isSome)) rfl rfl ?_
    refine oV (.bool (!((mget a0m_2 g).isSome))) (q_not rfl) rfl ?_
    refine oM (.bool (!((mget a0m_2 g).isSome))) rfl rfl ?_
    rcases Bool.eq_false_or_eq_true (!((mget a0m_2 g).isSome)) with c_8 | c_8
    ·
     replace hM := hM.1 c_8
     refine HO.val (v := .agg #[.bool f_Exclude, vf_Sources]) (want_by rfl rfl c_8) rfl (q_loadAgg (cs := [.bool f_Exclude, vf_Sources]) ta_34 rfl rfl (Blk.cells (k := 2) (hS.box 4 rfl) rfl)) ?_
     refine HO.call (want_by rfl rfl c_8) rfl (ec en_22 rfl rfl) (merge_None_walk (fr := (Ow.box b_5 34 #[.bool ((mgetD z_api_Filter a0m_2 g).1), ((mgetD z_api_Filter a0m_2 g).2).1] :: Ow.box bh 52 #[.bool a0_v6_2, .int .i64 a0_now_2, .map (some rh_want), .int .i64 a0_one_2, .int .i64 a0_two_2] :: Ow.map rh_want (fun (x : T_api_Addr) => .agg (e_api_Addr x).toArray) (fun (x : T_api_Filter) => .agg #[.bool x.1, x.2.1]) a0m_2 :: Ow.box b_1 30 (e_api_Addr g).toArray :: Ow.box b_2 34 #[.bool f_Exclude, vf_Sources] :: fr)) f_Exclude f_Sources vf_Sources hS hL_f_Sources hM) ?_
     rintro _ h_14 ⟨F_11, r_8, rfl, hk, hS, _, hM⟩
     replace hK := hK.trans hk
     replace hN_h_want := hN_h_want.kp hk
     replace hL_f_Sources := hL_f_Sources.kp hk
     replace hL_1 := hL_1.kp hk
     replace hL_7 := hL_7.kp hk
     refine HO.val (v := .bool (!r_8)) (want_by rfl rfl c_8) rfl (q_not rfl) ?_
     refine oV (.bool (!r_8)) (q_pickK true rfl c_8 rfl) rfl ?_
     refine oM (.bool (!r_8)) rfl rfl ?_
     rcases Bool.eq_false_or_eq_true (!r_8) with c_9 | c_9
     ·
      replace hM := hM.1 c_9
      refine HO.val (v := .pointer (some ⟨bh, 0, none⟩)) (want_by rfl rfl c_9) rfl (q_move rfl) ?_
      refine HO.val (v := .pointer (some ⟨bh, 0, none⟩)) (want_by rfl rfl c_9) rfl (q_nilCheck rfl) ?_
      refine HO.val (v := .pointer (some ⟨bh, 2, none⟩)) (want_by rfl rfl c_9) rfl (q_fieldAddr fa_52_2 rfl rfl) ?_
      refine HO.val (v := .map (some rh_want)) (want_by rfl rfl c_9) rfl (q_load to_50 rfl (Blk.cell (hS.box 1 rfl) rfl)) ?_
      refine HO.val (v := .int .i64 (a0m_2.length : Int)) (want_by rfl rfl c_9) rfl (q_lenMap Try.underlying50 (hS.mp 2 rfl) rfl rfl) ?_
      refine HO.val (v := .bool (decide (64 ≤ (a0m_2.length : Int)))) (want_by rfl rfl c_9) rfl (q_geq rfl rfl) ?_
      refine oV (.bool (decide (64 ≤ (a0m_2.length : Int)))) (q_pickK true rfl c_9 rfl) rfl ?_
      refine HO.nil (thenQ_normal (?_))
      refine HW.cond (decide (64 ≤ (a0m_2.length : Int))) rfl (fun c_10 => ?_) (fun c_10 => ?_)
      ·
       replace hM := hM.1 (of_decide_eq_true c_10)
       refine HW.seq ?_
       refine HW.region ?_
       refine oA (.slice none 0 0) rfl rfl ?_
       refine oA (.int .i64 7) rfl rfl ?_
       refine HO.nil (thenQ_normal (?_))
       refine HW.ret (thenQ_ret (?_))
       refine ⟨.inr rfl, .tuple #[.slice none 0 0, .int .i64 7], res2 rfl (rt rfl) (rt rfl), ?_⟩
       replace hS := hS.nilOwn 39 26 e_api_Talk
       have hN_5 : NfL nf_api_Talk F_11 h_14 ([] : List T_api_Talk) := NfL.nil _ _ _
       replace hS : St F_11 (Ow.own 39 26 e_api_Talk (.slice none 0 0) ([] : List T_api_Talk) :: Ow.box bh 52 #[.bool a0_v6_2, .int .i64 a0_now_2, .map (some rh_want), .int .i64 a0_one_2, .int .i64 a0_two_2] :: Ow.map rh_want (fun (x : T_api_Addr) => .agg (e_api_Addr x).toArray) (fun (x : T_api_Filter) => .agg #[.bool x.1, x.2.1]) a0m_2 :: fr) h_14 := hS.perm2 [0, 2, 3] 6 rfl rfl
       exact ⟨F_11, [], 7, a0_v6_2, a0_now_2, a0m_2, a0_one_2, a0_two_2, .slice none 0 0, rfl, hK, hS, hN_h_want, hL_f_Sources, hN_5, hL_1, hM⟩
      ·
       replace hM := hM.2 (of_decide_eq_false c_10)
       refine HW.skip (thenQ_normal (?_))
       replace hS : St F_11 (Ow.box bh 52 #[.bool a0_v6_2, .int .i64 a0_now_2, .map (some rh_want), .int .i64 a0_one_2, .int .i64 a0_two_2] :: Ow.map rh_want (fun (x : T_api_Addr) => .agg (e_api_Addr x).toArray) (fun (x : T_api_Filter) => .agg #[.bool x.1, x.2.1]) a0m_2 :: Ow.box b_1 30 (e_api_Addr g).toArray :: Ow.box b_2 34 #[.bool f_Exclude, vf_Sources] :: Ow.box b_5 34 #[.bool ((mgetD z_api_Filter a0m_2 g).1), ((mgetD z_api_Filter a0m_2 g).2).1] :: fr) h_14 := hS.perm2 [1, 2, 3, 4, 0] 5 rfl rfl
       exact ⟨F_11, rfl, rfl, rfl, rfl, rfl, rfl, hK, hS, hN_h_want, hL_f_Sources, hL_1, hL_7, hM⟩
     ·
      replace hM := hM.2 c_9
      refine HO.past (past_by rfl rfl c_9) rfl ?_
      refine HO.past (past_by rfl rfl c_9) rfl ?_
      refine HO.past (past_by rfl rfl c_9) rfl ?_
      refine HO.past (past_by rfl rfl c_9) rfl ?_
      refine HO.past (past_by rfl rfl c_9) rfl ?_
      refine HO.past (past_by rfl rfl c_9) rfl ?_
      refine oV (.bool false) (q_pickK false rfl c_9 rfl) rfl ?_
      refine HO.nil (thenQ_normal (?_))
      refine HW.condF rfl ?_
      refine HW.skip (thenQ_normal (?_))
      replace hS : St F_11 (Ow.box bh 52 #[.bool a0_v6_2, .int .i64 a0_now_2, .map (some rh_want), .int .i64 a0_one_2, .int .i64 a0_two_2] :: Ow.map rh_want (fun (x : T_api_Addr) => .agg (e_api_Addr x).toArray) (fun (x : T_api_Filter) => .agg #[.bool x.1, x.2.1]) a0m_2 :: Ow.box b_1 30 (e_api_Addr g).toArray :: Ow.box b_2 34 #[.bool f_Exclude, vf_Sources] :: Ow.box b_5 34 #[.bool ((mgetD z_api_Filter a0m_2 g).1), ((mgetD z_api_Filter a0m_2 g).2).1] :: fr) h_14 := hS.perm2 [1, 2, 3, 4, 0] 5 rfl rfl
      exact ⟨F_11, rfl, rfl, rfl, rfl, rfl, rfl, hK, hS, hN_h_want, hL_f_Sources, hL_1, hL_7, hM⟩
    ·
     replace hM := hM.2 c_8
     refine HO.past (past_by rfl rfl c_8) rfl ?_
     refine HO.past (past_by rfl rfl c_8) rfl ?_
     refine HO.past (past_by rfl rfl c_8) rfl ?_
     refine oV (.bool false) (q_pickK false rfl c_8 rfl) rfl ?_
     refine oM (.bool false) rfl rfl ?_
     refine HO.past (past_some rfl rfl) rfl ?_
     refine HO.past (past_some rfl rfl) rfl ?_
     refine HO.past (past_some rfl rfl) rfl ?_
     refine HO.past (past_some rfl rfl) rfl ?_
     refine HO.past (past_some rfl rfl) rfl ?_
     refine HO.past (past_some rfl rfl) rfl ?_
     refine oV (.bool false) (q_pick rfl rfl) rfl ?_
     refine HO.nil (thenQ_normal (?_))
     refine HW.condF rfl ?_
     refine HW.skip (thenQ_normal (?_))
     replace hS : St F_10 (Ow.box bh 52 #[.bool a0_v6_2, .int .i64 a0_now_2, .map (some rh_want), .int .i64 a0_one_2, .int .i64 a0_two_2] :: Ow.map rh_want (fun (x : T_api_Addr) => .agg (e_api_Addr x).toArray) (fun (x : T_api_Filter) => .agg #[.bool x.1, x.2.1]) a0m_2 :: Ow.box b_1 30 (e_api_Addr g).toArray :: Ow.box b_2 34 #[.bool f_Exclude, vf_Sources] :: Ow.box b_5 34 #[.bool ((mgetD z_api_Filter a0m_2 g).1), ((mgetD z_api_Filter a0m_2 g).2).1] :: fr) h_13 := hS.perm2 [1, 2, 3, 4, 0] 5 rfl rfl
     exact ⟨F_10, rfl, rfl, rfl, rfl, rfl, rfl, hK, hS, hN_h_want, hL_f_Sources, hL_1, hL_7, hM⟩
   ·
    rintro f_2 h_15 ⟨F_12, e0, e6, e7, e8, e9, e10, hK, hS, hN_h_want, hL_f_Sources, hL_1, hL_7, hM⟩
    unfold host_Host_Set_j2 at hM
    refine HW.fr [(0, .pointer (some ⟨bh, 0, none⟩)), (6, .pointer (some ⟨b_1, 0, none⟩)), (7, .pointer (some ⟨b_2, 0, none⟩)), (8, .slice none 0 0), (9, .int .i64 0), (10, .pointer (some ⟨b_5, 0, none⟩))] ⟨e0, e6, e7, e8, e9, e10, trivial⟩ ?_
    refine HW.seq_mid (fun f h => ∃ (F' : Fz) (a0_2_2 : List (T_api_Addr × T_api_Filter)), f 0 = .pointer (some ⟨bh, 0, none⟩) ∧ f 6 = .pointer (some ⟨b_1, 0, none⟩) ∧ f 7 = .pointer (some ⟨b_2, 0, none⟩) ∧ f 8 = .slice none 0 0 ∧ f 9 = .int .i64 0 ∧ f 10 = .pointer (some ⟨b_5, 0, none⟩) ∧ Kp F h0 F' h ∧ St F' (Ow.box bh 52 #[.bool a0_v6_2, .int .i64 a0_now_2, .map (some rh_want), .int .i64 a0_one_2, .int .i64 a0_two_2] :: Ow.map rh_want (fun (x : T_api_Addr) => .agg (e_api_Addr x).toArray) (fun (x : T_api_Filter) => .agg #[.bool x.1, x.2.1]) a0_2_2 :: Ow.box b_1 30 (e_api_Addr g).toArray :: Ow.box b_2 34 #[.bool f_Exclude, vf_Sources] :: Ow.box b_5 34 #[.bool ((mgetD z_api_Filter a0m_2 g).1), ((mgetD z_api_Filter a0m_2 g).2).1] :: fr) h ∧ (NfL nf_api_Filter F' h (h_want.map (·.2))) ∧ (SliceF F' h 17 e_api_Addr vf_Sources f_Sources) ∧ (NfL nf_api_Filter F' h (a0m_2.map (·.2))) ∧ (SliceF F' h 17 e_api_Addr (((mgetD z_api_Filter a0m_2 g).2).1) (((mgetD z_api_Filter a0m_2 g).2).2)) ∧ (NfL nf_api_Filter F' h (a0_2_2.map (·.2))) ∧ host_Host_Set_j3 g f_Exclude f_Sources Q a0_v6_2 a0_now_2 a0m_2 a0_one_2 a0_two_2 a0_2_2) ?_ ?_
    ·
     refine HW.seq ?_
     refine HW.region ?_
     refine oV (.agg #[.bool f_Exclude, vf_Sources]) (q_loadAgg (cs := [.bool f_Exclude, vf_Sources]) ta_34 rfl rfl (Blk.cells (k := 2) (hS.box 3 rfl) rfl)) rfl ?_
     refine HO.call (want_none) rfl (ec en_22 rfl rfl) (merge_None_walk (fr := (Ow.box bh 52 #[.bool a0_v6_2, .int .i64 a0_now_2, .map (some rh_want), .int .i64 a0_one_2, .int .i64 a0_two_2] :: Ow.map rh_want (fun (x : T_api_Addr) => .agg (e_api_Addr x).toArray) (fun (x : T_api_Filter) => .agg #[.bool x.1, x.2.1]) a0m_2 :: Ow.box b_1 30 (e_api_Addr g).toArray :: Ow.box b_2 34 #[.bool f_Exclude, vf_Sources] :: Ow.box b_5 34 #[.bool ((mgetD z_api_Filter a0m_2 g).1), ((mgetD z_api_Filter a0m_2 g).2).1] :: fr)) f_Exclude f_Sources vf_Sources hS hL_f_Sources hM) ?_
     rintro _ h_16 ⟨F_13, r_9, rfl, hk, hS, _, hM⟩
     replace hK := hK.trans hk
     replace hN_h_want := hN_h_want.kp hk
     replace hL_f_Sources := hL_f_Sources.kp hk
     replace hL_1 := hL_1.kp hk
     replace hL_7 := hL_7.kp hk
     refine HO.nil (thenQ_normal (?_))
     refine HW.cond r_9 rfl (fun c_11 => ?_) (fun c_11 => ?_)
     ·
      replace hM := hM.1 c_11
      refine HW.regionA 6 mixed (fun h => (Blk h bh (.cells #[.bool a0_v6_2, .int .i64 a0_now_2, .map (some rh_want), .int .i64 a0_one_2, .int .i64 a0_two_2] 52 (0, 0))) ∧ (Blk h b_1 (.cells (e_api_Addr g).toArray 30 (0, 0)))) [] (by kernel_rfl) ?_
      refine HA.val (k := 0) (v := .pointer (some ⟨bh, 0, none⟩)) rfl rfl (by kernel_rfl) (by kernel_rfl) (want_none) rfl (fun _ ⟨c292, c294⟩ => q_move rfl) ?_
      refine HA.val (k := 1) (v := .pointer (some ⟨bh, 0, none⟩)) rfl rfl (by kernel_rfl) (by kernel_rfl) (want_none) rfl (fun _ ⟨c292, c294⟩ => q_nilCheck rfl) ?_
      refine HA.val (k := 2) (v := .pointer (some ⟨bh, 2, none⟩)) rfl rfl (by kernel_rfl) (by kernel_rfl) (want_none) rfl (fun _ ⟨c292, c294⟩ => q_fieldAddr fa_52_2 rfl rfl) ?_
      refine HA.val (k := 3) (v := .map (some rh_want)) rfl rfl (by kernel_rfl) (by kernel_rfl) (want_none) rfl (fun _ ⟨c292, c294⟩ => q_load to_50 rfl (Blk.cell c292 rfl)) ?_
      refine HA.val (k := 4) (v := .agg (e_api_Addr g).toArray) rfl rfl (by kernel_rfl) (by kernel_rfl) (want_none) rfl (fun _ ⟨c292, c294⟩ => q_loadAgg (cs := (e_api_Addr g)) ta_30 rfl rfl (Blk.cells (k := 17) c294 rfl)) ?_
      refine HA.one (k := 5) ⟨⟨(hS.box 0 rfl), (hS.box 2 rfl)⟩, (Go.Wk.at_nil _ _)⟩ (by kernel_rfl) ?_
      refine HS.eff rfl (want_none) rfl (st_deleteK (k := g) hS (i := 1) rfl ka_30 tmk_50 rfl rfl rfl) ?_
      rintro _ h_17 ⟨rfl, hS, hk⟩
      have hN_7 : NfL nf_api_Filter F_13 h_16 ((mdel a0m_2 g).map (·.2)) := NfL.mdel hL_1 g
      replace hK := hK.trans hk
      replace hN_h_want := hN_h_want.kp hk
      replace hL_f_Sources := hL_f_Sources.kp hk
      replace hL_1 := hL_1.kp hk
      replace hL_7 := hL_7.kp hk
      replace hN_7 := hN_7.kp hk
      refine HA.nil ⟨⟨(hS.box 0 rfl), (hS.box 2 rfl)⟩, (Go.Wk.at_nil _ _)⟩ (by kernel_rfl) (thenQ_normal (?_))
      exact ⟨F_13, mdel a0m_2 g, rfl, rfl, rfl, rfl, rfl, rfl, hK, hS, hN_h_want, hL_f_Sources, hL_1, hL_7, hN_7, hM⟩
     ·
      replace hM := hM.2 c_11
      refine HW.regionA 8 mixed (fun h => (Blk h bh (.cells #[.bool a0_v6_2, .int .i64 a0_now_2, .map (some rh_want), .int .i64 a0_one_2, .int .i64 a0_two_2] 52 (0, 0))) ∧ (Blk h b_1 (.cells (e_api_Addr g).toArray 30 (0, 0))) ∧ (Blk h b_2 (.cells #[.bool f_Exclude, vf_Sources] 34 (0, 0)))) [] (by kernel_rfl) ?_
      refine HA.val (k := 0) (v := .pointer (some ⟨bh, 0, none⟩)) rfl rfl (by kernel_rfl) (by kernel_rfl) (want_none) rfl (fun _ ⟨c292, c294, c295⟩ => q_move rfl) ?_
      refine HA.val (k := 1) (v := .pointer (some ⟨bh, 0, none⟩)) rfl rfl (by kernel_rfl) (by kernel_rfl) (want_none) rfl (fun _ ⟨c292, c294, c295⟩ => q_nilCheck rfl) ?_
      refine HA.val (k := 2) (v := .pointer (some ⟨bh, 2, none⟩)) rfl rfl (by kernel_rfl) (by kernel_rfl) (want_none) rfl (fun _ ⟨c292, c294, c295⟩ => q_fieldAddr fa_52_2 rfl rfl) ?_
      refine HA.val (k := 3) (v := .map (some rh_want)) rfl rfl (by kernel_rfl) (by kernel_rfl) (want_none) rfl (fun _ ⟨c292, c294, c295⟩ => q_load to_50 rfl (Blk.cell c292 rfl)) ?_
      refine HA.val (k := 4) (v := .agg (e_api_Addr g).toArray) rfl rfl (by kernel_rfl) (by kernel_rfl) (want_none) rfl (fun _ ⟨c292, c294, c295⟩ => q_loadAgg (cs := (e_api_Addr g)) ta_30 rfl rfl (Blk.cells (k := 17) c294 rfl)) ?_
      refine HA.val (k := 5) (v := .agg #[.bool f_Exclude, vf_Sources]) rfl rfl (by kernel_rfl) (by kernel_rfl) (want_none) rfl (fun _ ⟨c292, c294, c295⟩ => q_loadAgg (cs := [.bool f_Exclude, vf_Sources]) ta_34 rfl rfl (Blk.cells (k := 2) c295 rfl)) ?_
      refine HA.one (k := 6) ⟨⟨(hS.box 0 rfl), (hS.box 2 rfl), (hS.box 3 rfl)⟩, (Go.Wk.at_nil _ _)⟩ (by kernel_rfl) ?_
      refine HS.call rfl (want_none) rfl (ec en_23 rfl rfl) (host_own_walk (fr := (Ow.box bh 52 #[.bool a0_v6_2, .int .i64 a0_now_2, .map (some rh_want), .int .i64 a0_one_2, .int .i64 a0_two_2] :: Ow.map rh_want (fun (x : T_api_Addr) => .agg (e_api_Addr x).toArray) (fun (x : T_api_Filter) => .agg #[.bool x.1, x.2.1]) a0m_2 :: Ow.box b_1 30 (e_api_Addr g).toArray :: Ow.box b_2 34 #[.bool f_Exclude, vf_Sources] :: Ow.box b_5 34 #[.bool ((mgetD z_api_Filter a0m_2 g).1), ((mgetD z_api_Filter a0m_2 g).2).1] :: fr)) f_Exclude f_Sources vf_Sources hS hL_f_Sources hM) ?_
      rintro _ h_18 ⟨F_14, r_0_1, r_1_1, vr_1_1, rfl, hk, hS, _, hM⟩
      replace hK := hK.trans hk
      replace hN_h_want := hN_h_want.kp hk
      replace hL_f_Sources := hL_f_Sources.kp hk
      replace hL_1 := hL_1.kp hk
      replace hL_7 := hL_7.kp hk
      refine HA.one (k := 7) ⟨⟨(hS.box 1 rfl), (hS.box 3 rfl), (hS.box 4 rfl)⟩, (Go.Wk.at_nil _ _)⟩ (by kernel_rfl) ?_
      obtain ⟨F_15, hS, hk, hL_8⟩ := hS.freezeOwn
      replace hK := hK.trans hk
      replace hN_h_want := hN_h_want.kp hk
      replace hL_f_Sources := hL_f_Sources.kp hk
      replace hL_1 := hL_1.kp hk
      replace hL_7 := hL_7.kp hk
      replace hM := hM vr_1_1
      refine HS.sto rfl (want_none) rfl (st_mapUpdateK (k := g) (v := (r_0_1, (vr_1_1, r_1_1))) hS (i := 1) rfl ka_30 tmk_50 rfl rfl rfl) ?_
      rintro h_19 ⟨hS, hk⟩
      have hN_8 : NfL nf_api_Filter F_15 h_18 ((mset a0m_2 g (r_0_1, (vr_1_1, r_1_1))).map (·.2)) := NfL.mset hL_1 g (nfm_api_Filter (r_0_1, (vr_1_1, r_1_1)) hL_8)
      replace hK := hK.trans hk
      replace hN_h_want := hN_h_want.kp hk
      replace hL_f_Sources := hL_f_Sources.kp hk
      replace hL_1 := hL_1.kp hk
      replace hL_7 := hL_7.kp hk
      replace hN_8 := hN_8.kp hk
      refine HA.nil ⟨⟨(hS.box 0 rfl), (hS.box 2 rfl), (hS.box 3 rfl)⟩, (Go.Wk.at_nil _ _)⟩ (by kernel_rfl) (thenQ_normal (?_))
      exact ⟨F_15, mset a0m_2 g (r_0_1, (vr_1_1, r_1_1)), rfl, rfl, rfl, rfl, rfl, rfl, hK, hS, hN_h_want, hL_f_Sources, hL_1, hL_7, hN_8, hM⟩
    ·
     rintro f_3 h_20 ⟨F_16, a0_2_2, e0, e6, e7, e8, e9, e10, hK, hS, hN_h_want, hL_f_Sources, hL_1, hL_7, hN_6, hM⟩
     unfold host_Host_Set_j3 at hM
     refine HW.fr [(0, .pointer (some ⟨bh, 0, none⟩)), (6, .pointer (some ⟨b_1, 0, none⟩)), (7, .pointer (some ⟨b_2, 0, none⟩)), (8, .slice none 0 0), (9, .int .i64 0), (10, .pointer (some ⟨b_5, 0, none⟩))] ⟨e0, e6, e7, e8, e9, e10, trivial⟩ ?_
     refine HW.seq ?_
     refine HW.region ?_
     refine oM (.pointer (some ⟨bh, 0, none⟩)) rfl rfl ?_
     refine oV (.agg (e_api_Addr g).toArray) (q_loadAgg (cs := (e_api_Addr g)) ta_30 rfl rfl (Blk.cells (k := 17) (hS.box 2 rfl) rfl)) rfl ?_
     refine oV (.agg #[.bool ((mgetD z_api_Filter a0m_2 g).1), ((mgetD z_api_Filter a0m_2 g).2).1]) (q_loadAgg (cs := [.bool ((mgetD z_api_Filter a0m_2 g).1), ((mgetD z_api_Filter a0m_2 g).2).1]) ta_34 rfl rfl (Blk.cells (k := 2) (hS.box 4 rfl) rfl)) rfl ?_
     refine oV (.agg #[.bool f_Exclude, vf_Sources]) (q_loadAgg (cs := [.bool f_Exclude, vf_Sources]) ta_34 rfl rfl (Blk.cells (k := 2) (hS.box 3 rfl) rfl)) rfl ?_
     refine HO.call (want_none) rfl (ec en_24 rfl rfl) (host_Host_said_walk (fr := (Ow.box b_1 30 (e_api_Addr g).toArray :: Ow.box b_2 34 #[.bool f_Exclude, vf_Sources] :: Ow.box b_5 34 #[.bool ((mgetD z_api_Filter a0m_2 g).1), ((mgetD z_api_Filter a0m_2 g).2).1] :: fr)) a0_v6_2 a0_now_2 a0_2_2 a0_one_2 a0_two_2 g ((mgetD z_api_Filter a0m_2 g).1) (((mgetD z_api_Filter a0m_2 g).2).2) f_Exclude f_Sources bh rh_want (((mgetD z_api_Filter a0m_2 g).2).1) vf_Sources hS hN_6 hL_7 hL_f_Sources hM) ?_
     rintro vr_1 h_21 ⟨F_17, r_10, a0_v6_3, a0_now_3, a0m_3, a0_one_3, a0_two_3, _, rfl, hk, hS, _, _, _, hL_9, hL_10, hM⟩
     replace hK := hK.trans hk
     replace hN_h_want := hN_h_want.kp hk
     replace hL_f_Sources := hL_f_Sources.kp hk
     refine oA (vr_1) rfl rfl ?_
     refine oA (.int .i64 0) rfl rfl ?_
     refine HO.nil (thenQ_normal (?_))
     refine HW.ret (?_)
     refine ⟨.inr rfl, .tuple #[vr_1, .int .i64 0], res2 rfl (rt rfl) (rt rfl), ?_⟩
     replace hS : St F_17 (Ow.own 39 26 e_api_Talk vr_1 r_10 :: Ow.box bh 52 #[.bool a0_v6_3, .int .i64 a0_now_3, .map (some rh_want), .int .i64 a0_one_3, .int .i64 a0_two_3] :: Ow.map rh_want (fun (x : T_api_Addr) => .agg (e_api_Addr x).toArray) (fun (x : T_api_Filter) => .agg #[.bool x.1, x.2.1]) a0m_3 :: fr) h_21 := hS.perm2 [0, 1, 2] 6 rfl rfl
     exact ⟨F_17, r_10, 0, a0_v6_3, a0_now_3, a0m_3, a0_one_3, a0_two_3, vr_1, rfl, hK, hS, hN_h_want, hL_f_Sources, hL_9, hL_10, hM⟩
def law18_Usual_W (Q : T_api_Tune → Prop) : Prop :=
 Q (2, 12, 2, 2, 2)
theorem law18_Usual_walk {F : Fz} {fr : List Ow} {h0 : Heap}  (hS : St F (fr) h0)  {Q : T_api_Tune → Prop} (hM : law18_Usual_W Q) :
  HC Try.prog 10 #[] h0 fun u h' => ∃ (F' : Fz) (r_1 : T_api_Tune), u = .agg (e_api_Tune r_1).toArray ∧ Kp F h0 F' h' ∧ St F' (fr) h' ∧ Q r_1 := by
 unfold law18_Usual_W at hM
 have hK := Kp.refl F h0
 refine HC.of_HW (n := 2) Try.func10 rfl rfl (Nat.le_of_ble_eq_true rfl) ?_
 refine HW.seq ?_
 refine HW.region ?_
 refine HO.eff (want_none) rfl (st_alloc (c := (e_api_Tune (0, 0, 0, 0, 0)).toArray) hS tz_42 rfl) ?_
 rintro _ h_1 ⟨b_1, rfl, hS, hk⟩
 replace hK := hK.trans hk
 refine HO.nil (thenQ_normal (?_))
 refine HW.seq ?_
 refine HW.region ?_
 refine oV (.agg (e_api_Tune (2, 12, 2, 2, 2)).toArray) (q_build tp_42 rfl) rfl ?_
 refine HO.sto (want_none) rfl (st_storeAgg (c' := (e_api_Tune (2, 12, 2, 2, 2)).toArray) hS (i := 0) rfl ta_42 rfl rfl rfl (one_e_api_Tune _) (Nat.le_of_ble_eq_true rfl) rfl) ?_
 rintro h_2 ⟨hS, hk⟩
 replace hK := hK.trans hk
 refine HO.nil (thenQ_normal (?_))
 refine HW.ret (?_)
 refine ⟨.inr rfl, .agg (e_api_Tune (2, 12, 2, 2, 2)).toArray, res1 rfl (rca (cs := (e_api_Tune (2, 12, 2, 2, 2))) ta_42 rfl rfl (Blk.cells (k := 5) (hS.box 0 rfl) rfl)), ?_⟩
 replace hS : St F (fr) h_2 := hS.perm2 [] 1 rfl rfl
 exact ⟨F, (2, 12, 2, 2, 2), rfl, hK, hS, hM⟩
def tune_member_W (t : T_api_Tune) (Q : Int → Prop) : Prop :=
 (I64 (t.1 * t.2.1)) ∧ ((I64 ((t.1 * t.2.1) + t.2.2.1)) ∧ (Q ((t.1 * t.2.1) + t.2.2.1)))
theorem tune_member_walk {F : Fz} {fr : List Ow} {h0 : Heap} (t : T_api_Tune) (hS : St F (fr) h0)  {Q : Int → Prop} (hM : tune_member_W t Q) :
  HC Try.prog 44 #[.agg (e_api_Tune t).toArray] h0 fun u h' => ∃ (F' : Fz) (r_1 : Int), u = .int .i64 r_1 ∧ Kp F h0 F' h' ∧ St F' (fr) h' ∧ Q r_1 := by
 unfold tune_member_W at hM
 have hK := Kp.refl F h0
 refine HC.of_HW (n := 11) Try.func44 rfl rfl (Nat.le_of_ble_eq_true rfl) ?_
 refine HW.seq ?_
 refine HW.region ?_
 refine HO.eff (want_none) rfl (st_box (c := (e_api_Tune t).toArray) (k' := 5) hS rfl rfl) ?_
 rintro _ h_1 ⟨b_1, rfl, hS, hk⟩
 replace hK := hK.trans hk
 refine oA (.int .i64 0) rfl rfl ?_
 refine HO.nil (thenQ_normal (?_))
 refine HW.seq ?_
 refine HW.region ?_
 refine oV (.pointer (some ⟨b_1, 0, none⟩)) (q_fieldAddr fa_42_0 rfl rfl) rfl ?_
 refine oV (.int .i64 t.1) (q_load to_3 rfl (Blk.cell (hS.box 0 rfl) rfl)) rfl ?_
 refine oV (.pointer (some ⟨b_1, 1, none⟩)) (q_fieldAddr fa_42_1 rfl rfl) rfl ?_
 refine oV (.int .i64 t.2.1) (q_load to_3 rfl (Blk.cell (hS.box 0 rfl) rfl)) rfl ?_
 obtain ⟨ho_1, hM⟩ := hM
 refine oV (.int .i64 (t.1 * t.2.1)) (q_mulN _ rfl rfl rfl ho_1.1 ho_1.2) rfl ?_
 refine oV (.pointer (some ⟨b_1, 2, none⟩)) (q_fieldAddr fa_42_2 rfl rfl) rfl ?_
 refine oV (.int .i64 t.2.2.1) (q_load to_3 rfl (Blk.cell (hS.box 0 rfl) rfl)) rfl ?_
 obtain ⟨ho_2, hM⟩ := hM
 refine oV (.int .i64 ((t.1 * t.2.1) + t.2.2.1)) (q_addN _ rfl rfl rfl ho_2.1 ho_2.2) rfl ?_
 refine oA (.int .i64 ((t.1 * t.2.1) + t.2.2.1)) rfl rfl ?_
 refine HO.nil (thenQ_normal (?_))
 refine HW.ret (?_)
 refine ⟨.inr rfl, .int .i64 ((t.1 * t.2.1) + t.2.2.1), res1 rfl (rt rfl), ?_⟩
 replace hS : St F (fr) h_1 := hS.perm2 [] 1 rfl rfl
 exact ⟨F, (t.1 * t.2.1) + t.2.2.1, rfl, hK, hS, hM⟩
def tune_Older_W (t : T_api_Tune) (Q : Int → Prop) : Prop :=
 tune_member_W t (fun r_2 => Q r_2)
theorem tune_Older_walk {F : Fz} {fr : List Ow} {h0 : Heap} (t : T_api_Tune) (hS : St F (fr) h0)  {Q : Int → Prop} (hM : tune_Older_W t Q) :
  HC Try.prog 25 #[.agg (e_api_Tune t).toArray] h0 fun u h' => ∃ (F' : Fz) (r_1 : Int), u = .int .i64 r_1 ∧ Kp F h0 F' h' ∧ St F' (fr) h' ∧ Q r_1 := by
 unfold tune_Older_W at hM
 have hK := Kp.refl F h0
 refine HC.of_HW (n := 5) Try.func25 rfl rfl (Nat.le_of_ble_eq_true rfl) ?_
 refine HW.seq ?_
 refine HW.region ?_
 refine HO.eff (want_none) rfl (st_box (c := (e_api_Tune t).toArray) (k' := 5) hS rfl rfl) ?_
 rintro _ h_1 ⟨b_1, rfl, hS, hk⟩
 replace hK := hK.trans hk
 refine oA (.int .i64 0) rfl rfl ?_
 refine HO.nil (thenQ_normal (?_))
 refine HW.seq ?_
 refine HW.region ?_
 refine oV (.agg (e_api_Tune t).toArray) (q_loadAgg (cs := (e_api_Tune t)) ta_42 rfl rfl (Blk.cells (k := 5) (hS.box 0 rfl) rfl)) rfl ?_
 refine HO.call (want_none) rfl (ec en_44 rfl rfl) (tune_member_walk (fr := (Ow.box b_1 42 (e_api_Tune t).toArray :: fr)) t hS hM) ?_
 rintro _ h_2 ⟨F_1, r_2, rfl, hk, hS, hM⟩
 replace hK := hK.trans hk
 refine oA (.int .i64 r_2) rfl rfl ?_
 refine HO.nil (thenQ_normal (?_))
 refine HW.ret (?_)
 refine ⟨.inr rfl, .int .i64 r_2, res1 rfl (rt rfl), ?_⟩
 replace hS : St F_1 (fr) h_2 := hS.perm2 [] 1 rfl rfl
 exact ⟨F_1, r_2, rfl, hK, hS, hM⟩
def slices_Collect_api_Addr_W (seq : List (T_api_Addr × T_api_Filter)) (Q : (List T_api_Addr) → Prop) : Prop :=
 ((seq).length * 17 ≤ 140737488355328) ∧ (∀ l_1 : List T_api_Addr, List.Perm l_1 (seq.map Prod.fst) → (Q l_1))
theorem slices_Collect_api_Addr_walk {F : Fz} {fr : List Ow} {h0 : Heap} (seq : List (T_api_Addr × T_api_Filter)) (bseq : Nat) (rseq : Nat) (hS : St F (fr) h0) (hN_seq : NfL nf_api_Filter F h0 (seq.map (·.2))) (hM_rseq : RoF (Ow.map rseq (fun (x : T_api_Addr) => .agg (e_api_Addr x).toArray) (fun (x : T_api_Filter) => .agg #[.bool x.1, x.2.1]) seq) F h0) (hB_bseq : RoF (Ow.box bseq 50 #[.map (some rseq)]) F h0) {Q : (List T_api_Addr) → Prop} (hM : slices_Collect_api_Addr_W seq Q) :
  HC Try.prog 57 #[.func (.func 59) #[] #[.pointer (some ⟨bseq, 0, none⟩)]] h0 fun u h' => ∃ (F' : Fz) (r_1 : List T_api_Addr) (vr_1 : Value), u = vr_1 ∧ Kp F h0 F' h' ∧ St F' (Ow.own 30 17 e_api_Addr vr_1 r_1 :: fr) h' ∧ (NfL nf_api_Filter F' h' (seq.map (·.2))) ∧ (RoF (Ow.map rseq (fun (x : T_api_Addr) => .agg (e_api_Addr x).toArray) (fun (x : T_api_Filter) => .agg #[.bool x.1, x.2.1]) seq) F' h') ∧ (RoF (Ow.box bseq 50 #[.map (some rseq)]) F' h') ∧ Q r_1 := by
 unfold slices_Collect_api_Addr_W at hM
 have hK := Kp.refl F h0
 refine HC.of_HW (n := 5) Try.func57 rfl rfl (Nat.le_of_ble_eq_true rfl) ?_
 refine HW.seq ?_
 refine HW.region ?_
 refine oA (.slice none 0 0) rfl rfl ?_
 refine HO.nil (thenQ_normal (?_))
 refine HW.seq ?_
 refine HW.region ?_
 refine oM (.func (.func 59) #[] #[.pointer (some ⟨bseq, 0, none⟩)]) rfl rfl ?_
 obtain ⟨ho_1, hM⟩ := hM
 refine HO.call (want_none) rfl (ec en_65 rfl rfl) (apk_65_59 hS hB_bseq.box hM_rseq.mp ho_1) ?_
 rintro v_1 h_1 ⟨l_1, hp_1, hS, hk⟩
 replace hM := hM l_1 hp_1
 replace hK := hK.trans hk
 replace hN_seq := hN_seq.kp hk
 replace hM_rseq := hM_rseq.kp hk
 replace hB_bseq := hB_bseq.kp hk
 refine oA (v_1) rfl rfl ?_
 refine HO.nil (thenQ_normal (?_))
 refine HW.ret (?_)
 refine ⟨.inr rfl, v_1, res1 rfl (rt rfl), ?_⟩
 exact ⟨F, l_1, v_1, rfl, hK, hS, hN_seq, hM_rseq, hB_bseq, hM⟩
def slices_SortedFunc_api_Addr_W (seq : List (T_api_Addr × T_api_Filter)) (cf_cmp : T_api_Addr → T_api_Addr → Int) (Q : (List T_api_Addr) → Prop) : Prop :=
 slices_Collect_api_Addr_W seq (fun r_2 => Swo cf_cmp ∧ (r_2).length < 4611686018427387904 ∧ ∀ l_1 : List T_api_Addr, List.Perm l_1 r_2 → List.Pairwise (fun x y => ¬ cf_cmp y x < 0) l_1 → (Q l_1))
theorem slices_SortedFunc_api_Addr_walk {F : Fz} {fr : List Ow} {h0 : Heap} (seq : List (T_api_Addr × T_api_Filter)) (cf_cmp : T_api_Addr → T_api_Addr → Int) (bseq : Nat) (rseq : Nat) (g_cmp : Nat) (cs_cmp : Array Value) (hS : St F (fr) h0) (hN_seq : NfL nf_api_Filter F h0 (seq.map (·.2))) (hM_rseq : RoF (Ow.map rseq (fun (x : T_api_Addr) => .agg (e_api_Addr x).toArray) (fun (x : T_api_Filter) => .agg #[.bool x.1, x.2.1]) seq) F h0) (hB_bseq : RoF (Ow.box bseq 50 #[.map (some rseq)]) F h0) (hF_cf_cmp : FnP Try.prog F h0 g_cmp #[] cs_cmp (fun x : T_api_Addr × T_api_Addr => [.agg (e_api_Addr x.1).toArray, .agg (e_api_Addr x.2).toArray]) (fun x => .int .i64 (cf_cmp x.1 x.2))) {Q : (List T_api_Addr) → Prop} (hM : slices_SortedFunc_api_Addr_W seq cf_cmp Q) :
  HC Try.prog 45 #[.func (.func 59) #[] #[.pointer (some ⟨bseq, 0, none⟩)], .func (.func g_cmp) #[] cs_cmp] h0 fun u h' => ∃ (F' : Fz) (r_1 : List T_api_Addr) (vr_1 : Value), u = vr_1 ∧ Kp F h0 F' h' ∧ St F' (Ow.own 30 17 e_api_Addr vr_1 r_1 :: fr) h' ∧ (NfL nf_api_Filter F' h' (seq.map (·.2))) ∧ (RoF (Ow.map rseq (fun (x : T_api_Addr) => .agg (e_api_Addr x).toArray) (fun (x : T_api_Filter) => .agg #[.bool x.1, x.2.1]) seq) F' h') ∧ (RoF (Ow.box bseq 50 #[.map (some rseq)]) F' h') ∧ (FnP Try.prog F' h' g_cmp #[] cs_cmp (fun x : T_api_Addr × T_api_Addr => [.agg (e_api_Addr x.1).toArray, .agg (e_api_Addr x.2).toArray]) (fun x => .int .i64 (cf_cmp x.1 x.2))) ∧ Q r_1 := by
 unfold slices_SortedFunc_api_Addr_W at hM
 have hK := Kp.refl F h0
 refine HC.of_HW (n := 12) Try.func45 rfl rfl (Nat.le_of_ble_eq_true rfl) ?_
 refine HW.seq ?_
 refine HW.region ?_
 refine oA (.slice none 0 0) rfl rfl ?_
 refine HO.nil (thenQ_normal (?_))
 refine HW.seq ?_
 refine HW.region ?_
 refine oM (.func (.func 59) #[] #[.pointer (some ⟨bseq, 0, none⟩)]) rfl rfl ?_
 refine HO.call (want_none) rfl (ec en_57 rfl rfl) (slices_Collect_api_Addr_walk (fr := (fr)) seq bseq rseq hS hN_seq hM_rseq hB_bseq hM) ?_
 rintro vr_2 h_1 ⟨F_1, r_2, _, rfl, hk, hS, _, _, _, hM⟩
 replace hK := hK.trans hk
 replace hN_seq := hN_seq.kp hk
 replace hM_rseq := hM_rseq.kp hk
 replace hB_bseq := hB_bseq.kp hk
 replace hF_cf_cmp := hF_cf_cmp.kp hk
 refine oA (vr_2) rfl rfl ?_
 refine HO.nil (thenQ_normal (?_))
 refine HW.seq ?_
 refine HW.region ?_
 refine oM (vr_2) rfl rfl ?_
 refine oM (.func (.func g_cmp) #[] cs_cmp) rfl rfl ?_
 obtain ⟨ho_1, ho_2, hM⟩ := hM
 refine HO.call (want_none) rfl (ec en_58 rfl rfl) (sortFunc_own Try.sortAddr (by decide) (fun w => by kernel_rfl) (fun w => by kernel_rfl) (enc := e_api_Addr) (fun _ => rfl) (by intro a u hu; simp [e_api_Addr, encI, encN, encB, encT] at hu; rcases hu with rfl | rfl | rfl | rfl | rfl | rfl | rfl | rfl | rfl | rfl | rfl | rfl | rfl | rfl | rfl | rfl | rfl <;> rfl) ho_1 hS hF_cf_cmp ho_2) ?_
 rintro _ h_2 ⟨l_1, rfl, hk, hS, hp_1, hs_1⟩
 replace hM := hM l_1 hp_1 hs_1
 replace hK := hK.trans hk
 replace hN_seq := hN_seq.kp hk
 replace hM_rseq := hM_rseq.kp hk
 replace hB_bseq := hB_bseq.kp hk
 replace hF_cf_cmp := hF_cf_cmp.kp hk
 refine HO.nil (thenQ_normal (?_))
 refine HW.seq ?_
 refine HW.region ?_
 refine oM (vr_2) rfl rfl ?_
 refine oA (vr_2) rfl rfl ?_
 refine HO.nil (thenQ_normal (?_))
 refine HW.ret (?_)
 refine ⟨.inr rfl, vr_2, res1 rfl (rt rfl), ?_⟩
 exact ⟨F_1, l_1, vr_2, rfl, hK, hS, hN_seq, hM_rseq, hB_bseq, hF_cf_cmp, hM⟩
def host_Host_groups_W (h_v6 : Bool) (h_now : Int) (h_want : List (T_api_Addr × T_api_Filter)) (h_one : Int) (h_two : Int) (Q : (List T_api_Addr) → Prop) : Prop :=
 ∃ cf_1 : T_api_Addr → T_api_Addr → Int, (∀ x0 x1, addr_Cmp_W x0 x1 (fun r => r = cf_1 x0 x1)) ∧ (slices_SortedFunc_api_Addr_W h_want cf_1 (fun r_2 => Q r_2))
theorem host_Host_groups_walk {F : Fz} {fr : List Ow} {h0 : Heap} (h_v6 : Bool) (h_now : Int) (h_want : List (T_api_Addr × T_api_Filter)) (h_one : Int) (h_two : Int) (bh : Nat) (rh_want : Nat) (hS : St F (fr) h0) (hN_h_want : NfL nf_api_Filter F h0 (h_want.map (·.2))) (hM_rh_want : RoF (Ow.map rh_want (fun (x : T_api_Addr) => .agg (e_api_Addr x).toArray) (fun (x : T_api_Filter) => .agg #[.bool x.1, x.2.1]) h_want) F h0) (hB_bh : RoF (Ow.box bh 52 #[.bool h_v6, .int .i64 h_now, .map (some rh_want), .int .i64 h_one, .int .i64 h_two]) F h0) {Q : (List T_api_Addr) → Prop} (hM : host_Host_groups_W h_v6 h_now h_want h_one h_two Q) :
  HC Try.prog 26 #[.pointer (some ⟨bh, 0, none⟩)] h0 fun u h' => ∃ (F' : Fz) (r_1 : List T_api_Addr) (vr_1 : Value), u = vr_1 ∧ Kp F h0 F' h' ∧ St F' (Ow.own 30 17 e_api_Addr vr_1 r_1 :: fr) h' ∧ (NfL nf_api_Filter F' h' (h_want.map (·.2))) ∧ (RoF (Ow.map rh_want (fun (x : T_api_Addr) => .agg (e_api_Addr x).toArray) (fun (x : T_api_Filter) => .agg #[.bool x.1, x.2.1]) h_want) F' h') ∧ (RoF (Ow.box bh 52 #[.bool h_v6, .int .i64 h_now, .map (some rh_want), .int .i64 h_one, .int .i64 h_two]) F' h') ∧ Q r_1 := by
 unfold host_Host_groups_W at hM
 have hK := Kp.refl F h0
 refine HC.of_HW (n := 9) Try.func26 rfl rfl (Nat.le_of_ble_eq_true rfl) ?_
 refine HW.seq ?_
 refine HW.region ?_
 refine oA (.slice none 0 0) rfl rfl ?_
 refine HO.nil (thenQ_normal (?_))
 refine HW.seq ?_
 refine HW.region ?_
 refine oM (.pointer (some ⟨bh, 0, none⟩)) rfl rfl ?_
 refine oV (.pointer (some ⟨bh, 0, none⟩)) (q_nilCheck rfl) rfl ?_
 refine oV (.pointer (some ⟨bh, 2, none⟩)) (q_fieldAddr fa_52_2 rfl rfl) rfl ?_
 refine oV (.map (some rh_want)) (q_load to_50 rfl (Blk.cell hB_bh.box rfl)) rfl ?_
 refine HO.call (want_none) rfl (ec en_46 rfl rfl) (keys_hc Try.func46 rfl rfl rfl rfl hS) ?_
 rintro _ h_1 ⟨b_1, rfl, hS, hk⟩
 replace hK := hK.trans hk
 replace hN_h_want := hN_h_want.kp hk
 replace hM_rh_want := hM_rh_want.kp hk
 replace hB_bh := hB_bh.kp hk
 obtain ⟨cf_1, hc_1, hM⟩ := hM
 have hF_1 : FnP Try.prog F h_1 40 #[] #[] (fun x : T_api_Addr × T_api_Addr => [.agg (e_api_Addr x.1).toArray, .agg (e_api_Addr x.2).toArray]) (fun x => .int .i64 (cf_1 x.1 x.2)) := FnP.of en_40 (fun x h' hk_ => @HC.mono ⟨true⟩ _ _ _ _ _ _ (@addr_Cmp_walk ⟨true⟩ (allF h') [] h' x.1 x.2  (St.init h')  (fun r => r = cf_1 x.1 x.2) (hc_1 x.1 x.2)) (fun u h'' ⟨F', r, hu, k_, _, hr⟩ => ⟨by rw [hu, hr], F', k_⟩))
 replace hS : St F (Ow.box b_1 50 #[.map (some rh_want)] :: fr) h_1 := hS
 have hZ_1 := hS
 have hkz_1 := (hS.freeze).2
 replace hS := hS.freeze.1
 have hL_1 := hZ_1.lent
 refine HO.call (want_none) rfl (ec en_45 rfl rfl) (slices_SortedFunc_api_Addr_walk (fr := (fr)) h_want cf_1 b_1 rh_want 40 (#[]) hS (NfL.kp hN_h_want hkz_1) (hM_rh_want.kp hkz_1) hL_1 (hF_1.kp hkz_1) hM) ?_
 rintro vr_2 h_2 ⟨F_1, r_2, _, rfl, hk, hS, _, _, _, _, hM⟩
 obtain ⟨hS, hk⟩ := hZ_1.back hk hS
 generalize (fun bz_ => F_1 bz_ ∧ ¬ (Ow.box b_1 50 #[.map (some rh_want)]).foot bz_) = F_2 at hS hk
 replace hK := hK.trans hk
 replace hN_h_want := hN_h_want.kp hk
 replace hM_rh_want := hM_rh_want.kp hk
 replace hB_bh := hB_bh.kp hk
 refine oA (vr_2) rfl rfl ?_
 refine HO.nil (thenQ_normal (?_))
 refine HW.ret (?_)
 refine ⟨.inr rfl, vr_2, res1 rfl (rt rfl), ?_⟩
 replace hS : St F_2 (Ow.own 30 17 e_api_Addr vr_2 r_2 :: fr) h_2 := hS.perm2 [1] 2 rfl rfl
 exact ⟨F_2, r_2, vr_2, rfl, hK, hS, hN_h_want, hM_rh_want, hB_bh, hM⟩
def addr_Zero_W (a : T_api_Addr) (Q : Bool → Prop) : Prop :=
 Q (decide ((a.2 : Ba 16) = mkB 16 [0, 0, 0, 0, 0, 0, 0, 0, 0, 0, 0, 0, 0, 0, 0, 0]))
theorem addr_Zero_walk {F : Fz} {fr : List Ow} {h0 : Heap} (a : T_api_Addr) (hS : St F (fr) h0)  {Q : Bool → Prop} (hM : addr_Zero_W a Q) :
  HC Try.prog 27 #[.agg (e_api_Addr a).toArray] h0 fun u h' => ∃ (F' : Fz) (r_1 : Bool), u = .bool r_1 ∧ Kp F h0 F' h' ∧ St F' (fr) h' ∧ Q r_1 := by
 unfold addr_Zero_W at hM
 have hK := Kp.refl F h0
 refine HC.of_HW (n := 7) Try.func27 rfl rfl (Nat.le_of_ble_eq_true rfl) ?_
 refine HW.seq ?_
 refine HW.region ?_
 refine HO.eff (want_none) rfl (st_box (c := (e_api_Addr a).toArray) (k' := 17) hS rfl rfl) ?_
 rintro _ h_1 ⟨b_1, rfl, hS, hk⟩
 replace hK := hK.trans hk
 refine oA (.bool false) rfl rfl ?_
 refine HO.nil (thenQ_normal (?_))
 refine HW.seq ?_
 refine HW.region ?_
 refine oV (.pointer (some ⟨b_1, 1, none⟩)) (q_fieldAddr fa_30_1 rfl rfl) rfl ?_
 refine oV (.agg (arrCells a.2).toArray) (q_loadAgg (cs := (arrCells a.2)) ta_28 rfl rfl (Blk.cells (k := 16) (hS.box 0 rfl) rfl)) rfl ?_
 refine oV (.agg (arrCells (mkB 16 [0, 0, 0, 0, 0, 0, 0, 0, 0, 0, 0, 0, 0, 0, 0, 0])).toArray) ((q_buildA (cells := #[.int .u8 0, .int .u8 0, .int .u8 0, .int .u8 0, .int .u8 0, .int .u8 0, .int .u8 0, .int .u8 0, .int .u8 0, .int .u8 0, .int .u8 0, .int .u8 0, .int .u8 0, .int .u8 0, .int .u8 0, .int .u8 0]) tb_28 rfl).of_eq (mkB_agg (n := 16) (l := [0, 0, 0, 0, 0, 0, 0, 0, 0, 0, 0, 0, 0, 0, 0, 0]) rfl ⟨⟨by decide, by decide⟩, ⟨⟨by decide, by decide⟩, ⟨⟨by decide, by decide⟩, ⟨⟨by decide, by decide⟩, ⟨⟨by decide, by decide⟩, ⟨⟨by decide, by decide⟩, ⟨⟨by decide, by decide⟩, ⟨⟨by decide, by decide⟩, ⟨⟨by decide, by decide⟩, ⟨⟨by decide, by decide⟩, ⟨⟨by decide, by decide⟩, ⟨⟨by decide, by decide⟩, ⟨⟨by decide, by decide⟩, ⟨⟨by decide, by decide⟩, ⟨⟨by decide, by decide⟩, ⟨⟨by decide, by decide⟩, trivial⟩⟩⟩⟩⟩⟩⟩⟩⟩⟩⟩⟩⟩⟩⟩⟩)) rfl ?_
 refine oV (.bool (decide ((a.2 : Ba 16) = mkB 16 [0, 0, 0, 0, 0, 0, 0, 0, 0, 0, 0, 0, 0, 0, 0, 0]))) (q_eqlAgg (a := a.2) (b := mkB 16 [0, 0, 0, 0, 0, 0, 0, 0, 0, 0, 0, 0, 0, 0, 0, 0]) (fun a b w => teq_28 9998 a b w) (by kernel_rfl) rfl rfl rfl rfl) rfl ?_
 refine oA (.bool (decide ((a.2 : Ba 16) = mkB 16 [0, 0, 0, 0, 0, 0, 0, 0, 0, 0, 0, 0, 0, 0, 0, 0]))) rfl rfl ?_
 refine HO.nil (thenQ_normal (?_))
 refine HW.ret (?_)
 refine ⟨.inr rfl, .bool (decide ((a.2 : Ba 16) = mkB 16 [0, 0, 0, 0, 0, 0, 0, 0, 0, 0, 0, 0, 0, 0, 0, 0])), res1 rfl (rt rfl), ?_⟩
 replace hS : St F (fr) h_1 := hS.perm2 [] 1 rfl rfl
 exact ⟨F, decide ((a.2 : Ba 16) = mkB 16 [0, 0, 0, 0, 0, 0, 0, 0, 0, 0, 0, 0, 0, 0, 0, 0]), rfl, hK, hS, hM⟩
def merge_Current_j1 (g : T_api_Addr) (f_Exclude : Bool) (Q : Int → Bool → (Ba 16) → (List T_api_Addr) → Bool → Prop) (out_18_1 : List T_api_Addr) : Prop :=
 (f_Exclude = true → Q 2 g.1 g.2 out_18_1 true) ∧ (f_Exclude = false → Q 1 g.1 g.2 out_18_1 true)
def merge_Current_W (g : T_api_Addr) (f_Exclude : Bool) (f_Sources : List T_api_Addr) (Q : Int → Bool → (Ba 16) → (List T_api_Addr) → Bool → Prop) : Prop :=
 merge_none_W f_Exclude f_Sources (fun r_1 => (r_1 = true → Q 0 false (default : Ba 16) [] false) ∧ (r_1 = false → slices_Clone_s_api_Addr_api_Addr_W f_Sources (fun r_2 => merge_Current_j1 g f_Exclude Q r_2)))
theorem merge_Current_walk {F : Fz} {fr : List Ow} {h0 : Heap} (g : T_api_Addr) (f_Exclude : Bool) (f_Sources : List T_api_Addr) (vf_Sources : Value) (hS : St F (fr) h0) (hL_f_Sources : SliceF F h0 17 e_api_Addr vf_Sources f_Sources) {Q : Int → Bool → (Ba 16) → (List T_api_Addr) → Bool → Prop} (hM : merge_Current_W g f_Exclude f_Sources Q) :
  HC Try.prog 49 #[.agg (e_api_Addr g).toArray, .agg #[.bool f_Exclude, vf_Sources]] h0 fun u h' => ∃ (F' : Fz) (r0_0_1 : Int) (r0_1_1 : Bool) (r0_2_1 : Ba 16) (r0_18_1 : List T_api_Addr) (r1_1 : Bool) (vr0_18_1 : Value), u = .tuple #[.agg (c_api_Record (.int .i64 r0_0_1) (r0_1_1, r0_2_1) vr0_18_1).toArray, .bool r1_1] ∧ Kp F h0 F' h' ∧ St F' (Ow.own 30 17 e_api_Addr vr0_18_1 r0_18_1 :: fr) h' ∧ (SliceF F' h' 17 e_api_Addr vf_Sources f_Sources) ∧ Q r0_0_1 r0_1_1 r0_2_1 r0_18_1 r1_1 := by
 unfold merge_Current_W at hM
 have hK := Kp.refl F h0
 refine HC.of_HW (n := 19) Try.func49 rfl rfl (Nat.le_of_ble_eq_true rfl) ?_
 refine HW.seq ?_
 refine HW.region ?_
 refine HO.eff (want_none) rfl (st_box (c := (e_api_Addr g).toArray) (k' := 17) hS rfl rfl) ?_
 rintro _ h_1 ⟨b_1, rfl, hS, hk⟩
 replace hK := hK.trans hk
 replace hL_f_Sources := hL_f_Sources.kp hk
 refine HO.eff (want_none) rfl (st_box (c := #[.bool f_Exclude, vf_Sources]) (k' := 2) hS rfl rfl) ?_
 rintro _ h_2 ⟨b_2, rfl, hS, hk⟩
 replace hK := hK.trans hk
 replace hL_f_Sources := hL_f_Sources.kp hk
 refine HO.eff (want_none) rfl (st_alloc (c := (c_api_Record (.int .i64 0) (false, (default : Ba 16)) (.slice none 0 0)).toArray) hS tz_60 rfl) ?_
 rintro _ h_3 ⟨b_3, rfl, hS, hk⟩
 replace hK := hK.trans hk
 replace hL_f_Sources := hL_f_Sources.kp hk
 refine oA (.bool false) rfl rfl ?_
 refine HO.nil (thenQ_normal (?_))
 refine HW.seq ?_
 refine HW.seq ?_
 refine HW.region ?_
 refine oV (.agg #[.bool f_Exclude, vf_Sources]) (q_loadAgg (cs := [.bool f_Exclude, vf_Sources]) ta_34 rfl rfl (Blk.cells (k := 2) (hS.box 1 rfl) rfl)) rfl ?_
 refine HO.call (want_none) rfl (ec en_41 rfl rfl) (merge_none_walk (fr := (Ow.box b_3 60 (c_api_Record (.int .i64 0) (false, (default : Ba 16)) (.slice none 0 0)).toArray :: Ow.box b_2 34 #[.bool f_Exclude, vf_Sources] :: Ow.box b_1 30 (e_api_Addr g).toArray :: fr)) f_Exclude f_Sources vf_Sources hS hL_f_Sources hM) ?_
 rintro _ h_4 ⟨F_1, r_1, rfl, hk, hS, _, hM⟩
 replace hK := hK.trans hk
 replace hL_f_Sources := hL_f_Sources.kp hk
 refine HO.nil (thenQ_normal (?_))
 refine HW.cond r_1 rfl (fun c_1 => ?_) (fun c_1 => ?_)
 ·
  replace hM := hM.1 c_1
  refine HW.seq ?_
  refine HW.region ?_
  refine oV (.agg (c_api_Record (.int .i64 0) (false, (default : Ba 16)) (.slice none 0 0)).toArray) (q_build tp_60 rfl) rfl ?_
  refine HO.sto (want_none) rfl (st_storeAgg (c' := (c_api_Record (.int .i64 0) (false, (default : Ba 16)) (.slice none 0 0)).toArray) hS (i := 0) rfl ta_60 rfl rfl rfl (List.forall_mem_cons.2 ⟨rfl, (List.forall_mem_cons.2 ⟨rfl, (List.forall_mem_cons.2 ⟨rfl, (List.forall_mem_cons.2 ⟨rfl, (List.forall_mem_cons.2 ⟨rfl, (List.forall_mem_cons.2 ⟨rfl, (List.forall_mem_cons.2 ⟨rfl, (List.forall_mem_cons.2 ⟨rfl, (List.forall_mem_cons.2 ⟨rfl, (List.forall_mem_cons.2 ⟨rfl, (List.forall_mem_cons.2 ⟨rfl, (List.forall_mem_cons.2 ⟨rfl, (List.forall_mem_cons.2 ⟨rfl, (List.forall_mem_cons.2 ⟨rfl, (List.forall_mem_cons.2 ⟨rfl, (List.forall_mem_cons.2 ⟨rfl, (List.forall_mem_cons.2 ⟨rfl, (List.forall_mem_cons.2 ⟨rfl, (List.forall_mem_cons.2 ⟨rfl, (fun _ h => by cases h)⟩)⟩)⟩)⟩)⟩)⟩)⟩)⟩)⟩)⟩)⟩)⟩)⟩)⟩)⟩)⟩)⟩)⟩)⟩) (Nat.le_of_ble_eq_true rfl) rfl) ?_
  rintro h_5 ⟨hS, hk⟩
  replace hK := hK.trans hk
  replace hL_f_Sources := hL_f_Sources.kp hk
  refine oA (.bool false) rfl rfl ?_
  refine HO.nil (thenQ_normal (?_))
  refine HW.ret (thenQ_ret (?_))
  refine ⟨.inr rfl, .tuple #[.agg (c_api_Record (.int .i64 0) (false, (default : Ba 16)) (.slice none 0 0)).toArray, .bool false], res2 rfl (rca (cs := (c_api_Record (.int .i64 0) (false, (default : Ba 16)) (.slice none 0 0))) ta_60 rfl rfl (Blk.cells (k := 19) (hS.box 0 rfl) rfl)) (rt rfl), ?_⟩
  replace hS := hS.nilOwn 30 17 e_api_Addr
  replace hS : St F_1 (Ow.own 30 17 e_api_Addr (.slice none 0 0) ([] : List T_api_Addr) :: fr) h_5 := hS.perm2 [0] 4 rfl rfl
  exact ⟨F_1, 0, false, (default : Ba 16), [], false, .slice none 0 0, rfl, hK, hS, hL_f_Sources, hM⟩
 ·
  replace hM := hM.2 c_1
  refine HW.skip (thenQ_normal (?_))
  refine HW.seq_mid (fun f h => ∃ (F' : Fz) (out_18_1 : List T_api_Addr) (b_4 : Nat) (vout_18_1 : Value), f 3 = .pointer (some ⟨b_2, 0, none⟩) ∧ f 4 = .pointer (some ⟨b_3, 0, none⟩) ∧ f 5 = .bool false ∧ f 6 = .pointer (some ⟨b_4, 0, none⟩) ∧ Kp F h0 F' h ∧ St F' (Ow.box b_2 34 #[.bool f_Exclude, vf_Sources] :: Ow.box b_3 60 (c_api_Record (.int .i64 0) (false, (default : Ba 16)) (.slice none 0 0)).toArray :: Ow.box b_4 60 (c_api_Record (.int .i64 1) g vout_18_1).toArray :: Ow.own 30 17 e_api_Addr vout_18_1 out_18_1 :: fr) h ∧ (SliceF F' h 17 e_api_Addr vf_Sources f_Sources) ∧ merge_Current_j1 g f_Exclude Q out_18_1) ?_ ?_
  ·
   refine HW.regionA 7 mixed (fun h => (Blk h b_2 (.cells #[.bool f_Exclude, vf_Sources] 34 (0, 0))) ∧ (Blk h b_1 (.cells (e_api_Addr g).toArray 30 (0, 0)))) [] (by kernel_rfl) ?_
   refine HA.val (k := 0) (v := .agg (e_api_Addr g).toArray) rfl rfl (by kernel_rfl) (by kernel_rfl) (want_none) rfl (fun _ ⟨c203, c202⟩ => q_loadAgg (cs := (e_api_Addr g)) ta_30 rfl rfl (Blk.cells (k := 17) c202 rfl)) ?_
   refine HA.val (k := 1) (v := .pointer (some ⟨b_2, 1, none⟩)) rfl rfl (by kernel_rfl) (by kernel_rfl) (want_none) rfl (fun _ ⟨c203, c202⟩ => q_fieldAddr fa_34_1 rfl rfl) ?_
   refine HA.val (k := 2) (v := vf_Sources) rfl rfl (by kernel_rfl) (by kernel_rfl) (want_none) rfl (fun _ ⟨c203, c202⟩ => q_load to_32 rfl (Blk.cell c203 rfl)) ?_
   refine HA.two (k := 3) (k' := 5) ⟨⟨(hS.box 1 rfl), (hS.box 2 rfl)⟩, (Go.Wk.at_nil _ _)⟩ (by kernel_rfl) ?_ ?_
   ·
    refine HS.call rfl (want_none) rfl (ec en_42 rfl rfl) (slices_Clone_s_api_Addr_api_Addr_walk (fr := (Ow.box b_3 60 (c_api_Record (.int .i64 0) (false, (default : Ba 16)) (.slice none 0 0)).toArray :: Ow.box b_2 34 #[.bool f_Exclude, vf_Sources] :: Ow.box b_1 30 (e_api_Addr g).toArray :: fr)) f_Sources vf_Sources hS hL_f_Sources hM) ?_
    rintro vr_1 h_6 ⟨F_2, r_2, _, rfl, hk, hS, _, hM⟩
    replace hK := hK.trans hk
    replace hL_f_Sources := hL_f_Sources.kp hk
    refine Go.Wk.HA.re (fun h => (OwnIs h 0 30 17 e_api_Addr vr_1 r_2) ∧ (Blk h b_2 (.cells #[.bool f_Exclude, vf_Sources] 34 (0, 0))) ∧ (Blk h b_1 (.cells (e_api_Addr g).toArray 30 (0, 0)))) [] (fun L_ h_ hL_ ⟨c227, c203, c202⟩ hs_ => ⟨⟨c203, c202⟩, (Go.Wk.at_nil _ _)⟩) ?_
    refine HA.val (k := 4) (v := .agg (c_api_Record (.int .i64 1) g vr_1).toArray) rfl rfl (by kernel_rfl) (by kernel_rfl) (want_none) rfl (fun _ ⟨c227, c203, c202⟩ => q_build tp_60 (fill_cons (cs' := (c_api_Record (.int .i64 1) (false, (default : Ba 16)) (.slice none 0 0)).toArray) (vc := #[.int .i64 1]) rfl rfl rfl (Nat.le_of_ble_eq_true rfl) rfl (fill_cons (cs' := (c_api_Record (.int .i64 1) g (.slice none 0 0)).toArray) (vc := (e_api_Addr g).toArray) rfl rfl rfl (Nat.le_of_ble_eq_true rfl) rfl (fill_cons (cs' := (c_api_Record (.int .i64 1) g vr_1).toArray) (vc := #[vr_1]) rfl (shp c227.slice).cells rfl (Nat.le_of_ble_eq_true rfl) rfl rfl)))) ?_
    refine HA.one (k := 5) ⟨⟨(hS.own 0 rfl), (hS.box 2 rfl), (hS.box 3 rfl)⟩, (Go.Wk.at_nil _ _)⟩ (by kernel_rfl) ?_
    refine HS.eff rfl (want_none) rfl (st_alloc (c := (c_api_Record (.int .i64 0) (false, (default : Ba 16)) (.slice none 0 0)).toArray) hS tz_60 rfl) ?_
    rintro _ h_7 ⟨b_5, rfl, hS, hk⟩
    replace hK := hK.trans hk
    replace hL_f_Sources := hL_f_Sources.kp hk
    refine HA.one (k := 6) ⟨⟨(hS.own 1 rfl), (hS.box 3 rfl), (hS.box 4 rfl)⟩, (Go.Wk.at_nil _ _)⟩ (by kernel_rfl) ?_
    refine HS.sto rfl (want_none) rfl (st_storeAgg (c' := (c_api_Record (.int .i64 1) g vr_1).toArray) hS (i := 0) rfl ta_60 rfl rfl rfl (List.forall_mem_cons.2 ⟨rfl, (List.forall_mem_cons.2 ⟨rfl, (List.forall_mem_cons.2 ⟨rfl, (List.forall_mem_cons.2 ⟨rfl, (List.forall_mem_cons.2 ⟨rfl, (List.forall_mem_cons.2 ⟨rfl, (List.forall_mem_cons.2 ⟨rfl, (List.forall_mem_cons.2 ⟨rfl, (List.forall_mem_cons.2 ⟨rfl, (List.forall_mem_cons.2 ⟨rfl, (List.forall_mem_cons.2 ⟨rfl, (List.forall_mem_cons.2 ⟨rfl, (List.forall_mem_cons.2 ⟨rfl, (List.forall_mem_cons.2 ⟨rfl, (List.forall_mem_cons.2 ⟨rfl, (List.forall_mem_cons.2 ⟨rfl, (List.forall_mem_cons.2 ⟨rfl, (List.forall_mem_cons.2 ⟨rfl, (List.forall_mem_cons.2 ⟨(shp (hS.own 1 rfl).slice).one, (fun _ h => by cases h)⟩)⟩)⟩)⟩)⟩)⟩)⟩)⟩)⟩)⟩)⟩)⟩)⟩)⟩)⟩)⟩)⟩)⟩)⟩) (Nat.le_of_ble_eq_true rfl) rfl) ?_
    rintro h_8 ⟨hS, hk⟩
    replace hK := hK.trans hk
    replace hL_f_Sources := hL_f_Sources.kp hk
    refine HA.nil ⟨⟨(hS.own 1 rfl), (hS.box 3 rfl), (hS.box 4 rfl)⟩, (Go.Wk.at_nil _ _)⟩ (by kernel_rfl) (thenQ_normal (?_))
    replace hS : St F_2 (Ow.box b_2 34 #[.bool f_Exclude, vf_Sources] :: Ow.box b_3 60 (c_api_Record (.int .i64 0) (false, (default : Ba 16)) (.slice none 0 0)).toArray :: Ow.box b_5 60 (c_api_Record (.int .i64 1) g vr_1).toArray :: Ow.own 30 17 e_api_Addr vr_1 r_2 :: fr) h_8 := hS.perm2 [3, 2, 0, 1] 5 rfl rfl
    exact ⟨F_2, r_2, b_5, vr_1, rfl, rfl, rfl, rfl, hK, hS, hL_f_Sources, hM⟩
   ·
    refine HS.eff rfl (want_none) rfl (st_alloc (c := (c_api_Record (.int .i64 0) (false, (default : Ba 16)) (.slice none 0 0)).toArray) hS tz_60 rfl) ?_
    rintro _ h_6 ⟨b_5, rfl, hS, hk⟩
    replace hK := hK.trans hk
    replace hL_f_Sources := hL_f_Sources.kp hk
    refine HA.one (k := 3) ⟨⟨(hS.box 2 rfl), (hS.box 3 rfl)⟩, (Go.Wk.at_nil _ _)⟩ (by kernel_rfl) ?_
    refine HS.call rfl (want_none) rfl (ec en_42 rfl rfl) (slices_Clone_s_api_Addr_api_Addr_walk (fr := (Ow.box b_5 60 (c_api_Record (.int .i64 0) (false, (default : Ba 16)) (.slice none 0 0)).toArray :: Ow.box b_3 60 (c_api_Record (.int .i64 0) (false, (default : Ba 16)) (.slice none 0 0)).toArray :: Ow.box b_2 34 #[.bool f_Exclude, vf_Sources] :: Ow.box b_1 30 (e_api_Addr g).toArray :: fr)) f_Sources vf_Sources hS hL_f_Sources hM) ?_
    rintro vr_1 h_7 ⟨F_2, r_2, _, rfl, hk, hS, _, hM⟩
    replace hK := hK.trans hk
    replace hL_f_Sources := hL_f_Sources.kp hk
    refine Go.Wk.HA.re (fun h => (OwnIs h 0 30 17 e_api_Addr vr_1 r_2) ∧ (Blk h b_2 (.cells #[.bool f_Exclude, vf_Sources] 34 (0, 0))) ∧ (Blk h b_1 (.cells (e_api_Addr g).toArray 30 (0, 0)))) [] (fun L_ h_ hL_ ⟨c227, c203, c202⟩ hs_ => ⟨⟨c203, c202⟩, (Go.Wk.at_nil _ _)⟩) ?_
    refine HA.val (k := 4) (v := .agg (c_api_Record (.int .i64 1) g vr_1).toArray) rfl rfl (by kernel_rfl) (by kernel_rfl) (want_none) rfl (fun _ ⟨c227, c203, c202⟩ => q_build tp_60 (fill_cons (cs' := (c_api_Record (.int .i64 1) (false, (default : Ba 16)) (.slice none 0 0)).toArray) (vc := #[.int .i64 1]) rfl rfl rfl (Nat.le_of_ble_eq_true rfl) rfl (fill_cons (cs' := (c_api_Record (.int .i64 1) g (.slice none 0 0)).toArray) (vc := (e_api_Addr g).toArray) rfl rfl rfl (Nat.le_of_ble_eq_true rfl) rfl (fill_cons (cs' := (c_api_Record (.int .i64 1) g vr_1).toArray) (vc := #[vr_1]) rfl (shp c227.slice).cells rfl (Nat.le_of_ble_eq_true rfl) rfl rfl)))) ?_
    refine HA.one (k := 6) ⟨⟨(hS.own 0 rfl), (hS.box 3 rfl), (hS.box 4 rfl)⟩, (Go.Wk.at_nil _ _)⟩ (by kernel_rfl) ?_
    refine HS.sto rfl (want_none) rfl (st_storeAgg (c' := (c_api_Record (.int .i64 1) g vr_1).toArray) hS (i := 1) rfl ta_60 rfl rfl rfl (List.forall_mem_cons.2 ⟨rfl, (List.forall_mem_cons.2 ⟨rfl, (List.forall_mem_cons.2 ⟨rfl, (List.forall_mem_cons.2 ⟨rfl, (List.forall_mem_cons.2 ⟨rfl, (List.forall_mem_cons.2 ⟨rfl, (List.forall_mem_cons.2 ⟨rfl, (List.forall_mem_cons.2 ⟨rfl, (List.forall_mem_cons.2 ⟨rfl, (List.forall_mem_cons.2 ⟨rfl, (List.forall_mem_cons.2 ⟨rfl, (List.forall_mem_cons.2 ⟨rfl, (List.forall_mem_cons.2 ⟨rfl, (List.forall_mem_cons.2 ⟨rfl, (List.forall_mem_cons.2 ⟨rfl, (List.forall_mem_cons.2 ⟨rfl, (List.forall_mem_cons.2 ⟨rfl, (List.forall_mem_cons.2 ⟨rfl, (List.forall_mem_cons.2 ⟨(shp (hS.own 0 rfl).slice).one, (fun _ h => by cases h)⟩)⟩)⟩)⟩)⟩)⟩)⟩)⟩)⟩)⟩)⟩)⟩)⟩)⟩)⟩)⟩)⟩)⟩)⟩) (Nat.le_of_ble_eq_true rfl) rfl) ?_
    rintro h_8 ⟨hS, hk⟩
    replace hK := hK.trans hk
    replace hL_f_Sources := hL_f_Sources.kp hk
    refine HA.nil ⟨⟨(hS.own 0 rfl), (hS.box 3 rfl), (hS.box 4 rfl)⟩, (Go.Wk.at_nil _ _)⟩ (by kernel_rfl) (thenQ_normal (?_))
    replace hS : St F_2 (Ow.box b_2 34 #[.bool f_Exclude, vf_Sources] :: Ow.box b_3 60 (c_api_Record (.int .i64 0) (false, (default : Ba 16)) (.slice none 0 0)).toArray :: Ow.box b_5 60 (c_api_Record (.int .i64 1) g vr_1).toArray :: Ow.own 30 17 e_api_Addr vr_1 r_2 :: fr) h_8 := hS.perm2 [3, 2, 1, 0] 5 rfl rfl
    exact ⟨F_2, r_2, b_5, vr_1, rfl, rfl, rfl, rfl, hK, hS, hL_f_Sources, hM⟩
  ·
   rintro f_1 h_9 ⟨F_3, out_18_1, b_4, vout_18_1, e3, e4, e5, e6, hK, hS, hL_f_Sources, hM⟩
   unfold merge_Current_j1 at hM
   refine HW.fr [(3, .pointer (some ⟨b_2, 0, none⟩)), (4, .pointer (some ⟨b_3, 0, none⟩)), (5, .bool false), (6, .pointer (some ⟨b_4, 0, none⟩))] ⟨e3, e4, e5, e6, trivial⟩ ?_
   refine HW.seq ?_
   refine HW.seq ?_
   refine HW.region ?_
   refine oV (.pointer (some ⟨b_2, 0, none⟩)) (q_fieldAddr fa_34_0 rfl rfl) rfl ?_
   refine oV (.bool f_Exclude) (q_load to_4 rfl (Blk.cell (hS.box 0 rfl) rfl)) rfl ?_
   refine HO.nil (thenQ_normal (?_))
   refine HW.cond f_Exclude rfl (fun c_2 => ?_) (fun c_2 => ?_)
   ·
    replace hM := hM.1 c_2
    refine HW.region ?_
    refine oV (.pointer (some ⟨b_4, 0, none⟩)) (q_fieldAddr fa_60_0 rfl rfl) rfl ?_
    refine HO.sto (want_none) rfl (st_store (c' := (c_api_Record (.int .i64 2) g vout_18_1).toArray) hS (i := 2) rfl to_3 rfl rfl rfl rfl (Nat.le_of_ble_eq_true rfl) rfl) ?_
    rintro h_10 ⟨hS, hk⟩
    replace hK := hK.trans hk
    replace hL_f_Sources := hL_f_Sources.kp hk
    refine HO.nil (thenQ_normal (?_))
    refine HW.seq ?_
    refine HW.region ?_
    refine oV (.agg (c_api_Record (.int .i64 2) g vout_18_1).toArray) (q_loadAgg (cs := (c_api_Record (.int .i64 2) g vout_18_1)) ta_60 rfl rfl (Blk.cells (k := 19) (hS.box 2 rfl) rfl)) rfl ?_
    refine HO.sto (want_none) rfl (st_storeAgg (c' := (c_api_Record (.int .i64 2) g vout_18_1).toArray) hS (i := 1) rfl ta_60 rfl rfl rfl (List.forall_mem_cons.2 ⟨rfl, (List.forall_mem_cons.2 ⟨rfl, (List.forall_mem_cons.2 ⟨rfl, (List.forall_mem_cons.2 ⟨rfl, (List.forall_mem_cons.2 ⟨rfl, (List.forall_mem_cons.2 ⟨rfl, (List.forall_mem_cons.2 ⟨rfl, (List.forall_mem_cons.2 ⟨rfl, (List.forall_mem_cons.2 ⟨rfl, (List.forall_mem_cons.2 ⟨rfl, (List.forall_mem_cons.2 ⟨rfl, (List.forall_mem_cons.2 ⟨rfl, (List.forall_mem_cons.2 ⟨rfl, (List.forall_mem_cons.2 ⟨rfl, (List.forall_mem_cons.2 ⟨rfl, (List.forall_mem_cons.2 ⟨rfl, (List.forall_mem_cons.2 ⟨rfl, (List.forall_mem_cons.2 ⟨rfl, (List.forall_mem_cons.2 ⟨(shp (hS.own 3 rfl).slice).one, (fun _ h => by cases h)⟩)⟩)⟩)⟩)⟩)⟩)⟩)⟩)⟩)⟩)⟩)⟩)⟩)⟩)⟩)⟩)⟩)⟩)⟩) (Nat.le_of_ble_eq_true rfl) rfl) ?_
    rintro h_11 ⟨hS, hk⟩
    replace hK := hK.trans hk
    replace hL_f_Sources := hL_f_Sources.kp hk
    refine oA (.bool true) rfl rfl ?_
    refine HO.nil (thenQ_normal (?_))
    refine HW.ret (?_)
    refine ⟨.inr rfl, .tuple #[.agg (c_api_Record (.int .i64 2) g vout_18_1).toArray, .bool true], res2 rfl (rca (cs := (c_api_Record (.int .i64 2) g vout_18_1)) ta_60 rfl rfl (Blk.cells (k := 19) (hS.box 1 rfl) rfl)) (rt rfl), ?_⟩
    replace hS : St F_3 (Ow.own 30 17 e_api_Addr vout_18_1 out_18_1 :: fr) h_11 := hS.perm2 [3] 4 rfl rfl
    exact ⟨F_3, 2, g.1, g.2, out_18_1, true, vout_18_1, rfl, hK, hS, hL_f_Sources, hM⟩
   ·
    replace hM := hM.2 c_2
    refine HW.skip (thenQ_normal (?_))
    refine HW.seq ?_
    refine HW.region ?_
    refine oV (.agg (c_api_Record (.int .i64 1) g vout_18_1).toArray) (q_loadAgg (cs := (c_api_Record (.int .i64 1) g vout_18_1)) ta_60 rfl rfl (Blk.cells (k := 19) (hS.box 2 rfl) rfl)) rfl ?_
    refine HO.sto (want_none) rfl (st_storeAgg (c' := (c_api_Record (.int .i64 1) g vout_18_1).toArray) hS (i := 1) rfl ta_60 rfl rfl rfl (List.forall_mem_cons.2 ⟨rfl, (List.forall_mem_cons.2 ⟨rfl, (List.forall_mem_cons.2 ⟨rfl, (List.forall_mem_cons.2 ⟨rfl, (List.forall_mem_cons.2 ⟨rfl, (List.forall_mem_cons.2 ⟨rfl, (List.forall_mem_cons.2 ⟨rfl, (List.forall_mem_cons.2 ⟨rfl, (List.forall_mem_cons.2 ⟨rfl, (List.forall_mem_cons.2 ⟨rfl, (List.forall_mem_cons.2 ⟨rfl, (List.forall_mem_cons.2 ⟨rfl, (List.forall_mem_cons.2 ⟨rfl, (List.forall_mem_cons.2 ⟨rfl, (List.forall_mem_cons.2 ⟨rfl, (List.forall_mem_cons.2 ⟨rfl, (List.forall_mem_cons.2 ⟨rfl, (List.forall_mem_cons.2 ⟨rfl, (List.forall_mem_cons.2 ⟨(shp (hS.own 3 rfl).slice).one, (fun _ h => by cases h)⟩)⟩)⟩)⟩)⟩)⟩)⟩)⟩)⟩)⟩)⟩)⟩)⟩)⟩)⟩)⟩)⟩)⟩)⟩) (Nat.le_of_ble_eq_true rfl) rfl) ?_
    rintro h_12 ⟨hS, hk⟩
    replace hK := hK.trans hk
    replace hL_f_Sources := hL_f_Sources.kp hk
    refine oA (.bool true) rfl rfl ?_
    refine HO.nil (thenQ_normal (?_))
    refine HW.ret (?_)
    refine ⟨.inr rfl, .tuple #[.agg (c_api_Record (.int .i64 1) g vout_18_1).toArray, .bool true], res2 rfl (rca (cs := (c_api_Record (.int .i64 1) g vout_18_1)) ta_60 rfl rfl (Blk.cells (k := 19) (hS.box 1 rfl) rfl)) (rt rfl), ?_⟩
    replace hS : St F_3 (Ow.own 30 17 e_api_Addr vout_18_1 out_18_1 :: fr) h_12 := hS.perm2 [3] 4 rfl rfl
    exact ⟨F_3, 1, g.1, g.2, out_18_1, true, vout_18_1, rfl, hK, hS, hL_f_Sources, hM⟩
def slices_DeleteFunc_s_api_Addr_api_Addr_l2 (cf_del : T_api_Addr → Bool) (Q : (List T_api_Addr) → Prop) (K_1 : (List T_api_Addr) → Int → Int → Prop) (l_1 : List T_api_Addr) (i_1 : Int) (j_1 : Int) : Prop :=
 (j_1 < (l_1.length : Int) → ((0 : Int) ≤ j_1 ∧ j_1 < (l_1.length : Int)) ∧ (((!(cf_del (gi l_1 j_1))) = true → ((0 : Int) ≤ i_1 ∧ i_1 < (l_1.length : Int)) ∧ ((I64 (i_1 + 1)) ∧ ((I64 (j_1 + 1)) ∧ (K_1 (l_1.set (i_1).toNat (gi l_1 j_1)) (i_1 + 1) (j_1 + 1))))) ∧ ((!(cf_del (gi l_1 j_1))) = false → (I64 (j_1 + 1)) ∧ (K_1 l_1 i_1 (j_1 + 1))))) ∧ (¬ (j_1 < (l_1.length : Int)) → ((0 : Int) ≤ i_1 ∧ i_1 ≤ (l_1.length : Int)) ∧ (((0 : Int) ≤ i_1 ∧ i_1 ≤ (l_1.length : Int) ∧ (l_1.length : Int) ≤ (l_1.length : Int)) ∧ (((0 : Int) ≤ i_1 ∧ i_1 ≤ ((clr l_1 i_1 (l_1.length : Int)).length : Int)) ∧ (Q (cut (clr l_1 i_1 (l_1.length : Int)) 0 i_1)))))
def slices_DeleteFunc_s_api_Addr_api_Addr_W (s1 : List T_api_Addr) (cf_del : T_api_Addr → Bool) (Q : (List T_api_Addr) → Prop) : Prop :=
 slices_IndexFunc_s_api_Addr_api_Addr_W s1 cf_del (fun r_2 => (r_2 = (-1) → Q s1) ∧ (¬ (r_2 = (-1)) → (I64 (r_2 + 1)) ∧ (loopW (fun (K_1 : (List T_api_Addr × Int × Int) → Prop) (s : List T_api_Addr × Int × Int) => slices_DeleteFunc_s_api_Addr_api_Addr_l2 cf_del Q (fun l_1 i_1 j_1 => K_1 (l_1, i_1, j_1)) s.1 s.2.1 s.2.2) (s1, r_2, r_2 + 1))))
theorem slices_DeleteFunc_s_api_Addr_api_Addr_walk {F : Fz} {fr : List Ow} {h0 : Heap} (s1 : List T_api_Addr) (cf_del : T_api_Addr → Bool) (vs : Value) (g_del : Nat) (fs_del : Array Value) (cs_del : Array Value) (hS : St F (Ow.own 30 17 e_api_Addr vs s1 :: fr) h0) (hF_cf_del : FnP Try.prog F h0 g_del fs_del cs_del (fun x : T_api_Addr => [.agg (e_api_Addr x).toArray]) (fun x => .bool (cf_del x))) {Q : (List T_api_Addr) → Prop} (hM : slices_DeleteFunc_s_api_Addr_api_Addr_W s1 cf_del Q) :
  HC Try.prog 68 #[vs, .func (.func g_del) fs_del cs_del] h0 fun u h' => ∃ (F' : Fz) (r_1 : List T_api_Addr) (vr_1 : Value), u = vr_1 ∧ Kp F h0 F' h' ∧ St F' (Ow.own 30 17 e_api_Addr vr_1 r_1 :: fr) h' ∧ (FnP Try.prog F' h' g_del fs_del cs_del (fun x : T_api_Addr => [.agg (e_api_Addr x).toArray]) (fun x => .bool (cf_del x))) ∧ Q r_1 := by
 unfold slices_DeleteFunc_s_api_Addr_api_Addr_W at hM
 have hK := Kp.refl F h0
 refine HC.of_HW (n := 42) Try.func68 rfl rfl (Nat.le_of_ble_eq_true rfl) ?_
 refine HW.seq ?_
 refine HW.region ?_
 refine oA (.slice none 0 0) rfl rfl ?_
 refine HO.nil (thenQ_normal (?_))
 refine HW.seq ?_
 refine HW.region ?_
 refine oM (vs) rfl rfl ?_
 refine oM (.func (.func g_del) fs_del cs_del) rfl rfl ?_
 replace hS : St F (Ow.own 30 17 e_api_Addr vs s1 :: fr) h0 := hS
 have hZ_1 := hS
 have hkz_1 := (hS.freeze).2
 replace hS := hS.freeze.1
 have hL_1 : SliceF (fun bz_ => F bz_ ∨ (Ow.own 30 17 e_api_Addr vs s1).foot bz_) h0 17 e_api_Addr vs s1 := ⟨(hZ_1.own 0 rfl).slice, fun _ b hb => .inr hb⟩
 refine HO.call (want_none) rfl (ec en_53 rfl rfl) (slices_IndexFunc_s_api_Addr_api_Addr_walk (fr := (fr)) s1 cf_del vs g_del fs_del cs_del hS hL_1 (hF_cf_del.kp hkz_1) hM) ?_
 rintro _ h_1 ⟨F_1, r_2, rfl, hk, hS, _, _, hM⟩
 obtain ⟨hS, hk⟩ := hZ_1.back hk hS
 generalize (fun bz_ => F_1 bz_ ∧ ¬ (Ow.own 30 17 e_api_Addr vs s1).foot bz_) = F_2 at hS hk
 replace hK := hK.trans hk
 replace hF_cf_del := hF_cf_del.kp hk
 refine oA (.int .i64 r_2) rfl rfl ?_
 refine HO.nil (thenQ_normal (?_))
 refine HW.seq ?_
 refine HW.seq ?_
 refine HW.region ?_
 refine oM (.int .i64 r_2) rfl rfl ?_
 refine oV (.bool (decide (r_2 = (-1)))) (q_eql rfl rfl) rfl ?_
 refine HO.nil (thenQ_normal (?_))
 refine HW.cond (decide (r_2 = (-1))) rfl (fun c_1 => ?_) (fun c_1 => ?_)
 ·
  replace hM := hM.1 (of_decide_eq_true c_1)
  refine HW.seq ?_
  refine HW.region ?_
  refine oM (vs) rfl rfl ?_
  refine oA (vs) rfl rfl ?_
  refine HO.nil (thenQ_normal (?_))
  refine HW.ret (thenQ_ret (?_))
  refine ⟨.inr rfl, vs, res1 rfl (rt rfl), ?_⟩
  exact ⟨F_2, s1, vs, rfl, hK, hS, hF_cf_del, hM⟩
 ·
  replace hM := hM.2 (of_decide_eq_false c_1)
  refine HW.skip (thenQ_normal (?_))
  refine HW.seq ?_
  refine HW.seq ?_
  refine HW.region ?_
  refine oM (.int .i64 r_2) rfl rfl ?_
  obtain ⟨ho_1, hM⟩ := hM
  refine oV (.int .i64 (r_2 + 1)) (q_addN _ rfl rfl rfl ho_1.1 ho_1.2) rfl ?_
  refine oA (.int .i64 (r_2 + 1)) rfl rfl ?_
  refine HO.nil (thenQ_normal (?_))
  refine HW.block ?_
  obtain ⟨I_1, m_1, hI_1, hR_1⟩ := hM
  refine HW.loop (S := List T_api_Addr × Int × Int) (fun s f h => match s with | (l_1, i_1, j_1) => ∃ (F' : Fz), f 0 = vs ∧ f 1 = .func (.func g_del) fs_del cs_del ∧ f 4 = .slice none 0 0 ∧ f 5 = .int .i64 i_1 ∧ f 6 = .int .i64 j_1 ∧ Kp F h0 F' h ∧ St F' (Ow.own 30 17 e_api_Addr vs l_1 :: fr) h ∧ (FnP Try.prog F' h g_del fs_del cs_del (fun x : T_api_Addr => [.agg (e_api_Addr x).toArray]) (fun x => .bool (cf_del x))) ∧ I_1 (l_1, i_1, j_1)) m_1 (s1, r_2, r_2 + 1) ⟨F_2, rfl, rfl, rfl, rfl, rfl, hK, hS, hF_cf_del, hI_1⟩ ?_
  rintro ⟨l_1, i_1, j_1⟩ f_1 h_2 ⟨F_3, e0, e1, e4, e5, e6, hK, hS, hF_cf_del, hI0⟩
  obtain ⟨K_1, hKe_1⟩ : ∃ K : (List T_api_Addr) → Int → Int → Prop, K = fun l_1' i_1' j_1' => I_1 (l_1', i_1', j_1') ∧ m_1 (l_1', i_1', j_1') < m_1 (l_1, i_1, j_1) := ⟨_, rfl⟩
  have hM : slices_DeleteFunc_s_api_Addr_api_Addr_l2 cf_del Q K_1 l_1 i_1 j_1 := by rw [hKe_1]; exact hR_1 (l_1, i_1, j_1) hI0
  unfold slices_DeleteFunc_s_api_Addr_api_Addr_l2 at hM
  refine HW.fr [(0, vs), (1, .func (.func g_del) fs_del cs_del), (4, .slice none 0 0), (5, .int .i64 i_1), (6, .int .i64 j_1)] ⟨e0, e1, e4, e5, e6, trivial⟩ ?_
  refine HW.seq ?_
  refine HW.seq ?_
  refine HW.region ?_
  refine oM (.int .i64 j_1) rfl rfl ?_
  refine oM (vs) rfl rfl ?_
  refine oV (.int .i64 (l_1.length : Int)) (q_len ts_32 (shp (hS.own 0 rfl).slice) rfl rfl) rfl ?_
  refine oV (.bool (decide (j_1 < (l_1.length : Int)))) (q_lss rfl rfl) rfl ?_
  refine HO.nil (thenQ_normal (?_))
  refine HW.cond (decide (j_1 < (l_1.length : Int))) rfl (fun c_2 => ?_) (fun c_2 => ?_)
  ·
   replace hM := hM.1 (of_decide_eq_true c_2)
   refine HW.skip (thenQ_normal (?_))
   refine HW.seq ?_
   refine HW.block ?_
   refine HW.seq ?_
   refine HW.region ?_
   refine oM (vs) rfl rfl ?_
   refine oM (.int .i64 j_1) rfl rfl ?_
   obtain ⟨ho_2, hM⟩ := hM
   refine oV (elemPtr 17 vs (j_1).toNat) (q_idx ts_32 (hS.own 0 rfl).slice rfl rfl ho_2) rfl ?_
   refine oV (.agg (e_api_Addr (gi l_1 j_1)).toArray) (q_ldElemAgg (cs := (e_api_Addr (gi l_1 j_1))) ta_30 (hS.own 0 rfl).slice rfl ho_2 rfl) rfl ?_
   refine HO.eff (want_none) rfl (st_alloc (c := (e_api_Addr (false, (default : Ba 16))).toArray) hS tz_30 rfl) ?_
   rintro _ h_3 ⟨b_1, rfl, hS, hk⟩
   replace hK := hK.trans hk
   replace hF_cf_del := hF_cf_del.kp hk
   refine HO.sto (want_none) rfl (st_storeAgg (c' := (e_api_Addr (gi l_1 j_1)).toArray) hS (i := 0) rfl ta_30 rfl rfl rfl (one_e_api_Addr _) (Nat.le_of_ble_eq_true rfl) rfl) ?_
   rintro h_4 ⟨hS, hk⟩
   replace hK := hK.trans hk
   replace hF_cf_del := hF_cf_del.kp hk
   refine HO.nil (thenQ_normal (?_))
   refine HW.seq ?_
   refine HW.region ?_
   refine oM (.func (.func g_del) fs_del cs_del) rfl rfl ?_
   refine oV (.agg (e_api_Addr (gi l_1 j_1)).toArray) (q_loadAgg (cs := (e_api_Addr (gi l_1 j_1))) ta_30 rfl rfl (Blk.cells (k := 17) (hS.box 0 rfl) rfl)) rfl ?_
   refine HO.call (want_none) rfl (hF_cf_del.ec (gi l_1 j_1) rfl rfl) (hF_cf_del.hc (gi l_1 j_1) hS) ?_
   rintro _ h_5 ⟨rfl, hS, hk⟩
   replace hK := hK.trans hk
   replace hF_cf_del := hF_cf_del.kp hk
   refine oV (.bool (!(cf_del (gi l_1 j_1)))) (q_not rfl) rfl ?_
   refine HO.nil (thenQ_normal (?_))
   refine HW.cond (!(cf_del (gi l_1 j_1))) rfl (fun c_3 => ?_) (fun c_3 => ?_)
   ·
    replace hM := hM.1 c_3
    refine HW.seq ?_
    refine HW.region ?_
    refine oM (vs) rfl rfl ?_
    refine oM (.int .i64 i_1) rfl rfl ?_
    refine oV (.agg (e_api_Addr (gi l_1 j_1)).toArray) (q_loadAgg (cs := (e_api_Addr (gi l_1 j_1))) ta_30 rfl rfl (Blk.cells (k := 17) (hS.box 0 rfl) rfl)) rfl ?_
    obtain ⟨ho_3, hM⟩ := hM
    refine oV (elemPtr 17 vs (i_1).toNat) (q_idx ts_32 (hS.own 1 rfl).slice rfl rfl ho_3) rfl ?_
    refine HO.sto (want_none) rfl (st_storeElem (a := (gi l_1 j_1)) (t := i_1) hS (i := 1) rfl ta_30 rfl ho_3 rfl rfl rfl (one_e_api_Addr _)) ?_
    rintro h_6 ⟨hS, hk⟩
    replace hK := hK.trans hk
    replace hF_cf_del := hF_cf_del.kp hk
    refine HO.nil (thenQ_normal (?_))
    refine HW.region ?_
    refine oM (.int .i64 i_1) rfl rfl ?_
    obtain ⟨ho_4, hM⟩ := hM
    refine oV (.int .i64 (i_1 + 1)) (q_addN _ rfl rfl rfl ho_4.1 ho_4.2) rfl ?_
    refine oA (.int .i64 (i_1 + 1)) rfl rfl ?_
    refine HO.nil (blockQ_normal (thenQ_normal (?_)))
    refine HW.region ?_
    refine oM (.int .i64 j_1) rfl rfl ?_
    obtain ⟨ho_5, hM⟩ := hM
    refine oV (.int .i64 (j_1 + 1)) (q_addN _ rfl rfl rfl ho_5.1 ho_5.2) rfl ?_
    refine oA (.int .i64 (j_1 + 1)) rfl rfl ?_
    refine HO.nil (thenQ_normal (?_))
    replace hS : St F_3 (Ow.own 30 17 e_api_Addr vs (l_1.set (i_1).toNat (gi l_1 j_1)) :: fr) h_6 := hS.perm2 [1] 2 rfl rfl
    rw [hKe_1] at hM
    exact ⟨(l_1.set (i_1).toNat (gi l_1 j_1), i_1 + 1, j_1 + 1), ⟨F_3, rfl, rfl, rfl, rfl, rfl, hK, hS, hF_cf_del, hM.1⟩, hM.2⟩
   ·
    replace hM := hM.2 c_3
    refine HW.skip (blockQ_normal (thenQ_normal (?_)))
    refine HW.region ?_
    refine oM (.int .i64 j_1) rfl rfl ?_
    obtain ⟨ho_6, hM⟩ := hM
    refine oV (.int .i64 (j_1 + 1)) (q_addN _ rfl rfl rfl ho_6.1 ho_6.2) rfl ?_
    refine oA (.int .i64 (j_1 + 1)) rfl rfl ?_
    refine HO.nil (thenQ_normal (?_))
    replace hS : St F_3 (Ow.own 30 17 e_api_Addr vs l_1 :: fr) h_5 := hS.perm2 [1] 2 rfl rfl
    rw [hKe_1] at hM
    exact ⟨(l_1, i_1, j_1 + 1), ⟨F_3, rfl, rfl, rfl, rfl, rfl, hK, hS, hF_cf_del, hM.1⟩, hM.2⟩
  ·
   replace hM := hM.2 (of_decide_eq_false c_2)
   refine HW.exit (thenQ_exit (thenQ_exit (blockQ_exit (thenQ_normal (?_)))))
   refine HW.seq ?_
   refine HW.region ?_
   refine oM (vs) rfl rfl ?_
   refine oM (.int .i64 i_1) rfl rfl ?_
   obtain ⟨ho_7, hM⟩ := hM
   refine oV (cutV 17 vs (i_1).toNat ((l_1.length : Int)).toNat) (q_slL ts_32 (hS.own 0 rfl).slice rfl rfl ho_7) rfl ?_
   obtain ⟨ho_8, hM⟩ := hM
   refine HO.eff (want_none) rfl (st_clearS (lo := i_1) (hi := (l_1.length : Int)) (z := .agg #[.bool false, .int .u8 0, .int .u8 0, .int .u8 0, .int .u8 0, .int .u8 0, .int .u8 0, .int .u8 0, .int .u8 0, .int .u8 0, .int .u8 0, .int .u8 0, .int .u8 0, .int .u8 0, .int .u8 0, .int .u8 0, .int .u8 0]) hS (i := 0) rfl te_32 tz_30 rfl (by intro u hu; simp [e_api_Addr, encI, encN, encB, encT, default] at hu; rcases hu with rfl | rfl | rfl | rfl | rfl | rfl | rfl | rfl | rfl | rfl | rfl | rfl | rfl | rfl | rfl | rfl | rfl <;> rfl) rfl ho_8 rfl) ?_
   rintro _ h_7 ⟨rfl, hS, hk⟩
   replace hK := hK.trans hk
   replace hF_cf_del := hF_cf_del.kp hk
   refine HO.nil (thenQ_normal (?_))
   refine HW.seq ?_
   refine HW.region ?_
   refine oM (vs) rfl rfl ?_
   refine oM (.int .i64 i_1) rfl rfl ?_
   obtain ⟨ho_9, hM⟩ := hM
   refine oV (cutV 17 vs (0 : Int).toNat (i_1).toNat) (q_slH ts_32 (hS.own 0 rfl).slice rfl rfl ho_9) rfl ?_
   refine oA (cutV 17 vs (0 : Int).toNat (i_1).toNat) rfl rfl ?_
   refine HO.nil (thenQ_normal (?_))
   refine HW.ret (?_)
   refine ⟨.inr rfl, cutV 17 vs (0 : Int).toNat (i_1).toNat, res1 rfl (rt rfl), ?_⟩
   replace hS := hS.shrink 0 rfl i_1 ho_9.1 ho_9.2
   exact ⟨F_3, cut (clr l_1 i_1 (l_1.length : Int)) 0 i_1, cutV 17 vs (0 : Int).toNat (i_1).toNat, rfl, hK, hS, hF_cf_del, hM⟩
def srcs_Of_1_W (a : T_api_Addr) (Q : Bool → Prop) : Prop :=
 addr_Good_W a (fun r_2 => Q (!r_2))
theorem srcs_Of_1_walk {F : Fz} {fr : List Ow} {h0 : Heap} (a : T_api_Addr) (hS : St F (fr) h0)  {Q : Bool → Prop} (hM : srcs_Of_1_W a Q) :
  HC Try.prog 69 #[.agg (e_api_Addr a).toArray] h0 fun u h' => ∃ (F' : Fz) (r_1 : Bool), u = .bool r_1 ∧ Kp F h0 F' h' ∧ St F' (fr) h' ∧ Q r_1 := by
 unfold srcs_Of_1_W at hM
 have hK := Kp.refl F h0
 refine HC.of_HW (n := 6) Try.func69 rfl rfl (Nat.le_of_ble_eq_true rfl) ?_
 refine HW.seq ?_
 refine HW.region ?_
 refine HO.eff (want_none) rfl (st_box (c := (e_api_Addr a).toArray) (k' := 17) hS rfl rfl) ?_
 rintro _ h_1 ⟨b_1, rfl, hS, hk⟩
 replace hK := hK.trans hk
 refine oA (.bool false) rfl rfl ?_
 refine HO.nil (thenQ_normal (?_))
 refine HW.seq ?_
 refine HW.region ?_
 refine oV (.agg (e_api_Addr a).toArray) (q_loadAgg (cs := (e_api_Addr a)) ta_30 rfl rfl (Blk.cells (k := 17) (hS.box 0 rfl) rfl)) rfl ?_
 refine HO.call (want_none) rfl (ec en_17 rfl rfl) (addr_Good_walk (fr := (Ow.box b_1 30 (e_api_Addr a).toArray :: fr)) a hS hM) ?_
 rintro _ h_2 ⟨F_1, r_2, rfl, hk, hS, hM⟩
 replace hK := hK.trans hk
 refine oV (.bool (!r_2)) (q_not rfl) rfl ?_
 refine oA (.bool (!r_2)) rfl rfl ?_
 refine HO.nil (thenQ_normal (?_))
 refine HW.ret (?_)
 refine ⟨.inr rfl, .bool (!r_2), res1 rfl (rt rfl), ?_⟩
 replace hS : St F_1 (fr) h_2 := hS.perm2 [] 1 rfl rfl
 exact ⟨F_1, !r_2, rfl, hK, hS, hM⟩
def slices_Compact_s_api_Addr_api_Addr_l3 (s1 : List T_api_Addr) (Q : (List T_api_Addr) → Prop) (k_1 : Int) (K_2 : (List T_api_Addr) → Int → Int → Prop) (l_2 : List T_api_Addr) (k_2 : Int) (k2_1 : Int) : Prop :=
 ((0 : Int) ≤ k_1 ∧ k_1 ≤ (s1.length : Int) ∧ (s1.length : Int) ≤ (l_2.length : Int)) ∧ ((k2_1 < ((cut l_2 k_1 (s1.length : Int)).length : Int) → ((0 : Int) ≤ k2_1 ∧ k2_1 < ((cut l_2 k_1 (s1.length : Int)).length : Int)) ∧ ((I64 (k2_1 - 1)) ∧ (((0 : Int) ≤ k2_1 - 1 ∧ k2_1 - 1 < ((cut l_2 k_1 (s1.length : Int)).length : Int)) ∧ ((¬ ((((gi (cut l_2 k_1 (s1.length : Int)) k2_1).1, ((gi (cut l_2 k_1 (s1.length : Int)) k2_1).2)) : T_api_Addr) = ((gi (cut l_2 k_1 (s1.length : Int)) (k2_1 - 1)).1, ((gi (cut l_2 k_1 (s1.length : Int)) (k2_1 - 1)).2))) → ((0 : Int) ≤ k_2 ∧ k_2 < (l_2.length : Int)) ∧ ((I64 (k_2 + 1)) ∧ ((I64 (k2_1 + 1)) ∧ (K_2 (l_2.set (k_2).toNat ((gi (cut l_2 k_1 (s1.length : Int)) k2_1).1, ((gi (cut l_2 k_1 (s1.length : Int)) k2_1).2))) (k_2 + 1) (k2_1 + 1))))) ∧ ((((gi (cut l_2 k_1 (s1.length : Int)) k2_1).1, ((gi (cut l_2 k_1 (s1.length : Int)) k2_1).2)) : T_api_Addr) = ((gi (cut l_2 k_1 (s1.length : Int)) (k2_1 - 1)).1, ((gi (cut l_2 k_1 (s1.length : Int)) (k2_1 - 1)).2)) → (I64 (k2_1 + 1)) ∧ (K_2 l_2 k_2 (k2_1 + 1))))))) ∧ (¬ (k2_1 < ((cut l_2 k_1 (s1.length : Int)).length : Int)) → ((0 : Int) ≤ k_2 ∧ k_2 ≤ (l_2.length : Int)) ∧ (((0 : Int) ≤ k_2 ∧ k_2 ≤ (l_2.length : Int) ∧ (l_2.length : Int) ≤ (l_2.length : Int)) ∧ (((0 : Int) ≤ k_2 ∧ k_2 ≤ ((clr l_2 k_2 (l_2.length : Int)).length : Int)) ∧ (Q (cut (clr l_2 k_2 (l_2.length : Int)) 0 k_2))))))
def slices_Compact_s_api_Addr_api_Addr_l1 (s1 : List T_api_Addr) (Q : (List T_api_Addr) → Prop) (K_1 : Int → Prop) (k_1 : Int) : Prop :=
 (k_1 < (s1.length : Int) → ((0 : Int) ≤ k_1 ∧ k_1 < (s1.length : Int)) ∧ ((I64 (k_1 - 1)) ∧ (((0 : Int) ≤ k_1 - 1 ∧ k_1 - 1 < (s1.length : Int)) ∧ ((((gi s1 k_1) : T_api_Addr) = (gi s1 (k_1 - 1)) → ((0 : Int) ≤ k_1 ∧ k_1 ≤ (s1.length : Int)) ∧ (loopW (fun (K_2 : (List T_api_Addr × Int × Int) → Prop) (s : List T_api_Addr × Int × Int) => slices_Compact_s_api_Addr_api_Addr_l3 s1 Q k_1 (fun l_2 k_2 k2_1 => K_2 (l_2, k_2, k2_1)) s.1 s.2.1 s.2.2) (s1, k_1, 1))) ∧ (¬ (((gi s1 k_1) : T_api_Addr) = (gi s1 (k_1 - 1))) → (I64 (k_1 + 1)) ∧ (K_1 (k_1 + 1))))))) ∧ (¬ (k_1 < (s1.length : Int)) → Q s1)
def slices_Compact_s_api_Addr_api_Addr_W (s1 : List T_api_Addr) (Q : (List T_api_Addr) → Prop) : Prop :=
 ((s1.length : Int) < 2 → Q s1) ∧ (¬ ((s1.length : Int) < 2) → loopW (fun (K_1 : Int → Prop) (s : Int) => slices_Compact_s_api_Addr_api_Addr_l1 s1 Q K_1 s) 1)
theorem slices_Compact_s_api_Addr_api_Addr_walk {F : Fz} {fr : List Ow} {h0 : Heap} (s1 : List T_api_Addr) (vs : Value) (hS : St F (Ow.own 30 17 e_api_Addr vs s1 :: fr) h0)  {Q : (List T_api_Addr) → Prop} (hM : slices_Compact_s_api_Addr_api_Addr_W s1 Q) :
  HC Try.prog 70 #[vs] h0 fun u h' => ∃ (F' : Fz) (r_1 : List T_api_Addr) (vr_1 : Value), u = vr_1 ∧ Kp F h0 F' h' ∧ St F' (Ow.own 30 17 e_api_Addr vr_1 r_1 :: fr) h' ∧ Q r_1 := by
 unfold slices_Compact_s_api_Addr_api_Addr_W at hM
 have hK := Kp.refl F h0
 refine HC.of_HW (n := 61) Try.func70 rfl rfl (Nat.le_of_ble_eq_true rfl) ?_
 refine HW.seq ?_
 refine HW.region ?_
 refine oA (.slice none 0 0) rfl rfl ?_
 refine HO.nil (thenQ_normal (?_))
 refine HW.seq ?_
 refine HW.seq ?_
 refine HW.region ?_
 refine oM (vs) rfl rfl ?_
 refine oV (.int .i64 (s1.length : Int)) (q_len ts_32 (shp (hS.own 0 rfl).slice) rfl rfl) rfl ?_
 refine oV (.bool (decide ((s1.length : Int) < 2))) (q_lss rfl rfl) rfl ?_
 refine HO.nil (thenQ_normal (?_))
 refine HW.cond (decide ((s1.length : Int) < 2)) rfl (fun c_1 => ?_) (fun c_1 => ?_)
 ·
  replace hM := hM.1 (of_decide_eq_true c_1)
  refine HW.seq ?_
  refine HW.region ?_
  refine oM (vs) rfl rfl ?_
  refine oA (vs) rfl rfl ?_
  refine HO.nil (thenQ_normal (?_))
  refine HW.ret (thenQ_ret (?_))
  refine ⟨.inr rfl, vs, res1 rfl (rt rfl), ?_⟩
  exact ⟨F, s1, vs, rfl, hK, hS, hM⟩
 ·
  replace hM := hM.2 (of_decide_eq_false c_1)
  refine HW.skip (thenQ_normal (?_))
  refine HW.seq ?_
  refine HW.seq ?_
  refine HW.region ?_
  refine oA (.int .i64 1) rfl rfl ?_
  refine HO.nil (thenQ_normal (?_))
  refine HW.block ?_
  obtain ⟨I_1, m_1, hI_1, hR_1⟩ := hM
  refine HW.loop (S := Int) (fun k_1 f h => ∃ (F' : Fz), f 0 = vs ∧ f 2 = .slice none 0 0 ∧ f 3 = .int .i64 k_1 ∧ Kp F h0 F' h ∧ St F' (Ow.own 30 17 e_api_Addr vs s1 :: fr) h ∧ I_1 k_1) m_1 1 ⟨F, rfl, rfl, rfl, hK, hS, hI_1⟩ ?_
  rintro k_1 f_1 h_1 ⟨F_1, e0, e2, e3, hK, hS, hI0⟩
  obtain ⟨K_1, hKe_1⟩ : ∃ K : Int → Prop, K = fun k_1' => I_1 k_1' ∧ m_1 k_1' < m_1 k_1 := ⟨_, rfl⟩
  have hM : slices_Compact_s_api_Addr_api_Addr_l1 s1 Q K_1 k_1 := by rw [hKe_1]; exact hR_1 k_1 hI0
  unfold slices_Compact_s_api_Addr_api_Addr_l1 at hM
  refine HW.fr [(0, vs), (2, .slice none 0 0), (3, .int .i64 k_1)] ⟨e0, e2, e3, trivial⟩ ?_
  refine HW.seq ?_
  refine HW.seq ?_
  refine HW.region ?_
  refine oM (.int .i64 k_1) rfl rfl ?_
  refine oM (vs) rfl rfl ?_
  refine oV (.int .i64 (s1.length : Int)) (q_len ts_32 (shp (hS.own 0 rfl).slice) rfl rfl) rfl ?_
  refine oV (.bool (decide (k_1 < (s1.length : Int)))) (q_lss rfl rfl) rfl ?_
  refine HO.nil (thenQ_normal (?_))
  refine HW.cond (decide (k_1 < (s1.length : Int))) rfl (fun c_2 => ?_) (fun c_2 => ?_)
  ·
   replace hM := hM.1 (of_decide_eq_true c_2)
   refine HW.skip (thenQ_normal (?_))
   refine HW.seq ?_
   refine HW.block ?_
   refine HW.seq ?_
   refine HW.regionA 10 mixed (fun h => (OwnIs h 0 30 17 e_api_Addr vs s1)) [] (by kernel_rfl) ?_
   refine HA.val (k := 0) (v := vs) rfl rfl (by kernel_rfl) (by kernel_rfl) (want_none) rfl (fun _ c303 => q_move rfl) ?_
   refine HA.val (k := 1) (v := .int .i64 k_1) rfl rfl (by kernel_rfl) (by kernel_rfl) (want_none) rfl (fun _ c303 => q_move rfl) ?_
   obtain ⟨ho_1, hM⟩ := hM
   refine HA.val (k := 2) (v := elemPtr 17 vs (k_1).toNat) rfl rfl (by kernel_rfl) (by kernel_rfl) (want_none) rfl (fun _ c303 => q_idx ts_32 c303.slice rfl rfl ho_1) ?_
   refine HA.val (k := 3) (v := .agg (e_api_Addr (gi s1 k_1)).toArray) rfl rfl (by kernel_rfl) (by kernel_rfl) (want_none) rfl (fun _ c303 => q_ldElemAgg (cs := (e_api_Addr (gi s1 k_1))) ta_30 c303.slice rfl ho_1 rfl) ?_
   refine HA.val (k := 4) (v := vs) rfl rfl (by kernel_rfl) (by kernel_rfl) (want_none) rfl (fun _ c303 => q_move rfl) ?_
   refine HA.val (k := 5) (v := .int .i64 k_1) rfl rfl (by kernel_rfl) (by kernel_rfl) (want_none) rfl (fun _ c303 => q_move rfl) ?_
   obtain ⟨ho_2, hM⟩ := hM
   refine HA.val (k := 6) (v := .int .i64 (k_1 - 1)) rfl rfl (by kernel_rfl) (by kernel_rfl) (want_none) rfl (fun _ c303 => q_subN _ rfl rfl rfl ho_2.1 ho_2.2) ?_
   obtain ⟨ho_3, hM⟩ := hM
   refine HA.val (k := 7) (v := elemPtr 17 vs (k_1 - 1).toNat) rfl rfl (by kernel_rfl) (by kernel_rfl) (want_none) rfl (fun _ c303 => q_idx ts_32 c303.slice rfl rfl ho_3) ?_
   refine HA.val (k := 8) (v := .agg (e_api_Addr (gi s1 (k_1 - 1))).toArray) rfl rfl (by kernel_rfl) (by kernel_rfl) (want_none) rfl (fun _ c303 => q_ldElemAgg (cs := (e_api_Addr (gi s1 (k_1 - 1)))) ta_30 c303.slice rfl ho_3 rfl) ?_
   refine HA.val (k := 9) (v := .bool (decide (((gi s1 k_1) : T_api_Addr) = (gi s1 (k_1 - 1))))) rfl rfl (by kernel_rfl) (by kernel_rfl) (want_none) rfl (fun _ c303 => q_eqlAgg (a := (gi s1 k_1)) (b := (gi s1 (k_1 - 1))) (fun a b w => teq_30 9997 a b w) (by kernel_rfl) rfl rfl rfl rfl) ?_
   refine HA.nil ⟨(hS.own 0 rfl), (Go.Wk.at_nil _ _)⟩ (by kernel_rfl) (thenQ_normal (?_))
   refine HW.cond (decide (((gi s1 k_1) : T_api_Addr) = (gi s1 (k_1 - 1)))) rfl (fun c_3 => ?_) (fun c_3 => ?_)
   ·
    replace hM := hM.1 (of_decide_eq_true c_3)
    refine HW.seq ?_
    refine HW.region ?_
    refine oM (vs) rfl rfl ?_
    refine oM (.int .i64 k_1) rfl rfl ?_
    obtain ⟨ho_4, hM⟩ := hM
    refine oV (cutV 17 vs (k_1).toNat ((s1.length : Int)).toNat) (q_slL ts_32 (hS.own 0 rfl).slice rfl rfl ho_4) rfl ?_
    refine oA (cutV 17 vs (k_1).toNat ((s1.length : Int)).toNat) rfl rfl ?_
    refine HO.nil (thenQ_normal (?_))
    refine HW.seq ?_
    refine HW.seq ?_
    refine HW.region ?_
    refine oA (.int .i64 1) rfl rfl ?_
    refine HO.nil (thenQ_normal (?_))
    refine HW.block ?_
    obtain ⟨I_2, m_2, hI_2, hR_2⟩ := hM
    refine HW.loop (S := List T_api_Addr × Int × Int) (fun s f h => match s with | (l_2, k_2, k2_1) => ∃ (F' : Fz), f 0 = vs ∧ f 2 = .slice none 0 0 ∧ f 3 = .int .i64 k_2 ∧ f 4 = cutV 17 vs (k_1).toNat ((s1.length : Int)).toNat ∧ f 5 = .int .i64 k2_1 ∧ Kp F h0 F' h ∧ St F' (Ow.own 30 17 e_api_Addr vs l_2 :: fr) h ∧ I_2 (l_2, k_2, k2_1)) m_2 (s1, k_1, 1) ⟨F_1, rfl, rfl, rfl, rfl, rfl, hK, hS, hI_2⟩ ?_
    rintro ⟨l_2, k_2, k2_1⟩ f_2 h_2 ⟨F_2, e0, e2, e3, e4, e5, hK, hS, hI0⟩
    obtain ⟨K_2, hKe_2⟩ : ∃ K : (List T_api_Addr) → Int → Int → Prop, K = fun l_2' k_2' k2_1' => I_2 (l_2', k_2', k2_1') ∧ m_2 (l_2', k_2', k2_1') < m_2 (l_2, k_2, k2_1) := ⟨_, rfl⟩
    have hM : slices_Compact_s_api_Addr_api_Addr_l3 s1 Q k_1 K_2 l_2 k_2 k2_1 := by rw [hKe_2]; exact hR_2 (l_2, k_2, k2_1) hI0
    unfold slices_Compact_s_api_Addr_api_Addr_l3 at hM
    refine HW.fr [(0, vs), (2, .slice none 0 0), (3, .int .i64 k_2), (4, cutV 17 vs (k_1).toNat ((s1.length : Int)).toNat), (5, .int .i64 k2_1)] ⟨e0, e2, e3, e4, e5, trivial⟩ ?_
    refine HW.seq ?_
    refine HW.seq ?_
    refine HW.region ?_
    refine oM (.int .i64 k2_1) rfl rfl ?_
    refine oM (cutV 17 vs (k_1).toNat ((s1.length : Int)).toNat) rfl rfl ?_
    obtain ⟨ho_5, hM⟩ := hM
    refine oV (.int .i64 ((cut l_2 k_1 (s1.length : Int)).length : Int)) (q_len ts_32 (shp (cutIs (hS.own 0 rfl).slice k_1 (s1.length : Int) ho_5.1 ho_5.2.1 ho_5.2.2)) rfl rfl) rfl ?_
    refine oV (.bool (decide (k2_1 < ((cut l_2 k_1 (s1.length : Int)).length : Int)))) (q_lss rfl rfl) rfl ?_
    refine HO.nil (thenQ_normal (?_))
    refine HW.cond (decide (k2_1 < ((cut l_2 k_1 (s1.length : Int)).length : Int))) rfl (fun c_4 => ?_) (fun c_4 => ?_)
    ·
     replace hM := hM.1 (of_decide_eq_true c_4)
     refine HW.skip (thenQ_normal (?_))
     refine HW.seq ?_
     refine HW.block ?_
     refine HW.seq ?_
     refine HW.regionA 10 mixed (fun h => (OwnIs h 0 30 17 e_api_Addr vs l_2)) [] (by kernel_rfl) ?_
     refine HA.val (k := 0) (v := cutV 17 vs (k_1).toNat ((s1.length : Int)).toNat) rfl rfl (by kernel_rfl) (by kernel_rfl) (want_none) rfl (fun _ c520 => q_move rfl) ?_
     refine HA.val (k := 1) (v := .int .i64 k2_1) rfl rfl (by kernel_rfl) (by kernel_rfl) (want_none) rfl (fun _ c520 => q_move rfl) ?_
     obtain ⟨ho_6, hM⟩ := hM
     refine HA.val (k := 2) (v := elemPtr 17 (cutV 17 vs (k_1).toNat ((s1.length : Int)).toNat) (k2_1).toNat) rfl rfl (by kernel_rfl) (by kernel_rfl) (want_none) rfl (fun _ c520 => q_idx ts_32 (cutIs c520.slice k_1 (s1.length : Int) ho_5.1 ho_5.2.1 ho_5.2.2) rfl rfl ho_6) ?_
     refine HA.val (k := 3) (v := .agg (e_api_Addr ((gi (cut l_2 k_1 (s1.length : Int)) k2_1).1, ((gi (cut l_2 k_1 (s1.length : Int)) k2_1).2))).toArray) rfl rfl (by kernel_rfl) (by kernel_rfl) (want_none) rfl (fun _ c520 => q_ldElemAgg (cs := (e_api_Addr ((gi (cut l_2 k_1 (s1.length : Int)) k2_1).1, ((gi (cut l_2 k_1 (s1.length : Int)) k2_1).2)))) ta_30 (cutIs c520.slice k_1 (s1.length : Int) ho_5.1 ho_5.2.1 ho_5.2.2) rfl ho_6 rfl) ?_
     refine HA.val (k := 4) (v := cutV 17 vs (k_1).toNat ((s1.length : Int)).toNat) rfl rfl (by kernel_rfl) (by kernel_rfl) (want_none) rfl (fun _ c520 => q_move rfl) ?_
     refine HA.val (k := 5) (v := .int .i64 k2_1) rfl rfl (by kernel_rfl) (by kernel_rfl) (want_none) rfl (fun _ c520 => q_move rfl) ?_
     obtain ⟨ho_7, hM⟩ := hM
     refine HA.val (k := 6) (v := .int .i64 (k2_1 - 1)) rfl rfl (by kernel_rfl) (by kernel_rfl) (want_none) rfl (fun _ c520 => q_subN _ rfl rfl rfl ho_7.1 ho_7.2) ?_
     obtain ⟨ho_8, hM⟩ := hM
     refine HA.val (k := 7) (v := elemPtr 17 (cutV 17 vs (k_1).toNat ((s1.length : Int)).toNat) (k2_1 - 1).toNat) rfl rfl (by kernel_rfl) (by kernel_rfl) (want_none) rfl (fun _ c520 => q_idx ts_32 (cutIs c520.slice k_1 (s1.length : Int) ho_5.1 ho_5.2.1 ho_5.2.2) rfl rfl ho_8) ?_
     refine HA.val (k := 8) (v := .agg (e_api_Addr ((gi (cut l_2 k_1 (s1.length : Int)) (k2_1 - 1)).1, ((gi (cut l_2 k_1 (s1.length : Int)) (k2_1 - 1)).2))).toArray) rfl rfl (by kernel_rfl) (by kernel_rfl) (want_none) rfl (fun _ c520 => q_ldElemAgg (cs := (e_api_Addr ((gi (cut l_2 k_1 (s1.length : Int)) (k2_1 - 1)).1, ((gi (cut l_2 k_1 (s1.length : Int)) (k2_1 - 1)).2)))) ta_30 (cutIs c520.slice k_1 (s1.length : Int) ho_5.1 ho_5.2.1 ho_5.2.2) rfl ho_8 rfl) ?_
     refine HA.val (k := 9) (v := .bool (!decide ((((gi (cut l_2 k_1 (s1.length : Int)) k2_1).1, ((gi (cut l_2 k_1 (s1.length : Int)) k2_1).2)) : T_api_Addr) = ((gi (cut l_2 k_1 (s1.length : Int)) (k2_1 - 1)).1, ((gi (cut l_2 k_1 (s1.length : Int)) (k2_1 - 1)).2))))) rfl rfl (by kernel_rfl) (by kernel_rfl) (want_none) rfl (fun _ c520 => q_neqAgg (a := ((gi (cut l_2 k_1 (s1.length : Int)) k2_1).1, ((gi (cut l_2 k_1 (s1.length : Int)) k2_1).2))) (b := ((gi (cut l_2 k_1 (s1.length : Int)) (k2_1 - 1)).1, ((gi (cut l_2 k_1 (s1.length : Int)) (k2_1 - 1)).2))) (fun a b w => teq_30 9997 a b w) (by kernel_rfl) rfl rfl rfl rfl) ?_
     refine HA.nil ⟨(hS.own 0 rfl), (Go.Wk.at_nil _ _)⟩ (by kernel_rfl) (thenQ_normal (?_))
     refine HW.cond (!decide ((((gi (cut l_2 k_1 (s1.length : Int)) k2_1).1, ((gi (cut l_2 k_1 (s1.length : Int)) k2_1).2)) : T_api_Addr) = ((gi (cut l_2 k_1 (s1.length : Int)) (k2_1 - 1)).1, ((gi (cut l_2 k_1 (s1.length : Int)) (k2_1 - 1)).2)))) rfl (fun c_5 => ?_) (fun c_5 => ?_)
     ·
      replace hM := hM.1 (nd_true c_5)
      refine HW.seq ?_
      refine HW.region ?_
      refine oM (vs) rfl rfl ?_
      refine oM (.int .i64 k_2) rfl rfl ?_
      refine oM (cutV 17 vs (k_1).toNat ((s1.length : Int)).toNat) rfl rfl ?_
      refine oM (.int .i64 k2_1) rfl rfl ?_
      refine oV (elemPtr 17 (cutV 17 vs (k_1).toNat ((s1.length : Int)).toNat) (k2_1).toNat) (q_idx ts_32 (cutIs (hS.own 0 rfl).slice k_1 (s1.length : Int) ho_5.1 ho_5.2.1 ho_5.2.2) rfl rfl ho_6) rfl ?_
      refine oV (.agg (e_api_Addr ((gi (cut l_2 k_1 (s1.length : Int)) k2_1).1, ((gi (cut l_2 k_1 (s1.length : Int)) k2_1).2))).toArray) (q_ldElemAgg (cs := (e_api_Addr ((gi (cut l_2 k_1 (s1.length : Int)) k2_1).1, ((gi (cut l_2 k_1 (s1.length : Int)) k2_1).2)))) ta_30 (cutIs (hS.own 0 rfl).slice k_1 (s1.length : Int) ho_5.1 ho_5.2.1 ho_5.2.2) rfl ho_6 rfl) rfl ?_
      obtain ⟨ho_9, hM⟩ := hM
      refine oV (elemPtr 17 vs (k_2).toNat) (q_idx ts_32 (hS.own 0 rfl).slice rfl rfl ho_9) rfl ?_
      refine HO.sto (want_none) rfl (st_storeElem (a := ((gi (cut l_2 k_1 (s1.length : Int)) k2_1).1, ((gi (cut l_2 k_1 (s1.length : Int)) k2_1).2))) (t := k_2) hS (i := 0) rfl ta_30 rfl ho_9 rfl rfl rfl (one_e_api_Addr _)) ?_
      rintro h_3 ⟨hS, hk⟩
      replace hK := hK.trans hk
      refine HO.nil (thenQ_normal (?_))
      refine HW.region ?_
      refine oM (.int .i64 k_2) rfl rfl ?_
      obtain ⟨ho_10, hM⟩ := hM
      refine oV (.int .i64 (k_2 + 1)) (q_addN _ rfl rfl rfl ho_10.1 ho_10.2) rfl ?_
      refine oA (.int .i64 (k_2 + 1)) rfl rfl ?_
      refine HO.nil (blockQ_normal (thenQ_normal (?_)))
      refine HW.region ?_
      refine oM (.int .i64 k2_1) rfl rfl ?_
      obtain ⟨ho_11, hM⟩ := hM
      refine oV (.int .i64 (k2_1 + 1)) (q_addN _ rfl rfl rfl ho_11.1 ho_11.2) rfl ?_
      refine oA (.int .i64 (k2_1 + 1)) rfl rfl ?_
      refine HO.nil (thenQ_normal (?_))
      rw [hKe_2] at hM
      exact ⟨(l_2.set (k_2).toNat ((gi (cut l_2 k_1 (s1.length : Int)) k2_1).1, ((gi (cut l_2 k_1 (s1.length : Int)) k2_1).2)), k_2 + 1, k2_1 + 1), ⟨F_2, rfl, rfl, rfl, rfl, rfl, hK, hS, hM.1⟩, hM.2⟩
     ·
      replace hM := hM.2 (nd_false c_5)
      refine HW.skip (blockQ_normal (thenQ_normal (?_)))
      refine HW.region ?_
      refine oM (.int .i64 k2_1) rfl rfl ?_
      obtain ⟨ho_12, hM⟩ := hM
      refine oV (.int .i64 (k2_1 + 1)) (q_addN _ rfl rfl rfl ho_12.1 ho_12.2) rfl ?_
      refine oA (.int .i64 (k2_1 + 1)) rfl rfl ?_
      refine HO.nil (thenQ_normal (?_))
      rw [hKe_2] at hM
      exact ⟨(l_2, k_2, k2_1 + 1), ⟨F_2, rfl, rfl, rfl, rfl, rfl, hK, hS, hM.1⟩, hM.2⟩
    ·
     replace hM := hM.2 (of_decide_eq_false c_4)
     refine HW.exit (thenQ_exit (thenQ_exit (blockQ_exit (thenQ_normal (?_)))))
     refine HW.seq ?_
     refine HW.region ?_
     refine oM (vs) rfl rfl ?_
     refine oM (.int .i64 k_2) rfl rfl ?_
     obtain ⟨ho_13, hM⟩ := hM
     refine oV (cutV 17 vs (k_2).toNat ((l_2.length : Int)).toNat) (q_slL ts_32 (hS.own 0 rfl).slice rfl rfl ho_13) rfl ?_
     obtain ⟨ho_14, hM⟩ := hM
     refine HO.eff (want_none) rfl (st_clearS (lo := k_2) (hi := (l_2.length : Int)) (z := .agg #[.bool false, .int .u8 0, .int .u8 0, .int .u8 0, .int .u8 0, .int .u8 0, .int .u8 0, .int .u8 0, .int .u8 0, .int .u8 0, .int .u8 0, .int .u8 0, .int .u8 0, .int .u8 0, .int .u8 0, .int .u8 0, .int .u8 0]) hS (i := 0) rfl te_32 tz_30 rfl (by intro u hu; simp [e_api_Addr, encI, encN, encB, encT, default] at hu; rcases hu with rfl | rfl | rfl | rfl | rfl | rfl | rfl | rfl | rfl | rfl | rfl | rfl | rfl | rfl | rfl | rfl | rfl <;> rfl) rfl ho_14 rfl) ?_
     rintro _ h_4 ⟨rfl, hS, hk⟩
     replace hK := hK.trans hk
     refine HO.nil (thenQ_normal (?_))
     refine HW.seq ?_
     refine HW.region ?_
     refine oM (vs) rfl rfl ?_
     refine oM (.int .i64 k_2) rfl rfl ?_
     obtain ⟨ho_15, hM⟩ := hM
     refine oV (cutV 17 vs (0 : Int).toNat (k_2).toNat) (q_slH ts_32 (hS.own 0 rfl).slice rfl rfl ho_15) rfl ?_
     refine oA (cutV 17 vs (0 : Int).toNat (k_2).toNat) rfl rfl ?_
     refine HO.nil (thenQ_normal (?_))
     refine HW.ret (blockQ_ret (thenQ_ret (thenQ_ret (blockQ_ret (thenQ_ret (?_))))))
     refine ⟨.inr rfl, cutV 17 vs (0 : Int).toNat (k_2).toNat, res1 rfl (rt rfl), ?_⟩
     replace hS := hS.shrink 0 rfl k_2 ho_15.1 ho_15.2
     exact ⟨F_2, cut (clr l_2 k_2 (l_2.length : Int)) 0 k_2, cutV 17 vs (0 : Int).toNat (k_2).toNat, rfl, hK, hS, hM⟩
   ·
    replace hM := hM.2 (of_decide_eq_false c_3)
    refine HW.skip (blockQ_normal (thenQ_normal (?_)))
    refine HW.region ?_
    refine oM (.int .i64 k_1) rfl rfl ?_
    obtain ⟨ho_16, hM⟩ := hM
    refine oV (.int .i64 (k_1 + 1)) (q_addN _ rfl rfl rfl ho_16.1 ho_16.2) rfl ?_
    refine oA (.int .i64 (k_1 + 1)) rfl rfl ?_
    refine HO.nil (thenQ_normal (?_))
    rw [hKe_1] at hM
    exact ⟨k_1 + 1, ⟨F_1, rfl, rfl, rfl, hK, hS, hM.1⟩, hM.2⟩
  ·
   replace hM := hM.2 (of_decide_eq_false c_2)
   refine HW.exit (thenQ_exit (thenQ_exit (blockQ_exit (thenQ_normal (?_)))))
   refine HW.seq ?_
   refine HW.region ?_
   refine oM (vs) rfl rfl ?_
   refine oA (vs) rfl rfl ?_
   refine HO.nil (thenQ_normal (?_))
   refine HW.ret (?_)
   refine ⟨.inr rfl, vs, res1 rfl (rt rfl), ?_⟩
   exact ⟨F_1, s1, vs, rfl, hK, hS, hM⟩
def srcs_Of_W (l : List T_api_Addr) (Q : (List T_api_Addr) → Prop) : Prop :=
 slices_Clone_s_api_Addr_api_Addr_W l (fun r_2 => ∃ cf_1 : T_api_Addr → Bool, (∀ x0, srcs_Of_1_W x0 (fun r => r = cf_1 x0)) ∧ (slices_DeleteFunc_s_api_Addr_api_Addr_W r_2 cf_1 (fun r_3 => ∃ cf_2 : T_api_Addr → T_api_Addr → Int, Swo cf_2 ∧ (∀ x y, addr_Cmp_W x y (fun r => r = cf_2 x y)) ∧ (r_3).length < 4611686018427387904 ∧ ∀ l_1 : List T_api_Addr, List.Perm l_1 r_3 → List.Pairwise (fun x y => ¬ cf_2 y x < 0) l_1 → (slices_Compact_s_api_Addr_api_Addr_W l_1 (fun r_4 => Q r_4)))))
theorem srcs_Of_walk {F : Fz} {fr : List Ow} {h0 : Heap} (l : List T_api_Addr) (vl : Value) (hS : St F (fr) h0) (hL_l : SliceF F h0 17 e_api_Addr vl l) {Q : (List T_api_Addr) → Prop} (hM : srcs_Of_W l Q) :
  HC Try.prog 60 #[vl] h0 fun u h' => ∃ (F' : Fz) (r_1 : List T_api_Addr) (vr_1 : Value), u = vr_1 ∧ Kp F h0 F' h' ∧ St F' (Ow.own 30 17 e_api_Addr vr_1 r_1 :: fr) h' ∧ (SliceF F' h' 17 e_api_Addr vl l) ∧ Q r_1 := by
 unfold srcs_Of_W at hM
 have hK := Kp.refl F h0
 refine HC.of_HW (n := 11) Try.func60 rfl rfl (Nat.le_of_ble_eq_true rfl) ?_
 refine HW.seq ?_
 refine HW.region ?_
 refine oA (.slice none 0 0) rfl rfl ?_
 refine HO.nil (thenQ_normal (?_))
 refine HW.seq ?_
 refine HW.region ?_
 refine oM (vl) rfl rfl ?_
 refine HO.call (want_none) rfl (ec en_42 rfl rfl) (slices_Clone_s_api_Addr_api_Addr_walk (fr := (fr)) l vl hS hL_l hM) ?_
 rintro vr_2 h_1 ⟨F_1, r_2, _, rfl, hk, hS, _, hM⟩
 replace hK := hK.trans hk
 replace hL_l := hL_l.kp hk
 obtain ⟨cf_1, hc_1, hM⟩ := hM
 have hF_1 : FnP Try.prog F_1 h_1 69 #[] #[] (fun x : T_api_Addr => [.agg (e_api_Addr x).toArray]) (fun x => .bool (cf_1 x)) := FnP.of en_69 (fun x h' hk_ => @HC.mono ⟨true⟩ _ _ _ _ _ _ (@srcs_Of_1_walk ⟨true⟩ (allF h') [] h' x  (St.init h')  (fun r => r = cf_1 x) (hc_1 x)) (fun u h'' ⟨F', r, hu, k_, _, hr⟩ => ⟨by rw [hu, hr], F', k_⟩))
 refine HO.call (want_none) rfl (ec en_68 rfl rfl) (slices_DeleteFunc_s_api_Addr_api_Addr_walk (fr := (fr)) r_2 cf_1 vr_2 69 (#[]) (#[]) hS hF_1 hM) ?_
 rintro vr_3 h_2 ⟨F_2, r_3, _, rfl, hk, hS, _, hM⟩
 replace hK := hK.trans hk
 replace hL_l := hL_l.kp hk
 refine oA (vr_3) rfl rfl ?_
 refine HO.nil (thenQ_normal (?_))
 refine HW.seq ?_
 refine HW.region ?_
 refine oM (vr_3) rfl rfl ?_
 obtain ⟨cf_2, ho_1, hc_2, hM⟩ := hM
 obtain ⟨ho_2, hM⟩ := hM
 refine HO.call (want_none) rfl (ec en_58 rfl rfl) (sortFunc_own Try.sortAddr (by decide) (fun w => by kernel_rfl) (fun w => by kernel_rfl) (enc := e_api_Addr) (fun _ => rfl) (by intro a u hu; simp [e_api_Addr, encI, encN, encB, encT] at hu; rcases hu with rfl | rfl | rfl | rfl | rfl | rfl | rfl | rfl | rfl | rfl | rfl | rfl | rfl | rfl | rfl | rfl | rfl <;> rfl) ho_1 hS (fnP2 (enc := e_api_Addr) en_40 (fun x y h' => @addr_Cmp_walk ⟨true⟩ (allF h') [] h' x y (St.init h') (fun r => r = cf_2 x y) (hc_2 x y))) ho_2) ?_
 rintro _ h_3 ⟨l_1, rfl, hk, hS, hp_1, hs_1⟩
 replace hM := hM l_1 hp_1 hs_1
 replace hK := hK.trans hk
 replace hL_l := hL_l.kp hk
 refine HO.nil (thenQ_normal (?_))
 refine HW.seq ?_
 refine HW.region ?_
 refine oM (vr_3) rfl rfl ?_
 refine HO.call (want_none) rfl (ec en_70 rfl rfl) (slices_Compact_s_api_Addr_api_Addr_walk (fr := (fr)) l_1 vr_3 hS hM) ?_
 rintro vr_4 h_4 ⟨F_3, r_4, _, rfl, hk, hS, hM⟩
 replace hK := hK.trans hk
 replace hL_l := hL_l.kp hk
 refine oA (vr_4) rfl rfl ?_
 refine HO.nil (thenQ_normal (?_))
 refine HW.ret (?_)
 refine ⟨.inr rfl, vr_4, res1 rfl (rt rfl), ?_⟩
 exact ⟨F_3, r_4, vr_4, rfl, hK, hS, hL_l, hM⟩
def srcs_And_W (a : List T_api_Addr) (b : List T_api_Addr) (Q : (List T_api_Addr) → Prop) : Prop :=
 ∃ cf_1 : T_api_Addr → T_api_Addr → Int, (∀ x0 x1, addr_Cmp_W x0 x1 (fun r => r = cf_1 x0 x1)) ∧ (srcs_walk_api_Addr_W a b cf_1 false true false (fun r_2 => Q r_2))
theorem srcs_And_walk {F : Fz} {fr : List Ow} {h0 : Heap} (a : List T_api_Addr) (b : List T_api_Addr) (va : Value) (vb : Value) (hS : St F (fr) h0) (hL_a : SliceF F h0 17 e_api_Addr va a) (hL_b : SliceF F h0 17 e_api_Addr vb b) {Q : (List T_api_Addr) → Prop} (hM : srcs_And_W a b Q) :
  HC Try.prog 61 #[va, vb] h0 fun u h' => ∃ (F' : Fz) (r_1 : List T_api_Addr) (vr_1 : Value), u = vr_1 ∧ Kp F h0 F' h' ∧ St F' (Ow.own 30 17 e_api_Addr vr_1 r_1 :: fr) h' ∧ (SliceF F' h' 17 e_api_Addr va a) ∧ (SliceF F' h' 17 e_api_Addr vb b) ∧ Q r_1 := by
 unfold srcs_And_W at hM
 have hK := Kp.refl F h0
 refine HC.of_HW (n := 8) Try.func61 rfl rfl (Nat.le_of_ble_eq_true rfl) ?_
 refine HW.seq ?_
 refine HW.region ?_
 refine oA (.slice none 0 0) rfl rfl ?_
 refine HO.nil (thenQ_normal (?_))
 refine HW.seq ?_
 refine HW.region ?_
 refine oM (va) rfl rfl ?_
 refine oM (vb) rfl rfl ?_
 obtain ⟨cf_1, hc_1, hM⟩ := hM
 have hF_1 : FnP Try.prog F h0 40 #[] #[] (fun x : T_api_Addr × T_api_Addr => [.agg (e_api_Addr x.1).toArray, .agg (e_api_Addr x.2).toArray]) (fun x => .int .i64 (cf_1 x.1 x.2)) := FnP.of en_40 (fun x h' hk_ => @HC.mono ⟨true⟩ _ _ _ _ _ _ (@addr_Cmp_walk ⟨true⟩ (allF h') [] h' x.1 x.2  (St.init h')  (fun r => r = cf_1 x.1 x.2) (hc_1 x.1 x.2)) (fun u h'' ⟨F', r, hu, k_, _, hr⟩ => ⟨by rw [hu, hr], F', k_⟩))
 refine HO.call (want_none) rfl (ec en_71 rfl rfl) (srcs_walk_api_Addr_walk (fr := (fr)) a b cf_1 false true false va vb 40 (#[]) (#[]) hS hL_a hL_b hF_1 hM) ?_
 rintro vr_2 h_1 ⟨F_1, r_2, _, rfl, hk, hS, _, _, _, hM⟩
 replace hK := hK.trans hk
 replace hL_a := hL_a.kp hk
 replace hL_b := hL_b.kp hk
 refine oA (vr_2) rfl rfl ?_
 refine HO.nil (thenQ_normal (?_))
 refine HW.ret (?_)
 refine ⟨.inr rfl, vr_2, res1 rfl (rt rfl), ?_⟩
 exact ⟨F_1, r_2, vr_2, rfl, hK, hS, hL_a, hL_b, hM⟩
def merge_Answer_W (f_Exclude : Bool) (f_Sources : List T_api_Addr) (l : List T_api_Addr) (Q : (List T_api_Addr) → Prop) : Prop :=
 srcs_Of_W l (fun r_2 => (f_Exclude = true → srcs_Minus_W r_2 f_Sources (fun r_3 => Q r_3)) ∧ (f_Exclude = false → srcs_And_W f_Sources r_2 (fun r_4 => Q r_4)))
theorem merge_Answer_walk {F : Fz} {fr : List Ow} {h0 : Heap} (f_Exclude : Bool) (f_Sources : List T_api_Addr) (l : List T_api_Addr) (vf_Sources : Value) (vl : Value) (hS : St F (fr) h0) (hL_f_Sources : SliceF F h0 17 e_api_Addr vf_Sources f_Sources) (hL_l : SliceF F h0 17 e_api_Addr vl l) {Q : (List T_api_Addr) → Prop} (hM : merge_Answer_W f_Exclude f_Sources l Q) :
  HC Try.prog 50 #[.agg #[.bool f_Exclude, vf_Sources], vl] h0 fun u h' => ∃ (F' : Fz) (r_1 : List T_api_Addr) (vr_1 : Value), u = vr_1 ∧ Kp F h0 F' h' ∧ St F' (Ow.own 30 17 e_api_Addr vr_1 r_1 :: fr) h' ∧ (SliceF F' h' 17 e_api_Addr vf_Sources f_Sources) ∧ (SliceF F' h' 17 e_api_Addr vl l) ∧ Q r_1 := by
 unfold merge_Answer_W at hM
 have hK := Kp.refl F h0
 refine HC.of_HW (n := 18) Try.func50 rfl rfl (Nat.le_of_ble_eq_true rfl) ?_
 refine HW.seq ?_
 refine HW.region ?_
 refine HO.eff (want_none) rfl (st_box (c := #[.bool f_Exclude, vf_Sources]) (k' := 2) hS rfl rfl) ?_
 rintro _ h_1 ⟨b_1, rfl, hS, hk⟩
 replace hK := hK.trans hk
 replace hL_f_Sources := hL_f_Sources.kp hk
 replace hL_l := hL_l.kp hk
 refine oA (.slice none 0 0) rfl rfl ?_
 refine HO.nil (thenQ_normal (?_))
 refine HW.seq ?_
 refine HW.region ?_
 refine oM (vl) rfl rfl ?_
 refine HO.call (want_none) rfl (ec en_60 rfl rfl) (srcs_Of_walk (fr := (Ow.box b_1 34 #[.bool f_Exclude, vf_Sources] :: fr)) l vl hS hL_l hM) ?_
 rintro vr_2 h_2 ⟨F_1, r_2, _, rfl, hk, hS, _, hM⟩
 replace hK := hK.trans hk
 replace hL_f_Sources := hL_f_Sources.kp hk
 replace hL_l := hL_l.kp hk
 refine oA (vr_2) rfl rfl ?_
 refine HO.nil (thenQ_normal (?_))
 refine HW.seq ?_
 refine HW.seq ?_
 refine HW.region ?_
 refine oV (.pointer (some ⟨b_1, 0, none⟩)) (q_fieldAddr fa_34_0 rfl rfl) rfl ?_
 refine oV (.bool f_Exclude) (q_load to_4 rfl (Blk.cell (hS.box 1 rfl) rfl)) rfl ?_
 refine HO.nil (thenQ_normal (?_))
 refine HW.cond f_Exclude rfl (fun c_1 => ?_) (fun c_1 => ?_)
 ·
  replace hM := hM.1 c_1
  refine HW.seq ?_
  refine HW.region ?_
  refine oM (vr_2) rfl rfl ?_
  refine oV (.pointer (some ⟨b_1, 1, none⟩)) (q_fieldAddr fa_34_1 rfl rfl) rfl ?_
  refine oV (vf_Sources) (q_load to_32 rfl (Blk.cell (hS.box 1 rfl) rfl)) rfl ?_
  replace hS : St F_1 (Ow.own 30 17 e_api_Addr vr_2 r_2 :: Ow.box b_1 34 #[.bool f_Exclude, vf_Sources] :: fr) h_2 := hS
  have hZ_1 := hS
  have hkz_1 := (hS.freeze).2
  replace hS := hS.freeze.1
  have hL_1 : SliceF (fun bz_ => F_1 bz_ ∨ (Ow.own 30 17 e_api_Addr vr_2 r_2).foot bz_) h_2 17 e_api_Addr vr_2 r_2 := ⟨(hZ_1.own 0 rfl).slice, fun _ b hb => .inr hb⟩
  refine HO.call (want_none) rfl (ec en_56 rfl rfl) (srcs_Minus_walk (fr := (Ow.box b_1 34 #[.bool f_Exclude, vf_Sources] :: fr)) r_2 f_Sources vr_2 vf_Sources hS hL_1 (hL_f_Sources.kp hkz_1) hM) ?_
  rintro vr_3 h_3 ⟨F_2, r_3, _, rfl, hk, hS, _, _, hM⟩
  obtain ⟨hS, hk⟩ := hZ_1.back hk hS
  generalize (fun bz_ => F_2 bz_ ∧ ¬ (Ow.own 30 17 e_api_Addr vr_2 r_2).foot bz_) = F_3 at hS hk
  replace hK := hK.trans hk
  replace hL_f_Sources := hL_f_Sources.kp hk
  replace hL_l := hL_l.kp hk
  refine oA (vr_3) rfl rfl ?_
  refine HO.nil (thenQ_normal (?_))
  refine HW.ret (thenQ_ret (?_))
  refine ⟨.inr rfl, vr_3, res1 rfl (rt rfl), ?_⟩
  replace hS : St F_3 (Ow.own 30 17 e_api_Addr vr_3 r_3 :: fr) h_3 := hS.perm2 [1] 3 rfl rfl
  exact ⟨F_3, r_3, vr_3, rfl, hK, hS, hL_f_Sources, hL_l, hM⟩
 ·
  replace hM := hM.2 c_1
  refine HW.skip (thenQ_normal (?_))
  refine HW.seq ?_
  refine HW.region ?_
  refine oV (.pointer (some ⟨b_1, 1, none⟩)) (q_fieldAddr fa_34_1 rfl rfl) rfl ?_
  refine oV (vf_Sources) (q_load to_32 rfl (Blk.cell (hS.box 1 rfl) rfl)) rfl ?_
  refine oM (vr_2) rfl rfl ?_
  replace hS : St F_1 (Ow.own 30 17 e_api_Addr vr_2 r_2 :: Ow.box b_1 34 #[.bool f_Exclude, vf_Sources] :: fr) h_2 := hS
  have hZ_2 := hS
  have hkz_2 := (hS.freeze).2
  replace hS := hS.freeze.1
  have hL_2 : SliceF (fun bz_ => F_1 bz_ ∨ (Ow.own 30 17 e_api_Addr vr_2 r_2).foot bz_) h_2 17 e_api_Addr vr_2 r_2 := ⟨(hZ_2.own 0 rfl).slice, fun _ b hb => .inr hb⟩
  refine HO.call (want_none) rfl (ec en_61 rfl rfl) (srcs_And_walk (fr := (Ow.box b_1 34 #[.bool f_Exclude, vf_Sources] :: fr)) f_Sources r_2 vf_Sources vr_2 hS (hL_f_Sources.kp hkz_2) hL_2 hM) ?_
  rintro vr_4 h_4 ⟨F_4, r_4, _, rfl, hk, hS, _, _, hM⟩
  obtain ⟨hS, hk⟩ := hZ_2.back hk hS
  generalize (fun bz_ => F_4 bz_ ∧ ¬ (Ow.own 30 17 e_api_Addr vr_2 r_2).foot bz_) = F_5 at hS hk
  replace hK := hK.trans hk
  replace hL_f_Sources := hL_f_Sources.kp hk
  replace hL_l := hL_l.kp hk
  refine oA (vr_4) rfl rfl ?_
  refine HO.nil (thenQ_normal (?_))
  refine HW.ret (?_)
  refine ⟨.inr rfl, vr_4, res1 rfl (rt rfl), ?_⟩
  replace hS : St F_5 (Ow.own 30 17 e_api_Addr vr_4 r_4 :: fr) h_4 := hS.perm2 [1] 3 rfl rfl
  exact ⟨F_5, r_4, vr_4, rfl, hK, hS, hL_f_Sources, hL_l, hM⟩
def host_answer_j1 (g : T_api_Addr) (f_Exclude : Bool) (f_Sources : List T_api_Addr) (q_Sources : List T_api_Addr) (Q : Int → Bool → (Ba 16) → (List T_api_Addr) → Bool → Prop) (b_5 : Bool) : Prop :=
 (b_5 = true → merge_Current_W g f_Exclude f_Sources (fun r0_0_2 r0_1_2 r0_2_2 r0_18_2 r1_2 => Q r0_0_2 r0_1_2 r0_2_2 r0_18_2 r1_2)) ∧ (b_5 = false → merge_Answer_W f_Exclude f_Sources q_Sources (fun r_2 => Q 1 g.1 g.2 r_2 (decide (0 < (r_2.length : Int)))))
def host_answer_W (g : T_api_Addr) (f_Exclude : Bool) (f_Sources : List T_api_Addr) (q_V6 : Bool) (q_Version : Int) (q_Kind : Int) (q_Resp : Int) (q_Group : T_api_Addr) (q_Quiet : Bool) (q_Robust : Int) (q_Every : Int) (q_Sources : List T_api_Addr) (q_Records : List T_api_Record) (Q : Int → Bool → (Ba 16) → (List T_api_Addr) → Bool → Prop) : Prop :=
 addr_Zero_W q_Group (fun r_1 => (r_1 = true → host_answer_j1 g f_Exclude f_Sources q_Sources Q true) ∧ (r_1 = false → host_answer_j1 g f_Exclude f_Sources q_Sources Q (decide ((q_Sources.length : Int) = 0))))
theorem host_answer_walk {F : Fz} {fr : List Ow} {h0 : Heap} (g : T_api_Addr) (f_Exclude : Bool) (f_Sources : List T_api_Addr) (q_V6 : Bool) (q_Version : Int) (q_Kind : Int) (q_Resp : Int) (q_Group : T_api_Addr) (q_Quiet : Bool) (q_Robust : Int) (q_Every : Int) (q_Sources : List T_api_Addr) (q_Records : List T_api_Record) (vf_Sources : Value) (vq_Sources : Value) (vq_Records : Value) (hS : St F (fr) h0) (hL_f_Sources : SliceF F h0 17 e_api_Addr vf_Sources f_Sources) (hL_q_Sources : SliceF F h0 17 e_api_Addr vq_Sources q_Sources) (hN_q_Records : NfL nf_api_Record F h0 q_Records) (hL_q_Records : SliceF F h0 19 e_api_Record vq_Records q_Records) {Q : Int → Bool → (Ba 16) → (List T_api_Addr) → Bool → Prop} (hM : host_answer_W g f_Exclude f_Sources q_V6 q_Version q_Kind q_Resp q_Group q_Quiet q_Robust q_Every q_Sources q_Records Q) :
  HC Try.prog 31 #[.agg (e_api_Addr g).toArray, .agg #[.bool f_Exclude, vf_Sources], .agg (c_api_Talk (.bool q_V6) (.int .i64 q_Version) (.int .i64 q_Kind) (.int .i64 q_Resp) q_Group (.bool q_Quiet) (.int .i64 q_Robust) (.int .i64 q_Every) vq_Sources vq_Records).toArray] h0 fun u h' => ∃ (F' : Fz) (r0_0_1 : Int) (r0_1_1 : Bool) (r0_2_1 : Ba 16) (r0_18_1 : List T_api_Addr) (r1_1 : Bool) (vr0_18_1 : Value), u = .tuple #[.agg (c_api_Record (.int .i64 r0_0_1) (r0_1_1, r0_2_1) vr0_18_1).toArray, .bool r1_1] ∧ Kp F h0 F' h' ∧ St F' (Ow.own 30 17 e_api_Addr vr0_18_1 r0_18_1 :: fr) h' ∧ (SliceF F' h' 17 e_api_Addr vf_Sources f_Sources) ∧ (SliceF F' h' 17 e_api_Addr vq_Sources q_Sources) ∧ (NfL nf_api_Record F' h' q_Records) ∧ (SliceF F' h' 19 e_api_Record vq_Records q_Records) ∧ Q r0_0_1 r0_1_1 r0_2_1 r0_18_1 r1_1 := by
 unfold host_answer_W at hM
 have hK := Kp.refl F h0
 refine HC.of_HW (n := 33) Try.func31 rfl rfl (Nat.le_of_ble_eq_true rfl) ?_
 refine HW.seq ?_
 refine HW.region ?_
 refine HO.eff (want_none) rfl (st_box (c := (e_api_Addr g).toArray) (k' := 17) hS rfl rfl) ?_
 rintro _ h_1 ⟨b_1, rfl, hS, hk⟩
 replace hK := hK.trans hk
 replace hL_f_Sources := hL_f_Sources.kp hk
 replace hL_q_Sources := hL_q_Sources.kp hk
 replace hN_q_Records := hN_q_Records.kp hk
 replace hL_q_Records := hL_q_Records.kp hk
 refine HO.eff (want_none) rfl (st_box (c := #[.bool f_Exclude, vf_Sources]) (k' := 2) hS rfl rfl) ?_
 rintro _ h_2 ⟨b_2, rfl, hS, hk⟩
 replace hK := hK.trans hk
 replace hL_f_Sources := hL_f_Sources.kp hk
 replace hL_q_Sources := hL_q_Sources.kp hk
 replace hN_q_Records := hN_q_Records.kp hk
 replace hL_q_Records := hL_q_Records.kp hk
 refine HO.eff (want_none) rfl (st_box (c := (c_api_Talk (.bool q_V6) (.int .i64 q_Version) (.int .i64 q_Kind) (.int .i64 q_Resp) q_Group (.bool q_Quiet) (.int .i64 q_Robust) (.int .i64 q_Every) vq_Sources vq_Records).toArray) (k' := 26) hS rfl rfl) ?_
 rintro _ h_3 ⟨b_3, rfl, hS, hk⟩
 replace hK := hK.trans hk
 replace hL_f_Sources := hL_f_Sources.kp hk
 replace hL_q_Sources := hL_q_Sources.kp hk
 replace hN_q_Records := hN_q_Records.kp hk
 replace hL_q_Records := hL_q_Records.kp hk
 refine HO.eff (want_none) rfl (st_alloc (c := (c_api_Record (.int .i64 0) (false, (default : Ba 16)) (.slice none 0 0)).toArray) hS tz_60 rfl) ?_
 rintro _ h_4 ⟨b_4, rfl, hS, hk⟩
 replace hK := hK.trans hk
 replace hL_f_Sources := hL_f_Sources.kp hk
 replace hL_q_Sources := hL_q_Sources.kp hk
 replace hN_q_Records := hN_q_Records.kp hk
 replace hL_q_Records := hL_q_Records.kp hk
 refine oA (.bool false) rfl rfl ?_
 refine HO.nil (thenQ_normal (?_))
 refine HW.seq ?_
 refine HW.seq_mid (fun f h => ∃ (F' : Fz) (b_5 : Bool), f 3 = .pointer (some ⟨b_1, 0, none⟩) ∧ f 4 = .pointer (some ⟨b_2, 0, none⟩) ∧ f 5 = .pointer (some ⟨b_3, 0, none⟩) ∧ f 6 = .pointer (some ⟨b_4, 0, none⟩) ∧ f 7 = .bool false ∧ f 17 = .bool b_5 ∧ Kp F h0 F' h ∧ St F' (Ow.box b_1 30 (e_api_Addr g).toArray :: Ow.box b_2 34 #[.bool f_Exclude, vf_Sources] :: Ow.box b_3 39 (c_api_Talk (.bool q_V6) (.int .i64 q_Version) (.int .i64 q_Kind) (.int .i64 q_Resp) q_Group (.bool q_Quiet) (.int .i64 q_Robust) (.int .i64 q_Every) vq_Sources vq_Records).toArray :: Ow.box b_4 60 (c_api_Record (.int .i64 0) (false, (default : Ba 16)) (.slice none 0 0)).toArray :: fr) h ∧ (SliceF F' h 17 e_api_Addr vf_Sources f_Sources) ∧ (SliceF F' h 17 e_api_Addr vq_Sources q_Sources) ∧ (NfL nf_api_Record F' h q_Records) ∧ (SliceF F' h 19 e_api_Record vq_Records q_Records) ∧ host_answer_j1 g f_Exclude f_Sources q_Sources Q b_5) ?_ ?_
 ·
  refine HW.region ?_
  refine oV (.pointer (some ⟨b_3, 4, none⟩)) (q_fieldAddr fa_39_4 rfl rfl) rfl ?_
  refine oV (.agg (e_api_Addr q_Group).toArray) (q_loadAgg (cs := (e_api_Addr q_Group)) ta_30 rfl rfl (Blk.cells (k := 17) (hS.box 1 rfl) rfl)) rfl ?_
  refine HO.call (want_none) rfl (ec en_27 rfl rfl) (addr_Zero_walk (fr := (Ow.box b_4 60 (c_api_Record (.int .i64 0) (false, (default : Ba 16)) (.slice none 0 0)).toArray :: Ow.box b_3 39 (c_api_Talk (.bool q_V6) (.int .i64 q_Version) (.int .i64 q_Kind) (.int .i64 q_Resp) q_Group (.bool q_Quiet) (.int .i64 q_Robust) (.int .i64 q_Every) vq_Sources vq_Records).toArray :: Ow.box b_2 34 #[.bool f_Exclude, vf_Sources] :: Ow.box b_1 30 (e_api_Addr g).toArray :: fr)) q_Group hS hM) ?_
  rintro _ h_5 ⟨F_1, r_1, rfl, hk, hS, hM⟩
  replace hK := hK.trans hk
  replace hL_f_Sources := hL_f_Sources.kp hk
  replace hL_q_Sources := hL_q_Sources.kp hk
  replace hN_q_Records := hN_q_Records.kp hk
  replace hL_q_Records := hL_q_Records.kp hk
  refine oM (.bool r_1) rfl rfl ?_
  rcases Bool.eq_false_or_eq_true r_1 with c_1 | c_1
  ·
   replace hM := hM.1 c_1
   refine HO.past (past_by rfl rfl c_1) rfl ?_
   refine HO.past (past_by rfl rfl c_1) rfl ?_
   refine HO.past (past_by rfl rfl c_1) rfl ?_
   refine HO.past (past_by rfl rfl c_1) rfl ?_
   refine oV (.bool true) (q_pickK true rfl c_1 rfl) rfl ?_
   refine HO.nil (thenQ_normal (?_))
   replace hS : St F_1 (Ow.box b_1 30 (e_api_Addr g).toArray :: Ow.box b_2 34 #[.bool f_Exclude, vf_Sources] :: Ow.box b_3 39 (c_api_Talk (.bool q_V6) (.int .i64 q_Version) (.int .i64 q_Kind) (.int .i64 q_Resp) q_Group (.bool q_Quiet) (.int .i64 q_Robust) (.int .i64 q_Every) vq_Sources vq_Records).toArray :: Ow.box b_4 60 (c_api_Record (.int .i64 0) (false, (default : Ba 16)) (.slice none 0 0)).toArray :: fr) h_5 := hS.perm2 [3, 2, 1, 0] 4 rfl rfl
   exact ⟨F_1, true, rfl, rfl, rfl, rfl, rfl, rfl, hK, hS, hL_f_Sources, hL_q_Sources, hN_q_Records, hL_q_Records, hM⟩
  ·
   replace hM := hM.2 c_1
   refine HO.val (v := .pointer (some ⟨b_3, 24, none⟩)) (want_by rfl rfl c_1) rfl (q_fieldAddr fa_39_8 rfl rfl) ?_
   refine HO.val (v := vq_Sources) (want_by rfl rfl c_1) rfl (q_load to_32 rfl (Blk.cell (hS.box 1 rfl) rfl)) ?_
   refine HO.val (v := .int .i64 (q_Sources.length : Int)) (want_by rfl rfl c_1) rfl (q_len ts_32 (shp hL_q_Sources.is) rfl rfl) ?_
   refine HO.val (v := .bool (decide ((q_Sources.length : Int) = 0))) (want_by rfl rfl c_1) rfl (q_eql rfl rfl) ?_
   refine oV (.bool (decide ((q_Sources.length : Int) = 0))) (q_pickK false rfl c_1 rfl) rfl ?_
   refine HO.nil (thenQ_normal (?_))
   replace hS : St F_1 (Ow.box b_1 30 (e_api_Addr g).toArray :: Ow.box b_2 34 #[.bool f_Exclude, vf_Sources] :: Ow.box b_3 39 (c_api_Talk (.bool q_V6) (.int .i64 q_Version) (.int .i64 q_Kind) (.int .i64 q_Resp) q_Group (.bool q_Quiet) (.int .i64 q_Robust) (.int .i64 q_Every) vq_Sources vq_Records).toArray :: Ow.box b_4 60 (c_api_Record (.int .i64 0) (false, (default : Ba 16)) (.slice none 0 0)).toArray :: fr) h_5 := hS.perm2 [3, 2, 1, 0] 4 rfl rfl
   exact ⟨F_1, decide ((q_Sources.length : Int) = 0), rfl, rfl, rfl, rfl, rfl, rfl, hK, hS, hL_f_Sources, hL_q_Sources, hN_q_Records, hL_q_Records, hM⟩
 ·
  rintro f_1 h_6 ⟨F_2, b_5, e3, e4, e5, e6, e7, e17, hK, hS, hL_f_Sources, hL_q_Sources, hN_q_Records, hL_q_Records, hM⟩
  unfold host_answer_j1 at hM
  refine HW.fr [(3, .pointer (some ⟨b_1, 0, none⟩)), (4, .pointer (some ⟨b_2, 0, none⟩)), (5, .pointer (some ⟨b_3, 0, none⟩)), (6, .pointer (some ⟨b_4, 0, none⟩)), (7, .bool false), (17, .bool b_5)] ⟨e3, e4, e5, e6, e7, e17, trivial⟩ ?_
  refine HW.cond b_5 rfl (fun c_2 => ?_) (fun c_2 => ?_)
  ·
   replace hM := hM.1 c_2
   refine HW.seq ?_
   refine HW.region ?_
   refine oV (.agg (e_api_Addr g).toArray) (q_loadAgg (cs := (e_api_Addr g)) ta_30 rfl rfl (Blk.cells (k := 17) (hS.box 0 rfl) rfl)) rfl ?_
   refine oV (.agg #[.bool f_Exclude, vf_Sources]) (q_loadAgg (cs := [.bool f_Exclude, vf_Sources]) ta_34 rfl rfl (Blk.cells (k := 2) (hS.box 1 rfl) rfl)) rfl ?_
   refine HO.call (want_none) rfl (ec en_49 rfl rfl) (merge_Current_walk (fr := (Ow.box b_1 30 (e_api_Addr g).toArray :: Ow.box b_2 34 #[.bool f_Exclude, vf_Sources] :: Ow.box b_3 39 (c_api_Talk (.bool q_V6) (.int .i64 q_Version) (.int .i64 q_Kind) (.int .i64 q_Resp) q_Group (.bool q_Quiet) (.int .i64 q_Robust) (.int .i64 q_Every) vq_Sources vq_Records).toArray :: Ow.box b_4 60 (c_api_Record (.int .i64 0) (false, (default : Ba 16)) (.slice none 0 0)).toArray :: fr)) g f_Exclude f_Sources vf_Sources hS hL_f_Sources hM) ?_
   rintro _ h_7 ⟨F_3, r0_0_2, r0_1_2, r0_2_2, r0_18_2, r1_2, vr0_18_2, rfl, hk, hS, _, hM⟩
   replace hK := hK.trans hk
   replace hL_f_Sources := hL_f_Sources.kp hk
   replace hL_q_Sources := hL_q_Sources.kp hk
   replace hN_q_Records := hN_q_Records.kp hk
   replace hL_q_Records := hL_q_Records.kp hk
   refine oV (.agg (c_api_Record (.int .i64 r0_0_2) (r0_1_2, r0_2_2) vr0_18_2).toArray) (q_extract rfl rfl) rfl ?_
   refine oV (.bool r1_2) (q_extract rfl rfl) rfl ?_
   refine HO.sto (want_none) rfl (st_storeAgg (c' := (c_api_Record (.int .i64 r0_0_2) (r0_1_2, r0_2_2) vr0_18_2).toArray) hS (i := 4) rfl ta_60 rfl rfl rfl (List.forall_mem_cons.2 ⟨rfl, (List.forall_mem_cons.2 ⟨rfl, (List.forall_mem_cons.2 ⟨rfl, (List.forall_mem_cons.2 ⟨rfl, (List.forall_mem_cons.2 ⟨rfl, (List.forall_mem_cons.2 ⟨rfl, (List.forall_mem_cons.2 ⟨rfl, (List.forall_mem_cons.2 ⟨rfl, (List.forall_mem_cons.2 ⟨rfl, (List.forall_mem_cons.2 ⟨rfl, (List.forall_mem_cons.2 ⟨rfl, (List.forall_mem_cons.2 ⟨rfl, (List.forall_mem_cons.2 ⟨rfl, (List.forall_mem_cons.2 ⟨rfl, (List.forall_mem_cons.2 ⟨rfl, (List.forall_mem_cons.2 ⟨rfl, (List.forall_mem_cons.2 ⟨rfl, (List.forall_mem_cons.2 ⟨rfl, (List.forall_mem_cons.2 ⟨(shp (hS.own 0 rfl).slice).one, (fun _ h => by cases h)⟩)⟩)⟩)⟩)⟩)⟩)⟩)⟩)⟩)⟩)⟩)⟩)⟩)⟩)⟩)⟩)⟩)⟩)⟩) (Nat.le_of_ble_eq_true rfl) rfl) ?_
   rintro h_8 ⟨hS, hk⟩
   replace hK := hK.trans hk
   replace hL_f_Sources := hL_f_Sources.kp hk
   replace hL_q_Sources := hL_q_Sources.kp hk
   replace hN_q_Records := hN_q_Records.kp hk
   replace hL_q_Records := hL_q_Records.kp hk
   refine oA (.bool r1_2) rfl rfl ?_
   refine HO.nil (thenQ_normal (?_))
   refine HW.ret (thenQ_ret (?_))
   refine ⟨.inr rfl, .tuple #[.agg (c_api_Record (.int .i64 r0_0_2) (r0_1_2, r0_2_2) vr0_18_2).toArray, .bool r1_2], res2 rfl (rca (cs := (c_api_Record (.int .i64 r0_0_2) (r0_1_2, r0_2_2) vr0_18_2)) ta_60 rfl rfl (Blk.cells (k := 19) (hS.box 4 rfl) rfl)) (rt rfl), ?_⟩
   replace hS : St F_3 (Ow.own 30 17 e_api_Addr vr0_18_2 r0_18_2 :: fr) h_8 := hS.perm2 [0] 5 rfl rfl
   exact ⟨F_3, r0_0_2, r0_1_2, r0_2_2, r0_18_2, r1_2, vr0_18_2, rfl, hK, hS, hL_f_Sources, hL_q_Sources, hN_q_Records, hL_q_Records, hM⟩
  ·
   replace hM := hM.2 c_2
   refine HW.skip (thenQ_normal (?_))
   refine HW.seq ?_
   refine HW.region ?_
   refine oV (.agg #[.bool f_Exclude, vf_Sources]) (q_loadAgg (cs := [.bool f_Exclude, vf_Sources]) ta_34 rfl rfl (Blk.cells (k := 2) (hS.box 1 rfl) rfl)) rfl ?_
   refine oV (.pointer (some ⟨b_3, 24, none⟩)) (q_fieldAddr fa_39_8 rfl rfl) rfl ?_
   refine oV (vq_Sources) (q_load to_32 rfl (Blk.cell (hS.box 2 rfl) rfl)) rfl ?_
   refine HO.call (want_none) rfl (ec en_50 rfl rfl) (merge_Answer_walk (fr := (Ow.box b_1 30 (e_api_Addr g).toArray :: Ow.box b_2 34 #[.bool f_Exclude, vf_Sources] :: Ow.box b_3 39 (c_api_Talk (.bool q_V6) (.int .i64 q_Version) (.int .i64 q_Kind) (.int .i64 q_Resp) q_Group (.bool q_Quiet) (.int .i64 q_Robust) (.int .i64 q_Every) vq_Sources vq_Records).toArray :: Ow.box b_4 60 (c_api_Record (.int .i64 0) (false, (default : Ba 16)) (.slice none 0 0)).toArray :: fr)) f_Exclude f_Sources q_Sources vf_Sources vq_Sources hS hL_f_Sources hL_q_Sources hM) ?_
   rintro vr_1 h_9 ⟨F_4, r_2, _, rfl, hk, hS, _, _, hM⟩
   replace hK := hK.trans hk
   replace hL_f_Sources := hL_f_Sources.kp hk
   replace hL_q_Sources := hL_q_Sources.kp hk
   replace hN_q_Records := hN_q_Records.kp hk
   replace hL_q_Records := hL_q_Records.kp hk
   refine oA (vr_1) rfl rfl ?_
   refine HO.nil (thenQ_normal (?_))
   refine HW.seq ?_
   refine HW.region ?_
   refine oV (.agg (e_api_Addr g).toArray) (q_loadAgg (cs := (e_api_Addr g)) ta_30 rfl rfl (Blk.cells (k := 17) (hS.box 1 rfl) rfl)) rfl ?_
   refine oM (vr_1) rfl rfl ?_
   refine oV (.agg (c_api_Record (.int .i64 1) g vr_1).toArray) (q_build tp_60 (fill_cons (cs' := (c_api_Record (.int .i64 1) (false, (default : Ba 16)) (.slice none 0 0)).toArray) (vc := #[.int .i64 1]) rfl rfl rfl (Nat.le_of_ble_eq_true rfl) rfl (fill_cons (cs' := (c_api_Record (.int .i64 1) g (.slice none 0 0)).toArray) (vc := (e_api_Addr g).toArray) rfl rfl rfl (Nat.le_of_ble_eq_true rfl) rfl (fill_cons (cs' := (c_api_Record (.int .i64 1) g vr_1).toArray) (vc := #[vr_1]) rfl (shp (hS.own 0 rfl).slice).cells rfl (Nat.le_of_ble_eq_true rfl) rfl rfl)))) rfl ?_
   refine oM (vr_1) rfl rfl ?_
   refine oV (.int .i64 (r_2.length : Int)) (q_len ts_32 (shp (hS.own 0 rfl).slice) rfl rfl) rfl ?_
   refine oV (.bool (decide (0 < (r_2.length : Int)))) (q_gtr rfl rfl) rfl ?_
   refine HO.sto (want_none) rfl (st_storeAgg (c' := (c_api_Record (.int .i64 1) g vr_1).toArray) hS (i := 4) rfl ta_60 rfl rfl rfl (List.forall_mem_cons.2 ⟨rfl, (List.forall_mem_cons.2 ⟨rfl, (List.forall_mem_cons.2 ⟨rfl, (List.forall_mem_cons.2 ⟨rfl, (List.forall_mem_cons.2 ⟨rfl, (List.forall_mem_cons.2 ⟨rfl, (List.forall_mem_cons.2 ⟨rfl, (List.forall_mem_cons.2 ⟨rfl, (List.forall_mem_cons.2 ⟨rfl, (List.forall_mem_cons.2 ⟨rfl, (List.forall_mem_cons.2 ⟨rfl, (List.forall_mem_cons.2 ⟨rfl, (List.forall_mem_cons.2 ⟨rfl, (List.forall_mem_cons.2 ⟨rfl, (List.forall_mem_cons.2 ⟨rfl, (List.forall_mem_cons.2 ⟨rfl, (List.forall_mem_cons.2 ⟨rfl, (List.forall_mem_cons.2 ⟨rfl, (List.forall_mem_cons.2 ⟨(shp (hS.own 0 rfl).slice).one, (fun _ h => by cases h)⟩)⟩)⟩)⟩)⟩)⟩)⟩)⟩)⟩)⟩)⟩)⟩)⟩)⟩)⟩)⟩)⟩)⟩)⟩) (Nat.le_of_ble_eq_true rfl) rfl) ?_
   rintro h_10 ⟨hS, hk⟩
   replace hK := hK.trans hk
   replace hL_f_Sources := hL_f_Sources.kp hk
   replace hL_q_Sources := hL_q_Sources.kp hk
   replace hN_q_Records := hN_q_Records.kp hk
   replace hL_q_Records := hL_q_Records.kp hk
   refine oA (.bool (decide (0 < (r_2.length : Int)))) rfl rfl ?_
   refine HO.nil (thenQ_normal (?_))
   refine HW.ret (?_)
   refine ⟨.inr rfl, .tuple #[.agg (c_api_Record (.int .i64 1) g vr_1).toArray, .bool (decide (0 < (r_2.length : Int)))], res2 rfl (rca (cs := (c_api_Record (.int .i64 1) g vr_1)) ta_60 rfl rfl (Blk.cells (k := 19) (hS.box 4 rfl) rfl)) (rt rfl), ?_⟩
   replace hS : St F_4 (Ow.own 30 17 e_api_Addr vr_1 r_2 :: fr) h_10 := hS.perm2 [0] 5 rfl rfl
   exact ⟨F_4, 1, g.1, g.2, r_2, decide (0 < (r_2.length : Int)), vr_1, rfl, hK, hS, hL_f_Sources, hL_q_Sources, hN_q_Records, hL_q_Records, hM⟩
end Go.Wk
