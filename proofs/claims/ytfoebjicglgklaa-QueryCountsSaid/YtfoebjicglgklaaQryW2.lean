/- Walks of Query. -/
import Derived.Test.YtfoebjicglgklaaQryW1
set_option linter.unusedSimpArgs false
set_option linter.unusedVariables false
set_option linter.unusedSectionVars false
namespace Go.Wk
open Go.HL
open Go.Proofs hiding encI
variable [DM]

def query_left_tell_l1 (x_all : Int) (Q : Int → (List (T_api_Addr × Int)) → Prop) (K_1 : (List (T_api_Addr × Int)) → (List (T_api_Addr × Int)) → Prop) (x_1_2 : List (T_api_Addr × Int)) (rem_1 : List (T_api_Addr × Int)) : Prop :=
 (rem_1 = [] → ∃ cf_1 : T_api_Addr → Int → Bool, (∀ x0 x1, query_left_tell_1_W x0 x1 (fun r => r = cf_1 x0 x1)) ∧ (maps_DeleteFunc_map_api_Addr_int_api_Addr_int_W x_1_2 cf_1 (fun a0m_1 => Q (max (x_all - 1) 0) a0m_1))) ∧ (∀ (p_1 : T_api_Addr × Int) (rem_2 : List (T_api_Addr × Int)), List.Perm rem_1 (p_1 :: rem_2) → (I64 ((mget0 x_1_2 p_1.1) - 1)) ∧ (K_1 (mset x_1_2 p_1.1 ((mget0 x_1_2 p_1.1) - 1)) rem_2))
def query_left_tell_W (x_all : Int) (x_sources : List (T_api_Addr × Int)) (Q : Int → (List (T_api_Addr × Int)) → Prop) : Prop :=
 (I64 (x_all - 1)) ∧ (loopW (fun (K_1 : ((List (T_api_Addr × Int)) × List (T_api_Addr × Int)) → Prop) (s : (List (T_api_Addr × Int)) × List (T_api_Addr × Int)) => query_left_tell_l1 x_all Q (fun x_1_2 rem_1 => K_1 (x_1_2, rem_1)) s.1 s.2) (x_sources, x_sources))
set_option maxHeartbeats 40000000 in
set_option maxRecDepth 100000 in
theorem query_left_tell_walk {F : Fz} {fr : List Ow} {h0 : Heap} (x_all : Int) (x_sources : List (T_api_Addr × Int)) (bx : Nat) (rx_sources : Nat) (hS : St F (Ow.box bx 79 #[.int .i64 x_all, .map (some rx_sources)] :: Ow.map rx_sources (fun (x : T_api_Addr) => .agg (e_api_Addr x).toArray) kI x_sources :: fr) h0)  {Q : Int → (List (T_api_Addr × Int)) → Prop} (hM : query_left_tell_W x_all x_sources Q) :
  HC Try.prog 46 #[.pointer (some ⟨bx, 0, none⟩)] h0 fun u h' => ∃ (F' : Fz) (x_all_1 : Int) (xm_1 : List (T_api_Addr × Int)), u = .tuple #[] ∧ Kp F h0 F' h' ∧ St F' (Ow.box bx 79 #[.int .i64 x_all_1, .map (some rx_sources)] :: Ow.map rx_sources (fun (x : T_api_Addr) => .agg (e_api_Addr x).toArray) kI xm_1 :: fr) h' ∧ Q x_all_1 xm_1 := by
 unfold query_left_tell_W at hM
 have hK := Kp.refl F h0
 refine HC.of_HW (n := 35) Try.func46 rfl rfl (Nat.le_of_ble_eq_true rfl) ?_
 refine HW.seq ?_
 refine HW.region ?_
 refine oM (.pointer (some ⟨bx, 0, none⟩)) rfl rfl ?_
 refine oM (.pointer (some ⟨bx, 0, none⟩)) rfl rfl ?_
 refine oV (.pointer (some ⟨bx, 0, none⟩)) (q_nilCheck rfl) rfl ?_
 refine oV (.pointer (some ⟨bx, 0, none⟩)) (q_fieldAddr fa_79_0 rfl rfl) rfl ?_
 refine oV (.int .i64 x_all) (q_load to_3 rfl (Blk.cell (hS.box 0 rfl) rfl)) rfl ?_
 obtain ⟨ho_1, hM⟩ := hM
 refine oV (.int .i64 (x_all - 1)) (q_subN _ rfl rfl rfl ho_1.1 ho_1.2) rfl ?_
 refine oV (.int .i64 (max (x_all - 1) 0)) (q_max rfl rfl) rfl ?_
 refine oV (.pointer (some ⟨bx, 0, none⟩)) (q_nilCheck rfl) rfl ?_
 refine oV (.pointer (some ⟨bx, 0, none⟩)) (q_fieldAddr fa_79_0 rfl rfl) rfl ?_
 refine HO.sto (want_none) rfl (st_store (c' := #[.int .i64 (max (x_all - 1) 0), .map (some rx_sources)]) hS (i := 0) rfl to_3 rfl rfl rfl rfl (Nat.le_of_ble_eq_true rfl) rfl) ?_
 rintro h_1 ⟨hS, hk⟩
 replace hK := hK.trans hk
 refine HO.nil (thenQ_normal (?_))
 refine HW.seq ?_
 refine HW.seq ?_
 refine HW.region ?_
 refine oM (.pointer (some ⟨bx, 0, none⟩)) rfl rfl ?_
 refine oV (.pointer (some ⟨bx, 0, none⟩)) (q_nilCheck rfl) rfl ?_
 refine oV (.pointer (some ⟨bx, 1, none⟩)) (q_fieldAddr fa_79_1 rfl rfl) rfl ?_
 refine oV (.map (some rx_sources)) (q_load to_77 rfl (Blk.cell (hS.box 0 rfl) rfl)) rfl ?_
 refine HO.eff (want_none) rfl (st_range hS (i := 1) rfl Try.underlying77 rfl) ?_
 rintro _ h_2 ⟨it_1, rfl, hS, hk⟩
 replace hK := hK.trans hk
 refine HO.nil (thenQ_normal (?_))
 refine HW.block ?_
 obtain ⟨I_1, m_1, hI_1, hR_1⟩ := hM
 refine HW.loop (S := (List (T_api_Addr × Int)) × List (T_api_Addr × Int)) (fun s f h => match s with | (x_1_2, rem_1) => ∃ (F' : Fz), f 0 = .pointer (some ⟨bx, 0, none⟩) ∧ f 16 = .pointer (some ⟨it_1, 0, none⟩) ∧ Kp F h0 F' h ∧ St F' (Ow.box bx 79 #[.int .i64 (max (x_all - 1) 0), .map (some rx_sources)] :: Ow.iter it_1 rx_sources (fun (x : T_api_Addr) => .agg (e_api_Addr x).toArray) kI x_1_2 rem_1 :: fr) h ∧ I_1 (x_1_2, rem_1)) m_1 (x_sources, x_sources) ⟨F, rfl, rfl, hK, hS, hI_1⟩ ?_
 rintro ⟨x_1_2, rem_1⟩ f_1 h_3 ⟨F_1, e0, e16, hK, hS, hI0⟩
 obtain ⟨K_1, hKe_1⟩ : ∃ K : (List (T_api_Addr × Int)) → (List (T_api_Addr × Int)) → Prop, K = fun x_1_2' rem_1' => I_1 (x_1_2', rem_1') ∧ m_1 (x_1_2', rem_1') < m_1 (x_1_2, rem_1) := ⟨_, rfl⟩
 have hM : query_left_tell_l1 x_all Q K_1 x_1_2 rem_1 := by rw [hKe_1]; exact hR_1 (x_1_2, rem_1) hI0
 unfold query_left_tell_l1 at hM
 refine HW.fr [(0, .pointer (some ⟨bx, 0, none⟩)), (16, .pointer (some ⟨it_1, 0, none⟩))] ⟨e0, e16, trivial⟩ ?_
 refine HW.seq ?_
 refine HW.region ?_
 refine HO.eff (want_none) rfl (st_next hS (i := 1) rfl rfl) ?_
 rintro _ h_4 (⟨hrem, rfl, hEq⟩ | ⟨p_1, rem_2, hperm, rfl, hS, hk⟩)
 ·
  rw [hEq]
  replace hM := hM.1 hrem
  replace hS := hS.done 1 rfl
  refine oV (.bool false) (q_extract rfl rfl) rfl ?_
  refine HO.nil (thenQ_normal (?_))
  refine HW.seq ?_
  refine HW.condF rfl ?_
  refine HW.exit (thenQ_exit (thenQ_exit (blockQ_exit (thenQ_normal (?_)))))
  refine HW.region ?_
  refine oM (.pointer (some ⟨bx, 0, none⟩)) rfl rfl ?_
  refine oV (.pointer (some ⟨bx, 0, none⟩)) (q_nilCheck rfl) rfl ?_
  refine oV (.pointer (some ⟨bx, 1, none⟩)) (q_fieldAddr fa_79_1 rfl rfl) rfl ?_
  refine oV (.map (some rx_sources)) (q_load to_77 rfl (Blk.cell (hS.box 0 rfl) rfl)) rfl ?_
  obtain ⟨cf_1, hc_1, hM⟩ := hM
  have hF_1 : FnP Try.prog F_1 h_3 81 #[] #[] (fun x : T_api_Addr × Int => [.agg (e_api_Addr x.1).toArray, .int .i64 x.2]) (fun x => .bool (cf_1 x.1 x.2)) := FnP.of en_81 (fun x h' hk_ => @HC.mono ⟨true⟩ _ _ _ _ _ _ (@query_left_tell_1_walk ⟨true⟩ (allF h') [] h' x.1 x.2  (St.init h')  (fun r => r = cf_1 x.1 x.2) (hc_1 x.1 x.2)) (fun u h'' ⟨F', r, hu, k_, _, hr⟩ => ⟨by rw [hu, hr], F', k_⟩))
  replace hS : St F_1 (Ow.map rx_sources (fun (x : T_api_Addr) => .agg (e_api_Addr x).toArray) kI x_1_2 :: Ow.box bx 79 #[.int .i64 (max (x_all - 1) 0), .map (some rx_sources)] :: fr) h_3 := hS.perm2 [1, 0] 2 rfl rfl
  refine HO.call (want_none) rfl (ec en_80 rfl rfl) (maps_DeleteFunc_map_api_Addr_int_api_Addr_int_walk (fr := (Ow.box bx 79 #[.int .i64 (max (x_all - 1) 0), .map (some rx_sources)] :: fr)) x_1_2 cf_1 rx_sources 81 (#[]) (#[]) hS hF_1 hM) ?_
  rintro _ h_5 ⟨F_2, a0m_1, rfl, hk, hS, _, hM⟩
  replace hK := hK.trans hk
  refine HO.nil (?_)
  refine ⟨.inl rfl, .tuple #[], res0 rfl , ?_⟩
  replace hS : St F_2 (Ow.box bx 79 #[.int .i64 (max (x_all - 1) 0), .map (some rx_sources)] :: Ow.map rx_sources (fun (x : T_api_Addr) => .agg (e_api_Addr x).toArray) kI a0m_1 :: fr) h_5 := hS.perm2 [1, 0] 2 rfl rfl
  exact ⟨F_2, max (x_all - 1) 0, a0m_1, rfl, hK, hS, hM⟩
 ·
  replace hM := hM.2 p_1 rem_2 hperm
  replace hK := hK.trans hk
  refine oV (.bool true) (q_extract rfl rfl) rfl ?_
  refine HO.nil (thenQ_normal (?_))
  refine HW.seq ?_
  refine HW.condT rfl ?_
  refine HW.skip (thenQ_normal (?_))
  refine HW.block ?_
  refine HW.seq ?_
  refine HW.region ?_
  refine oV (.tuple #[.agg (e_api_Addr p_1.1).toArray, .int .i64 p_1.2]) (q_entry (hS.cu 1 rfl) rfl) rfl ?_
  refine oV (.agg (e_api_Addr p_1.1).toArray) (q_extract rfl rfl) rfl ?_
  refine HO.eff (want_none) rfl (st_alloc (c := (e_api_Addr (false, (default : Ba 16))).toArray) hS tz_30 rfl) ?_
  rintro _ h_6 ⟨b_1, rfl, hS, hk⟩
  replace hK := hK.trans hk
  refine HO.sto (want_none) rfl (st_storeAgg (c' := (e_api_Addr p_1.1).toArray) hS (i := 0) rfl ta_30 rfl rfl rfl (one_e_api_Addr _) (Nat.le_of_ble_eq_true rfl) rfl) ?_
  rintro h_7 ⟨hS, hk⟩
  replace hK := hK.trans hk
  refine HO.nil (thenQ_normal (?_))
  refine HW.regionA 10 mixed (fun h => (Blk h b_1 (.cells (e_api_Addr p_1.1).toArray 30 (0, 0))) ∧ (Blk h bx (.cells #[.int .i64 (max (x_all - 1) 0), .map (some rx_sources)] 79 (0, 0)))) [(9, fun h => (Phi h rx_sources (fun (x : T_api_Addr) => .agg (e_api_Addr x).toArray) kI p_1.1 (mget0 x_1_2 p_1.1)))] (by kernel_rfl) ?_
  refine HA.val (k := 0) (v := .pointer (some ⟨bx, 0, none⟩)) rfl rfl (by kernel_rfl) (by kernel_rfl) (want_none) rfl (fun _ ⟨c309, c307⟩ => q_move rfl) ?_
  refine HA.val (k := 1) (v := .pointer (some ⟨bx, 0, none⟩)) rfl rfl (by kernel_rfl) (by kernel_rfl) (want_none) rfl (fun _ ⟨c309, c307⟩ => q_nilCheck rfl) ?_
  refine HA.val (k := 2) (v := .pointer (some ⟨bx, 1, none⟩)) rfl rfl (by kernel_rfl) (by kernel_rfl) (want_none) rfl (fun _ ⟨c309, c307⟩ => q_fieldAddr fa_79_1 rfl rfl) ?_
  refine HA.val (k := 3) (v := .map (some rx_sources)) rfl rfl (by kernel_rfl) (by kernel_rfl) (want_none) rfl (fun _ ⟨c309, c307⟩ => q_load to_77 rfl (Blk.cell c307 rfl)) ?_
  refine HA.val (k := 4) (v := .agg (e_api_Addr p_1.1).toArray) rfl rfl (by kernel_rfl) (by kernel_rfl) (want_none) rfl (fun _ ⟨c309, c307⟩ => q_loadAgg (cs := (e_api_Addr p_1.1)) ta_30 rfl rfl (Blk.cells (k := 17) c309 rfl)) ?_
  refine Go.Wk.HA.valN (k := 5) (v := .int .i64 (mget0 x_1_2 p_1.1)) 0 9 (fun h => (Phi h rx_sources (fun (x : T_api_Addr) => .agg (e_api_Addr x).toArray) kI p_1.1 (mget0 x_1_2 p_1.1))) rfl rfl (by kernel_rfl) (by kernel_rfl) (want_none) rfl rfl (by kernel_rfl) (fun _ ⟨c309, c307⟩ c308 => q_lookupPhi (k := p_1.1) ka_30 tmk_77 rfl c308 rfl rfl) ?_
  obtain ⟨ho_2, hM⟩ := hM
  refine HA.val (k := 6) (v := .int .i64 ((mget0 x_1_2 p_1.1) - 1)) rfl rfl (by kernel_rfl) (by kernel_rfl) (want_none) rfl (fun _ ⟨c309, c307⟩ => q_subN _ rfl rfl rfl ho_2.1 ho_2.2) ?_
  refine HA.one (k := 7) ⟨⟨(hS.box 0 rfl), (hS.box 1 rfl)⟩, (at_now (Phi.of_cur (hS.cu 2 rfl)) (Go.Wk.at_nil _ _))⟩ (by kernel_rfl) ?_
  refine HS.eff rfl (want_none) rfl (st_mapEntryCur hS (i := 2) rfl ka_30 tmk_77 rfl rfl) ?_
  rintro _ h_8 ⟨born_1, rfl, hS, hk⟩
  replace hK := hK.trans hk
  refine HA.val (k := 8) (v := .int .i64 (born_1 : Int)) rfl rfl (by kernel_rfl) (by kernel_rfl) (want_none) rfl (fun _ ⟨c309, c307⟩ => q_extract rfl rfl) ?_
  refine HA.one (k := 9) ⟨⟨(hS.box 0 rfl), (hS.box 1 rfl)⟩, (at_now (Phi.of_iat (hS.ia 2 rfl)) (Go.Wk.at_nil _ _))⟩ (by kernel_rfl) ?_
  refine HS.sto rfl (want_none) rfl (st_entryStoreCur (v := (mget0 x_1_2 p_1.1) - 1) hS (i := 2) rfl rfl rfl rfl) ?_
  rintro h_9 ⟨hS, hk⟩
  replace hK := hK.trans hk
  refine HA.nil ⟨⟨(hS.box 0 rfl), (hS.box 1 rfl)⟩, (at_done (by kernel_rfl) (Go.Wk.at_nil _ _))⟩ (by kernel_rfl) (blockQ_normal (thenQ_normal (?_)))
  replace hS : St F_1 (Ow.box bx 79 #[.int .i64 (max (x_all - 1) 0), .map (some rx_sources)] :: Ow.iter it_1 rx_sources (fun (x : T_api_Addr) => .agg (e_api_Addr x).toArray) kI (mset x_1_2 p_1.1 ((mget0 x_1_2 p_1.1) - 1)) rem_2 :: fr) h_9 := hS.perm2 [1, 2] 3 rfl rfl
  rw [hKe_1] at hM
  exact ⟨(mset x_1_2 p_1.1 ((mget0 x_1_2 p_1.1) - 1), rem_2), ⟨F_1, rfl, rfl, hK, hS, hM.1⟩, hM.2⟩

def clock_Clock_Cut_string_W (c_at : List (Str × Int)) (key : Str) (Q : Bool → (List (Str × Int)) → Prop) : Prop :=
 Q ((mget c_at key).isSome) (mdel c_at key)
set_option maxHeartbeats 40000000 in
set_option maxRecDepth 100000 in
theorem clock_Clock_Cut_string_walk {F : Fz} {fr : List Ow} {h0 : Heap} (c_at : List (Str × Int)) (key : Str) (bc : Nat) (rc_at : Nat) (hS : St F (Ow.box bc 110 #[.map (some rc_at)] :: Ow.map rc_at kT kI c_at :: fr) h0)  {Q : Bool → (List (Str × Int)) → Prop} (hM : clock_Clock_Cut_string_W c_at key Q) :
  HC Try.prog 67 #[.pointer (some ⟨bc, 0, none⟩), .string (bs key)] h0 fun u h' => ∃ (F' : Fz) (r_1 : Bool) (cm_1 : List (Str × Int)), u = .bool r_1 ∧ Kp F h0 F' h' ∧ St F' (Ow.box bc 110 #[.map (some rc_at)] :: Ow.map rc_at kT kI cm_1 :: fr) h' ∧ Q r_1 cm_1 := by
 unfold clock_Clock_Cut_string_W at hM
 have hK := Kp.refl F h0
 refine HC.of_HW (n := 24) Try.func67 rfl rfl (Nat.le_of_ble_eq_true rfl) ?_
 refine HW.seq ?_
 refine HW.region ?_
 refine oA (.bool false) rfl rfl ?_
 refine HO.nil (thenQ_normal (?_))
 refine HW.seq ?_
 refine HW.seq ?_
 refine HW.region ?_
 refine oM (.pointer (some ⟨bc, 0, none⟩)) rfl rfl ?_
 refine oV (.bool false) (q_eqlPnil Try.underlying69 rfl rfl rfl) rfl ?_
 refine HO.nil (thenQ_normal (?_))
 refine HW.condF rfl ?_
 refine HW.skip (thenQ_normal (?_))
 refine HW.seq ?_
 refine HW.region ?_
 refine oM (.pointer (some ⟨bc, 0, none⟩)) rfl rfl ?_
 refine oV (.pointer (some ⟨bc, 0, none⟩)) (q_nilCheck rfl) rfl ?_
 refine oV (.pointer (some ⟨bc, 0, none⟩)) (q_fieldAddr fa_110_0 rfl rfl) rfl ?_
 refine oV (.map (some rc_at)) (q_load to_108 rfl (Blk.cell (hS.box 0 rfl) rfl)) rfl ?_
 refine oM (.string (bs key)) rfl rfl ?_
 refine oV (.tuple #[.int .i64 (mget0 c_at key), .bool ((mget c_at key).isSome)]) ((q_lookupOk (k := key) ka_9 tmk_108 (hS.mp 1 rfl) rfl rfl).of_eq (congrArg (fun v => Value.tuple #[v, _]) (mval0 (z := .int .i64 0) rfl))) rfl ?_
 refine oM (.tuple #[.int .i64 (mget0 c_at key), .bool ((mget c_at key).isSome)]) rfl rfl ?_
 refine oV (.int .i64 (mget0 c_at key)) (q_extract rfl rfl) rfl ?_
 refine oV (.bool ((mget c_at key).isSome)) (q_extract rfl rfl) rfl ?_
 refine oA (.int .i64 (mget0 c_at key)) rfl rfl ?_
 refine oA (.bool ((mget c_at key).isSome)) rfl rfl ?_
 refine HO.nil (thenQ_normal (?_))
 refine HW.seq ?_
 refine HW.region ?_
 refine oM (.pointer (some ⟨bc, 0, none⟩)) rfl rfl ?_
 refine oV (.pointer (some ⟨bc, 0, none⟩)) (q_nilCheck rfl) rfl ?_
 refine oV (.pointer (some ⟨bc, 0, none⟩)) (q_fieldAddr fa_110_0 rfl rfl) rfl ?_
 refine oV (.map (some rc_at)) (q_load to_108 rfl (Blk.cell (hS.box 0 rfl) rfl)) rfl ?_
 refine oM (.string (bs key)) rfl rfl ?_
 refine HO.eff (want_none) rfl (st_deleteK (k := key) hS (i := 1) rfl ka_9 tmk_108 rfl rfl rfl) ?_
 rintro _ h_1 ⟨rfl, hS, hk⟩
 replace hK := hK.trans hk
 refine HO.nil (thenQ_normal (?_))
 refine HW.seq ?_
 refine HW.region ?_
 refine oM (.bool ((mget c_at key).isSome)) rfl rfl ?_
 refine oA (.bool ((mget c_at key).isSome)) rfl rfl ?_
 refine HO.nil (thenQ_normal (?_))
 refine HW.ret (?_)
 refine ⟨.inr rfl, .bool ((mget c_at key).isSome), res1 rfl (rt rfl), ?_⟩
 exact ⟨F, (mget c_at key).isSome, mdel c_at key, rfl, hK, hS, hM⟩

def query_Queries_cancel_W (q_now : Int) (q_at_at : List (Str × Int)) (q_first : Int) (q_open : List (T_api_Addr × (Nat × Nat) × T_query_left)) (g : T_api_Addr) (Q : Bool → Int → (List (Str × Int)) → Int → (List (T_api_Addr × (Nat × Nat) × T_query_left)) → Prop) : Prop :=
 (((mget q_open g).isSome) = true → query_key_W g (fun r_2 => clock_Clock_Cut_string_W q_at_at r_2 (fun r_3 cm_1 => Q ((mget q_open g).isSome) q_now cm_1 q_first (mdel q_open g)))) ∧ (((mget q_open g).isSome) = false → Q ((mget q_open g).isSome) q_now q_at_at q_first (mdel q_open g))
set_option maxHeartbeats 40000000 in
set_option maxRecDepth 100000 in
theorem query_Queries_cancel_walk {F : Fz} {fr : List Ow} {h0 : Heap} (q_now : Int) (q_at_at : List (Str × Int)) (q_first : Int) (q_open : List (T_api_Addr × (Nat × Nat) × T_query_left)) (g : T_api_Addr) (bq : Nat) (bq_at : Nat) (rq_at_at : Nat) (rq_open : Nat) (hS : St F (Ow.box bq 73 #[.int .i64 q_now, .pointer (some ⟨bq_at, 0, none⟩), .int .i64 q_first, .map (some rq_open)] :: Ow.box bq_at 110 #[.map (some rq_at_at)] :: Ow.map rq_at_at kT kI q_at_at :: Ow.pm rq_open (fun (x : T_api_Addr) => .agg (e_api_Addr x).toArray) pv_query_left th_query_left q_open none :: fr) h0)  {Q : Bool → Int → (List (Str × Int)) → Int → (List (T_api_Addr × (Nat × Nat) × T_query_left)) → Prop} (hM : query_Queries_cancel_W q_now q_at_at q_first q_open g Q) :
  HC Try.prog 47 #[.pointer (some ⟨bq, 0, none⟩), .agg (e_api_Addr g).toArray] h0 fun u h' => ∃ (F' : Fz) (r_1 : Bool) (q_now_1 : Int) (qm_1 : List (Str × Int)) (q_first_1 : Int) (qm_2 : List (T_api_Addr × (Nat × Nat) × T_query_left)), u = .bool r_1 ∧ Kp F h0 F' h' ∧ St F' (Ow.box bq 73 #[.int .i64 q_now_1, .pointer (some ⟨bq_at, 0, none⟩), .int .i64 q_first_1, .map (some rq_open)] :: Ow.box bq_at 110 #[.map (some rq_at_at)] :: Ow.map rq_at_at kT kI qm_1 :: Ow.pm rq_open (fun (x : T_api_Addr) => .agg (e_api_Addr x).toArray) pv_query_left th_query_left qm_2 none :: fr) h' ∧ Q r_1 q_now_1 qm_1 q_first_1 qm_2 := by
 unfold query_Queries_cancel_W at hM
 have hK := Kp.refl F h0
 refine HC.of_HW (n := 30) Try.func47 rfl rfl (Nat.le_of_ble_eq_true rfl) ?_
 refine HW.seq ?_
 refine HW.region ?_
 refine HO.eff (want_none) rfl (st_box (c := (e_api_Addr g).toArray) (k' := 17) hS rfl rfl) ?_
 rintro _ h_1 ⟨b_1, rfl, hS, hk⟩
 replace hK := hK.trans hk
 refine oA (.bool false) rfl rfl ?_
 refine HO.nil (thenQ_normal (?_))
 refine HW.seq ?_
 refine HW.regionA 11 mixed (fun h => (Blk h b_1 (.cells (e_api_Addr g).toArray 30 (0, 0))) ∧ (Blk h bq (.cells #[.int .i64 q_now, .pointer (some ⟨bq_at, 0, none⟩), .int .i64 q_first, .map (some rq_open)] 73 (0, 0))) ∧ (Blk h bq_at (.cells #[.map (some rq_at_at)] 110 (0, 0))) ∧ (MapIs h rq_at_at kT kI q_at_at) ∧ (MapIs h rq_open (fun (x : T_api_Addr) => .agg (e_api_Addr x).toArray) (pmV (β := T_query_left) pv_query_left) q_open)) [] (by kernel_rfl) ?_
 refine HA.val (k := 0) (v := .pointer (some ⟨bq, 0, none⟩)) rfl rfl (by kernel_rfl) (by kernel_rfl) (want_none) rfl (fun _ ⟨c213, c1, c2, c3, c4⟩ => q_move rfl) ?_
 refine HA.val (k := 1) (v := .pointer (some ⟨bq, 0, none⟩)) rfl rfl (by kernel_rfl) (by kernel_rfl) (want_none) rfl (fun _ ⟨c213, c1, c2, c3, c4⟩ => q_nilCheck rfl) ?_
 refine HA.val (k := 2) (v := .pointer (some ⟨bq, 3, none⟩)) rfl rfl (by kernel_rfl) (by kernel_rfl) (want_none) rfl (fun _ ⟨c213, c1, c2, c3, c4⟩ => q_fieldAddr fa_73_3 rfl rfl) ?_
 refine HA.val (k := 3) (v := .map (some rq_open)) rfl rfl (by kernel_rfl) (by kernel_rfl) (want_none) rfl (fun _ ⟨c213, c1, c2, c3, c4⟩ => q_load to_71 rfl (Blk.cell c1 rfl)) ?_
 refine HA.val (k := 4) (v := .agg (e_api_Addr g).toArray) rfl rfl (by kernel_rfl) (by kernel_rfl) (want_none) rfl (fun _ ⟨c213, c1, c2, c3, c4⟩ => q_loadAgg (cs := (e_api_Addr g)) ta_30 rfl rfl (Blk.cells (k := 17) c213 rfl)) ?_
 refine HA.val (k := 5) (v := .tuple #[mval (pmV (β := T_query_left) pv_query_left) (.pointer none) q_open g, .bool ((mget q_open g).isSome)]) rfl rfl (by kernel_rfl) (by kernel_rfl) (want_none) rfl (fun _ ⟨c213, c1, c2, c3, c4⟩ => q_lookupOk (k := g) ka_30 tmk_71 c4 rfl rfl) ?_
 refine HA.val (k := 6) (v := .tuple #[mval (pmV (β := T_query_left) pv_query_left) (.pointer none) q_open g, .bool ((mget q_open g).isSome)]) rfl rfl (by kernel_rfl) (by kernel_rfl) (want_none) rfl (fun _ ⟨c213, c1, c2, c3, c4⟩ => q_move rfl) ?_
 refine HA.val (k := 7) (v := mval (pmV (β := T_query_left) pv_query_left) (.pointer none) q_open g) rfl rfl (by kernel_rfl) (by kernel_rfl) (want_none) rfl (fun _ ⟨c213, c1, c2, c3, c4⟩ => q_extract rfl rfl) ?_
 refine HA.val (k := 8) (v := .bool ((mget q_open g).isSome)) rfl rfl (by kernel_rfl) (by kernel_rfl) (want_none) rfl (fun _ ⟨c213, c1, c2, c3, c4⟩ => q_extract rfl rfl) ?_
 refine HA.val (k := 9) (v := mval (pmV (β := T_query_left) pv_query_left) (.pointer none) q_open g) rfl rfl (by kernel_rfl) (by kernel_rfl) (want_none) rfl (fun _ ⟨c213, c1, c2, c3, c4⟩ => q_assign rfl) ?_
 refine HA.val (k := 10) (v := .bool ((mget q_open g).isSome)) rfl rfl (by kernel_rfl) (by kernel_rfl) (want_none) rfl (fun _ ⟨c213, c1, c2, c3, c4⟩ => q_assign rfl) ?_
 refine HA.nil ⟨⟨(hS.box 0 rfl), (hS.box 1 rfl), (hS.box 2 rfl), (hS.mp 3 rfl), (hS.pmi 4 rfl).map⟩, (Go.Wk.at_nil _ _)⟩ (by kernel_rfl) (thenQ_normal (?_))
 refine HW.seq ?_
 refine HW.regionA 6 mixed (fun h => (Blk h b_1 (.cells (e_api_Addr g).toArray 30 (0, 0))) ∧ (Blk h bq (.cells #[.int .i64 q_now, .pointer (some ⟨bq_at, 0, none⟩), .int .i64 q_first, .map (some rq_open)] 73 (0, 0)))) [] (by kernel_rfl) ?_
 refine HA.val (k := 0) (v := .pointer (some ⟨bq, 0, none⟩)) rfl rfl (by kernel_rfl) (by kernel_rfl) (want_none) rfl (fun _ ⟨c213, c1⟩ => q_move rfl) ?_
 refine HA.val (k := 1) (v := .pointer (some ⟨bq, 0, none⟩)) rfl rfl (by kernel_rfl) (by kernel_rfl) (want_none) rfl (fun _ ⟨c213, c1⟩ => q_nilCheck rfl) ?_
 refine HA.val (k := 2) (v := .pointer (some ⟨bq, 3, none⟩)) rfl rfl (by kernel_rfl) (by kernel_rfl) (want_none) rfl (fun _ ⟨c213, c1⟩ => q_fieldAddr fa_73_3 rfl rfl) ?_
 refine HA.val (k := 3) (v := .map (some rq_open)) rfl rfl (by kernel_rfl) (by kernel_rfl) (want_none) rfl (fun _ ⟨c213, c1⟩ => q_load to_71 rfl (Blk.cell c1 rfl)) ?_
 refine HA.val (k := 4) (v := .agg (e_api_Addr g).toArray) rfl rfl (by kernel_rfl) (by kernel_rfl) (want_none) rfl (fun _ ⟨c213, c1⟩ => q_loadAgg (cs := (e_api_Addr g)) ta_30 rfl rfl (Blk.cells (k := 17) c213 rfl)) ?_
 refine HA.one (k := 5) ⟨⟨(hS.box 0 rfl), (hS.box 1 rfl)⟩, (Go.Wk.at_nil _ _)⟩ (by kernel_rfl) ?_
 refine HS.eff rfl (want_none) rfl (st_pmDelete (k := g) hS (i := 4) rfl ka_30 tmk_71 rfl rfl rfl) ?_
 rintro _ h_2 ⟨rfl, hS, hk⟩
 replace hK := hK.trans hk
 refine HA.nil ⟨⟨(hS.box 0 rfl), (hS.box 1 rfl)⟩, (Go.Wk.at_nil _ _)⟩ (by kernel_rfl) (thenQ_normal (?_))
 refine HW.seq ?_
 refine HW.seq ?_
 refine HW.region ?_
 refine oM (.bool ((mget q_open g).isSome)) rfl rfl ?_
 refine HO.nil (thenQ_normal (?_))
 refine HW.cond ((mget q_open g).isSome) rfl (fun c_1 => ?_) (fun c_1 => ?_)
 ·
  replace hM := hM.1 c_1
  refine HW.regionA 7 mixed (fun h => (Blk h b_1 (.cells (e_api_Addr g).toArray 30 (0, 0))) ∧ (Blk h bq (.cells #[.int .i64 q_now, .pointer (some ⟨bq_at, 0, none⟩), .int .i64 q_first, .map (some rq_open)] 73 (0, 0)))) [] (by kernel_rfl) ?_
  refine HA.val (k := 0) (v := .pointer (some ⟨bq, 0, none⟩)) rfl rfl (by kernel_rfl) (by kernel_rfl) (want_none) rfl (fun _ ⟨c213, c1⟩ => q_move rfl) ?_
  refine HA.val (k := 1) (v := .pointer (some ⟨bq, 0, none⟩)) rfl rfl (by kernel_rfl) (by kernel_rfl) (want_none) rfl (fun _ ⟨c213, c1⟩ => q_nilCheck rfl) ?_
  refine HA.val (k := 2) (v := .pointer (some ⟨bq, 1, none⟩)) rfl rfl (by kernel_rfl) (by kernel_rfl) (want_none) rfl (fun _ ⟨c213, c1⟩ => q_fieldAddr fa_73_1 rfl rfl) ?_
  refine HA.val (k := 3) (v := .pointer (some ⟨bq_at, 0, none⟩)) rfl rfl (by kernel_rfl) (by kernel_rfl) (want_none) rfl (fun _ ⟨c213, c1⟩ => q_load to_69 rfl (Blk.cell c1 rfl)) ?_
  refine HA.val (k := 4) (v := .agg (e_api_Addr g).toArray) rfl rfl (by kernel_rfl) (by kernel_rfl) (want_none) rfl (fun _ ⟨c213, c1⟩ => q_loadAgg (cs := (e_api_Addr g)) ta_30 rfl rfl (Blk.cells (k := 17) c213 rfl)) ?_
  refine HA.one (k := 5) ⟨⟨(hS.box 0 rfl), (hS.box 1 rfl)⟩, (Go.Wk.at_nil _ _)⟩ (by kernel_rfl) ?_
  refine HS.call rfl (want_none) rfl (ec en_41 rfl rfl) (query_key_walk (fr := (Ow.box b_1 30 (e_api_Addr g).toArray :: Ow.box bq 73 #[.int .i64 q_now, .pointer (some ⟨bq_at, 0, none⟩), .int .i64 q_first, .map (some rq_open)] :: Ow.box bq_at 110 #[.map (some rq_at_at)] :: Ow.map rq_at_at kT kI q_at_at :: Ow.pm rq_open (fun (x : T_api_Addr) => .agg (e_api_Addr x).toArray) pv_query_left th_query_left (mdel q_open g) none :: fr)) g hS hM) ?_
  rintro _ h_3 ⟨F_1, r_2, rfl, hk, hS, hM⟩
  replace hK := hK.trans hk
  refine HA.one (k := 6) ⟨⟨(hS.box 0 rfl), (hS.box 1 rfl)⟩, (Go.Wk.at_nil _ _)⟩ (by kernel_rfl) ?_
  replace hS : St F_1 (Ow.box bq_at 110 #[.map (some rq_at_at)] :: Ow.map rq_at_at kT kI q_at_at :: Ow.box b_1 30 (e_api_Addr g).toArray :: Ow.box bq 73 #[.int .i64 q_now, .pointer (some ⟨bq_at, 0, none⟩), .int .i64 q_first, .map (some rq_open)] :: Ow.pm rq_open (fun (x : T_api_Addr) => .agg (e_api_Addr x).toArray) pv_query_left th_query_left (mdel q_open g) none :: fr) h_3 := hS.perm2 [2, 3, 0, 1, 4] 5 rfl rfl
  refine HS.call rfl (want_none) rfl (ec en_67 rfl rfl) (clock_Clock_Cut_string_walk (fr := (Ow.box b_1 30 (e_api_Addr g).toArray :: Ow.box bq 73 #[.int .i64 q_now, .pointer (some ⟨bq_at, 0, none⟩), .int .i64 q_first, .map (some rq_open)] :: Ow.pm rq_open (fun (x : T_api_Addr) => .agg (e_api_Addr x).toArray) pv_query_left th_query_left (mdel q_open g) none :: fr)) q_at_at r_2 bq_at rq_at_at hS hM) ?_
  rintro _ h_4 ⟨F_2, r_3, cm_1, rfl, hk, hS, hM⟩
  replace hK := hK.trans hk
  refine HA.nil ⟨⟨(hS.box 2 rfl), (hS.box 3 rfl)⟩, (Go.Wk.at_nil _ _)⟩ (by kernel_rfl) (thenQ_normal (?_))
  refine HW.seq ?_
  refine HW.region ?_
  refine oM (.bool ((mget q_open g).isSome)) rfl rfl ?_
  refine oA (.bool ((mget q_open g).isSome)) rfl rfl ?_
  refine HO.nil (thenQ_normal (?_))
  refine HW.ret (?_)
  refine ⟨.inr rfl, .bool ((mget q_open g).isSome), res1 rfl (rt rfl), ?_⟩
  replace hS : St F_2 (Ow.box bq 73 #[.int .i64 q_now, .pointer (some ⟨bq_at, 0, none⟩), .int .i64 q_first, .map (some rq_open)] :: Ow.box bq_at 110 #[.map (some rq_at_at)] :: Ow.map rq_at_at kT kI cm_1 :: Ow.pm rq_open (fun (x : T_api_Addr) => .agg (e_api_Addr x).toArray) pv_query_left th_query_left (mdel q_open g) none :: fr) h_4 := hS.perm2 [3, 0, 1, 4] 5 rfl rfl
  exact ⟨F_2, (mget q_open g).isSome, q_now, cm_1, q_first, mdel q_open g, rfl, hK, hS, hM⟩
 ·
  replace hM := hM.2 c_1
  refine HW.skip (thenQ_normal (?_))
  refine HW.seq ?_
  refine HW.region ?_
  refine oM (.bool ((mget q_open g).isSome)) rfl rfl ?_
  refine oA (.bool ((mget q_open g).isSome)) rfl rfl ?_
  refine HO.nil (thenQ_normal (?_))
  refine HW.ret (?_)
  refine ⟨.inr rfl, .bool ((mget q_open g).isSome), res1 rfl (rt rfl), ?_⟩
  replace hS : St F (Ow.box bq 73 #[.int .i64 q_now, .pointer (some ⟨bq_at, 0, none⟩), .int .i64 q_first, .map (some rq_open)] :: Ow.box bq_at 110 #[.map (some rq_at_at)] :: Ow.map rq_at_at kT kI q_at_at :: Ow.pm rq_open (fun (x : T_api_Addr) => .agg (e_api_Addr x).toArray) pv_query_left th_query_left (mdel q_open g) none :: fr) h_2 := hS.perm2 [1, 2, 3, 4] 5 rfl rfl
  exact ⟨F, (mget q_open g).isSome, q_now, q_at_at, q_first, mdel q_open g, rfl, hK, hS, hM⟩

def query_Queries_Due_j2 (r_3 : List T_api_Addr) (q_0_2 : Int) (q_2_2 : Int) (out_1 : List T_api_Asked) (n_1 : Int) (K_1 : Int → (List (Str × Int)) → Int → (List (T_api_Addr × (Nat × Nat) × T_query_left)) → (List T_api_Asked) → Int → Prop) (r_0_1 : Bool) (r_1_1 : Ba 16) (r_17_1 : Bool) (r_18_1 : List T_api_Addr) (vr_18_1 : Value) (cm_1 : List (Str × Int)) (q_3_3 : List (T_api_Addr × (Nat × Nat) × T_query_left)) (b_5 : Bool) : Prop :=
 (b_5 = true → query_Queries_cancel_W q_0_2 cm_1 q_2_2 q_3_3 (gi r_3 n_1) (fun r_7 q_now_4 qm_7 q_first_4 qm_8 => (I64 (n_1 + 1)) ∧ (K_1 q_now_4 qm_7 q_first_4 qm_8 (out_1 ++ ([((r_0_1, r_1_1), r_17_1, (vr_18_1, r_18_1))] : List T_api_Asked)) (n_1 + 1)))) ∧ (b_5 = false → (I64 (n_1 + 1)) ∧ (K_1 q_0_2 cm_1 q_2_2 q_3_3 (out_1 ++ ([((r_0_1, r_1_1), r_17_1, (vr_18_1, r_18_1))] : List T_api_Asked)) (n_1 + 1)))
def query_Queries_Due_j1 (t : T_api_Tune) (r_1 : Int) (r_3 : List T_api_Addr) (q_0_2 : Int) (q_1_0_2 : List (Str × Int)) (q_2_2 : Int) (q_3_2 : List (T_api_Addr × (Nat × Nat) × T_query_left)) (out_1 : List T_api_Asked) (n_1 : Int) (K_1 : Int → (List (Str × Int)) → Int → (List (T_api_Addr × (Nat × Nat) × T_query_left)) → (List T_api_Asked) → Int → Prop) (b_3 : Bool) : Prop :=
 (b_3 = true → (I64 (n_1 + 1)) ∧ (K_1 q_0_2 q_1_0_2 q_2_2 q_3_2 out_1 (n_1 + 1))) ∧ (b_3 = false → (((mget q_3_2 (gi r_3 n_1)).isSome) = true → query_left_asked_W (((mget0 q_3_2 (gi r_3 n_1)).2).1) (((mget0 q_3_2 (gi r_3 n_1)).2).2) (gi r_3 n_1) (fun r_0_1 r_1_1 r_17_1 r_18_1 => ∀ vr_18_1 : Value, (((out_1.length + ([((r_0_1, r_1_1), r_17_1, (vr_18_1, r_18_1))] : List T_api_Asked).length) * 48 ≤ 140737488355328) ∧ ((I64 (r_1 + t.2.2.2.1)) ∧ (query_key_W (gi r_3 n_1) (fun r_5 => clock_Clock_Set_string_W q_1_0_2 r_5 (r_1 + t.2.2.2.1) (fun r_6 cm_1 => query_left_tell_W (((mget0 q_3_2 (gi r_3 n_1)).2).1) (((mget0 q_3_2 (gi r_3 n_1)).2).2) (fun x_all_1 xm_1 => (x_all_1 = 0 → query_Queries_Due_j2 r_3 q_0_2 q_2_2 out_1 n_1 K_1 r_0_1 r_1_1 r_17_1 r_18_1 vr_18_1 cm_1 (mset q_3_2 (gi r_3 n_1) ((mget0 q_3_2 (gi r_3 n_1)).1, (x_all_1, xm_1))) (decide ((xm_1.length : Int) = 0))) ∧ (¬ (x_all_1 = 0) → query_Queries_Due_j2 r_3 q_0_2 q_2_2 out_1 n_1 K_1 r_0_1 r_1_1 r_17_1 r_18_1 vr_18_1 cm_1 (mset q_3_2 (gi r_3 n_1) ((mget0 q_3_2 (gi r_3 n_1)).1, (x_all_1, xm_1))) false))))))))) ∧ (((mget q_3_2 (gi r_3 n_1)).isSome) = false → False))
def query_Queries_Due_l1 (t : T_api_Tune) (Q : Bool → (List T_api_Asked) → Int → (List (Str × Int)) → Int → (List (T_api_Addr × (Nat × Nat) × T_query_left)) → Prop) (r_1 : Int) (r_2 : Bool) (r_3 : List T_api_Addr) (K_1 : Int → (List (Str × Int)) → Int → (List (T_api_Addr × (Nat × Nat) × T_query_left)) → (List T_api_Asked) → Int → Prop) (q_0_2 : Int) (q_1_0_2 : List (Str × Int)) (q_2_2 : Int) (q_3_2 : List (T_api_Addr × (Nat × Nat) × T_query_left)) (out_1 : List T_api_Asked) (n_1 : Int) : Prop :=
 (n_1 < (r_3.length : Int) → ((0 : Int) ≤ n_1 ∧ n_1 < (r_3.length : Int)) ∧ (query_key_W (gi r_3 n_1) (fun r_4 => clock_Clock_At_string_W q_1_0_2 r_4 (fun r0_2 r1_2 => ((!r1_2) = true → query_Queries_Due_j1 t r_1 r_3 q_0_2 q_1_0_2 q_2_2 q_3_2 out_1 n_1 K_1 true) ∧ ((!r1_2) = false → query_Queries_Due_j1 t r_1 r_3 q_0_2 q_1_0_2 q_2_2 q_3_2 out_1 n_1 K_1 (decide (r_1 < r0_2))))))) ∧ (¬ (n_1 < (r_3.length : Int)) → Q r_2 out_1 q_0_2 q_1_0_2 q_2_2 q_3_2)
def query_Queries_Due_W (q_now : Int) (q_at_at : List (Str × Int)) (q_first : Int) (q_open : List (T_api_Addr × (Nat × Nat) × T_query_left)) (now : Int) (t : T_api_Tune) (Q : Bool → (List T_api_Asked) → Int → (List (Str × Int)) → Int → (List (T_api_Addr × (Nat × Nat) × T_query_left)) → Prop) : Prop :=
 query_Queries_settle_W q_now q_at_at q_first q_open now (fun r_1 q_now_2 qm_3 q_first_2 qm_4 => query_Queries_generals_W q_now_2 qm_3 q_first_2 qm_4 t (fun r_2 q_now_3 qm_5 q_first_3 qm_6 => query_Queries_groups_W q_now_3 qm_5 q_first_3 qm_6 (fun r_3 => loopW (fun (K_1 : (Int × (List (Str × Int)) × Int × (List (T_api_Addr × (Nat × Nat) × T_query_left)) × List T_api_Asked × Int) → Prop) (s : Int × (List (Str × Int)) × Int × (List (T_api_Addr × (Nat × Nat) × T_query_left)) × List T_api_Asked × Int) => query_Queries_Due_l1 t Q r_1 r_2 r_3 (fun q_0_2 q_1_0_2 q_2_2 q_3_2 out_1 n_1 => K_1 (q_0_2, q_1_0_2, q_2_2, q_3_2, out_1, n_1)) s.1 s.2.1 s.2.2.1 s.2.2.2.1 s.2.2.2.2.1 s.2.2.2.2.2) (q_now_3, qm_5, q_first_3, qm_6, [], 0))))
set_option maxHeartbeats 40000000 in
set_option maxRecDepth 100000 in
theorem query_Queries_Due_walk {F : Fz} {fr : List Ow} {h0 : Heap} (q_now : Int) (q_at_at : List (Str × Int)) (q_first : Int) (q_open : List (T_api_Addr × (Nat × Nat) × T_query_left)) (now : Int) (t : T_api_Tune) (bq : Nat) (bq_at : Nat) (rq_at_at : Nat) (rq_open : Nat) (hS : St F (Ow.box bq 73 #[.int .i64 q_now, .pointer (some ⟨bq_at, 0, none⟩), .int .i64 q_first, .map (some rq_open)] :: Ow.box bq_at 110 #[.map (some rq_at_at)] :: Ow.map rq_at_at kT kI q_at_at :: Ow.pm rq_open (fun (x : T_api_Addr) => .agg (e_api_Addr x).toArray) pv_query_left th_query_left q_open none :: fr) h0)  {Q : Bool → (List T_api_Asked) → Int → (List (Str × Int)) → Int → (List (T_api_Addr × (Nat × Nat) × T_query_left)) → Prop} (hM : query_Queries_Due_W q_now q_at_at q_first q_open now t Q) :
  HC Try.prog 16 #[.pointer (some ⟨bq, 0, none⟩), .int .i64 now, .agg (e_api_Tune t).toArray] h0 fun u h' => ∃ (F' : Fz) (r0_1 : Bool) (r1_1 : List T_api_Asked) (q_now_1 : Int) (qm_1 : List (Str × Int)) (q_first_1 : Int) (qm_2 : List (T_api_Addr × (Nat × Nat) × T_query_left)) (vr1_1 : Value), u = .tuple #[.bool r0_1, vr1_1] ∧ Kp F h0 F' h' ∧ St F' (Ow.own 34 19 e_api_Asked vr1_1 r1_1 :: Ow.box bq 73 #[.int .i64 q_now_1, .pointer (some ⟨bq_at, 0, none⟩), .int .i64 q_first_1, .map (some rq_open)] :: Ow.box bq_at 110 #[.map (some rq_at_at)] :: Ow.map rq_at_at kT kI qm_1 :: Ow.pm rq_open (fun (x : T_api_Addr) => .agg (e_api_Addr x).toArray) pv_query_left th_query_left qm_2 none :: fr) h' ∧ (NfL nf_api_Asked F' h' r1_1) ∧ Q r0_1 r1_1 q_now_1 qm_1 q_first_1 qm_2 := by
 unfold query_Queries_Due_W at hM
 have hK := Kp.refl F h0
 refine HC.of_HW (n := 91) Try.func16 rfl rfl (Nat.le_of_ble_eq_true rfl) ?_
 refine HW.seq ?_
 refine HW.region ?_
 refine HO.eff (want_none) rfl (st_box (c := (e_api_Tune t).toArray) (k' := 5) hS rfl rfl) ?_
 rintro _ h_1 ⟨b_1, rfl, hS, hk⟩
 replace hK := hK.trans hk
 refine oA (.bool false) rfl rfl ?_
 refine oA (.slice none 0 0) rfl rfl ?_
 refine HO.nil (thenQ_normal (?_))
 refine HW.seq ?_
 refine HW.region ?_
 refine oA (.slice none 0 0) rfl rfl ?_
 refine HO.nil (thenQ_normal (?_))
 refine HW.seq ?_
 refine HW.seq ?_
 refine HW.region ?_
 refine oM (.pointer (some ⟨bq, 0, none⟩)) rfl rfl ?_
 refine oV (.bool false) (q_eqlPnil Try.underlying22 rfl rfl rfl) rfl ?_
 refine HO.nil (thenQ_normal (?_))
 refine HW.condF rfl ?_
 refine HW.skip (thenQ_normal (?_))
 refine HW.seq ?_
 refine HW.region ?_
 refine oM (.pointer (some ⟨bq, 0, none⟩)) rfl rfl ?_
 refine oM (.int .i64 now) rfl rfl ?_
 replace hS : St F (Ow.box bq 73 #[.int .i64 q_now, .pointer (some ⟨bq_at, 0, none⟩), .int .i64 q_first, .map (some rq_open)] :: Ow.box bq_at 110 #[.map (some rq_at_at)] :: Ow.map rq_at_at kT kI q_at_at :: Ow.pm rq_open (fun (x : T_api_Addr) => .agg (e_api_Addr x).toArray) pv_query_left th_query_left q_open none :: Ow.box b_1 26 (e_api_Tune t).toArray :: fr) h_1 := hS.perm2 [1, 2, 3, 4, 0] 5 rfl rfl
 refine HO.call (want_none) rfl (ec en_35 rfl rfl) (query_Queries_settle_walk (fr := (Ow.box b_1 26 (e_api_Tune t).toArray :: fr)) q_now q_at_at q_first q_open now bq bq_at rq_at_at rq_open hS hM) ?_
 rintro _ h_2 ⟨F_1, r_1, q_now_2, qm_3, q_first_2, qm_4, rfl, hk, hS, hM⟩
 replace hK := hK.trans hk
 refine oA (.int .i64 r_1) rfl rfl ?_
 refine HO.nil (thenQ_normal (?_))
 refine HW.seq ?_
 refine HW.region ?_
 refine oM (.pointer (some ⟨bq, 0, none⟩)) rfl rfl ?_
 refine oV (.agg (e_api_Tune t).toArray) (q_loadAgg (cs := (e_api_Tune t)) ta_26 rfl rfl (Blk.cells (k := 5) (hS.box 4 rfl) rfl)) rfl ?_
 refine HO.call (want_none) rfl (ec en_44 rfl rfl) (query_Queries_generals_walk (fr := (Ow.box b_1 26 (e_api_Tune t).toArray :: fr)) q_now_2 qm_3 q_first_2 qm_4 t bq bq_at rq_at_at rq_open hS hM) ?_
 rintro _ h_3 ⟨F_2, r_2, q_now_3, qm_5, q_first_3, qm_6, rfl, hk, hS, hM⟩
 replace hK := hK.trans hk
 refine oA (.bool r_2) rfl rfl ?_
 refine HO.nil (thenQ_normal (?_))
 refine HW.seq ?_
 refine HW.seq ?_
 refine HW.region ?_
 refine oM (.pointer (some ⟨bq, 0, none⟩)) rfl rfl ?_
 replace hS : St F_2 (Ow.box bq 73 #[.int .i64 q_now_3, .pointer (some ⟨bq_at, 0, none⟩), .int .i64 q_first_3, .map (some rq_open)] :: Ow.box bq_at 110 #[.map (some rq_at_at)] :: Ow.map rq_at_at kT kI qm_5 :: Ow.pm rq_open (fun (x : T_api_Addr) => .agg (e_api_Addr x).toArray) pv_query_left th_query_left qm_6 none :: Ow.box b_1 26 (e_api_Tune t).toArray :: fr) h_3 := hS
 have hZ_1 := hS
 have hkz_1 := (hS.freeze).2
 replace hS := hS.freeze.1
 have hL_1 := hZ_1.lent
 replace hS : St (fun bz_ => F_2 bz_ ∨ (Ow.box bq 73 #[.int .i64 q_now_3, .pointer (some ⟨bq_at, 0, none⟩), .int .i64 q_first_3, .map (some rq_open)]).foot bz_) (Ow.box bq_at 110 #[.map (some rq_at_at)] :: Ow.map rq_at_at kT kI qm_5 :: Ow.pm rq_open (fun (x : T_api_Addr) => .agg (e_api_Addr x).toArray) pv_query_left th_query_left qm_6 none :: Ow.box b_1 26 (e_api_Tune t).toArray :: fr) h_3 := hS
 have hZ_2 := hS
 have hkz_2 := (hS.freeze).2
 replace hS := hS.freeze.1
 have hL_2 := hZ_2.lent
 replace hS : St (fun bz_ => (fun bz_ => F_2 bz_ ∨ (Ow.box bq 73 #[.int .i64 q_now_3, .pointer (some ⟨bq_at, 0, none⟩), .int .i64 q_first_3, .map (some rq_open)]).foot bz_) bz_ ∨ (Ow.box bq_at 110 #[.map (some rq_at_at)]).foot bz_) (Ow.map rq_at_at kT kI qm_5 :: Ow.pm rq_open (fun (x : T_api_Addr) => .agg (e_api_Addr x).toArray) pv_query_left th_query_left qm_6 none :: Ow.box b_1 26 (e_api_Tune t).toArray :: fr) h_3 := hS
 have hZ_3 := hS
 have hkz_3 := (hS.freeze).2
 replace hS := hS.freeze.1
 have hL_3 := hZ_3.lent
 replace hS : St (fun bz_ => (fun bz_ => (fun bz_ => F_2 bz_ ∨ (Ow.box bq 73 #[.int .i64 q_now_3, .pointer (some ⟨bq_at, 0, none⟩), .int .i64 q_first_3, .map (some rq_open)]).foot bz_) bz_ ∨ (Ow.box bq_at 110 #[.map (some rq_at_at)]).foot bz_) bz_ ∨ (Ow.map rq_at_at kT kI qm_5).foot bz_) (Ow.pm rq_open (fun (x : T_api_Addr) => .agg (e_api_Addr x).toArray) pv_query_left th_query_left qm_6 none :: Ow.box b_1 26 (e_api_Tune t).toArray :: fr) h_3 := hS
 have hZ_4 := hS
 have hkz_4 := (hS.freeze).2
 replace hS := hS.freeze.1
 have hL_4 := hZ_4.lent
 refine HO.call (want_none) rfl (ec en_42 rfl rfl) (query_Queries_groups_walk (fr := (Ow.box b_1 26 (e_api_Tune t).toArray :: fr)) q_now_3 qm_5 q_first_3 qm_6 bq bq_at rq_at_at rq_open hS (hL_3.kp hkz_4) ((hL_2.kp hkz_3).kp hkz_4) hL_4 (((hL_1.kp hkz_2).kp hkz_3).kp hkz_4) hM) ?_
 rintro vr_1 h_4 ⟨F_3, r_3, _, rfl, hk, hS, _, _, _, _, hM⟩
 obtain ⟨hS, hk⟩ := hZ_4.back hk hS
 obtain ⟨hS, hk⟩ := hZ_3.back hk hS
 obtain ⟨hS, hk⟩ := hZ_2.back hk hS
 obtain ⟨hS, hk⟩ := hZ_1.back hk hS
 generalize (fun bz_ => (fun bz_ => (fun bz_ => (fun bz_ => F_3 bz_ ∧ ¬ (Ow.pm rq_open (fun (x : T_api_Addr) => .agg (e_api_Addr x).toArray) pv_query_left th_query_left qm_6 none).foot bz_) bz_ ∧ ¬ (Ow.map rq_at_at kT kI qm_5).foot bz_) bz_ ∧ ¬ (Ow.box bq_at 110 #[.map (some rq_at_at)]).foot bz_) bz_ ∧ ¬ (Ow.box bq 73 #[.int .i64 q_now_3, .pointer (some ⟨bq_at, 0, none⟩), .int .i64 q_first_3, .map (some rq_open)]).foot bz_) = F_4 at hS hk
 replace hK := hK.trans hk
 refine oV (.int .i64 (r_3.length : Int)) (q_len ts_32 (shp (hS.own 4 rfl).slice) rfl rfl) rfl ?_
 refine oM (.int .i64 0) rfl rfl ?_
 refine HO.nil (thenQ_normal (?_))
 refine HW.block ?_
 obtain ⟨I_1, m_1, hI_1, hR_1⟩ := hM
 replace hS := hS.nilOwn 34 19 e_api_Asked
 have hN_3 : NfL nf_api_Asked F_4 h_4 ([] : List T_api_Asked) := NfL.nil _ _ _
 replace hS : St F_4 (Ow.box bq 73 #[.int .i64 q_now_3, .pointer (some ⟨bq_at, 0, none⟩), .int .i64 q_first_3, .map (some rq_open)] :: Ow.box bq_at 110 #[.map (some rq_at_at)] :: Ow.map rq_at_at kT kI qm_5 :: Ow.pm rq_open (fun (x : T_api_Addr) => .agg (e_api_Addr x).toArray) pv_query_left th_query_left qm_6 none :: Ow.box b_1 26 (e_api_Tune t).toArray :: Ow.own 34 19 e_api_Asked (.slice none 0 0) ([] : List T_api_Asked) :: Ow.own 30 17 e_api_Addr vr_1 r_3 :: fr) h_4 := hS.perm2 [1, 2, 3, 4, 6, 0, 5] 7 rfl rfl
 refine HW.loop (S := Int × (List (Str × Int)) × Int × (List (T_api_Addr × (Nat × Nat) × T_query_left)) × List T_api_Asked × Int) (fun s f h => match s with | (q_0_2, q_1_0_2, q_2_2, q_3_2, out_1, n_1) => ∃ (F' : Fz) (vout_1 : Value), f 0 = .pointer (some ⟨bq, 0, none⟩) ∧ f 1 = .int .i64 r_1 ∧ f 5 = .pointer (some ⟨b_1, 0, none⟩) ∧ f 6 = .bool false ∧ f 7 = .slice none 0 0 ∧ f 8 = vout_1 ∧ f 9 = .bool r_2 ∧ f 24 = vr_1 ∧ f 25 = .int .i64 (r_3.length : Int) ∧ f 26 = .int .i64 n_1 ∧ Kp F h0 F' h ∧ St F' (Ow.box bq 73 #[.int .i64 q_0_2, .pointer (some ⟨bq_at, 0, none⟩), .int .i64 q_2_2, .map (some rq_open)] :: Ow.box bq_at 110 #[.map (some rq_at_at)] :: Ow.map rq_at_at kT kI q_1_0_2 :: Ow.pm rq_open (fun (x : T_api_Addr) => .agg (e_api_Addr x).toArray) pv_query_left th_query_left q_3_2 none :: Ow.box b_1 26 (e_api_Tune t).toArray :: Ow.own 34 19 e_api_Asked vout_1 out_1 :: Ow.own 30 17 e_api_Addr vr_1 r_3 :: fr) h ∧ (NfL nf_api_Asked F' h out_1) ∧ I_1 (q_0_2, q_1_0_2, q_2_2, q_3_2, out_1, n_1)) m_1 (q_now_3, qm_5, q_first_3, qm_6, [], 0) ⟨F_4, .slice none 0 0, rfl, rfl, rfl, rfl, rfl, rfl, rfl, rfl, rfl, rfl, hK, hS, hN_3, hI_1⟩ ?_
 rintro ⟨q_0_2, q_1_0_2, q_2_2, q_3_2, out_1, n_1⟩ f_1 h_5 ⟨F_5, vout_1, e0, e1, e5, e6, e7, e8, e9, e24, e25, e26, hK, hS, hN_2, hI0⟩
 obtain ⟨K_1, hKe_1⟩ : ∃ K : Int → (List (Str × Int)) → Int → (List (T_api_Addr × (Nat × Nat) × T_query_left)) → (List T_api_Asked) → Int → Prop, K = fun q_0_2' q_1_0_2' q_2_2' q_3_2' out_1' n_1' => I_1 (q_0_2', q_1_0_2', q_2_2', q_3_2', out_1', n_1') ∧ m_1 (q_0_2', q_1_0_2', q_2_2', q_3_2', out_1', n_1') < m_1 (q_0_2, q_1_0_2, q_2_2, q_3_2, out_1, n_1) := ⟨_, rfl⟩
 have hM : query_Queries_Due_l1 t Q r_1 r_2 r_3 K_1 q_0_2 q_1_0_2 q_2_2 q_3_2 out_1 n_1 := by rw [hKe_1]; exact hR_1 (q_0_2, q_1_0_2, q_2_2, q_3_2, out_1, n_1) hI0
 unfold query_Queries_Due_l1 at hM
 refine HW.fr [(0, .pointer (some ⟨bq, 0, none⟩)), (1, .int .i64 r_1), (5, .pointer (some ⟨b_1, 0, none⟩)), (6, .bool false), (7, .slice none 0 0), (8, vout_1), (9, .bool r_2), (24, vr_1), (25, .int .i64 (r_3.length : Int)), (26, .int .i64 n_1)] ⟨e0, e1, e5, e6, e7, e8, e9, e24, e25, e26, trivial⟩ ?_
 refine HW.seq ?_
 refine HW.region ?_
 refine oV (.bool (decide (n_1 < (r_3.length : Int)))) (q_lss rfl rfl) rfl ?_
 refine HO.nil (thenQ_normal (?_))
 refine HW.seq ?_
 refine HW.cond (decide (n_1 < (r_3.length : Int))) rfl (fun c_1 => ?_) (fun c_1 => ?_)
 ·
  replace hM := hM.1 (of_decide_eq_true c_1)
  refine HW.skip (thenQ_normal (?_))
  refine HW.seq ?_
  refine HW.block ?_
  refine HW.seq ?_
  refine HW.region ?_
  obtain ⟨ho_1, hM⟩ := hM
  refine oV (elemPtr 17 vr_1 (n_1).toNat) (q_idx ts_32 (hS.own 6 rfl).slice rfl rfl ho_1) rfl ?_
  refine oV (.agg (e_api_Addr (gi r_3 n_1)).toArray) (q_ldElemAgg (cs := (e_api_Addr (gi r_3 n_1))) ta_30 (hS.own 6 rfl).slice rfl ho_1 rfl) rfl ?_
  refine HO.eff (want_none) rfl (st_alloc (c := (e_api_Addr (false, (default : Ba 16))).toArray) hS tz_30 rfl) ?_
  rintro _ h_6 ⟨b_2, rfl, hS, hk⟩
  replace hK := hK.trans hk
  replace hN_2 := hN_2.kp hk
  refine HO.sto (want_none) rfl (st_storeAgg (c' := (e_api_Addr (gi r_3 n_1)).toArray) hS (i := 0) rfl ta_30 rfl rfl rfl (one_e_api_Addr _) (Nat.le_of_ble_eq_true rfl) rfl) ?_
  rintro h_7 ⟨hS, hk⟩
  replace hK := hK.trans hk
  replace hN_2 := hN_2.kp hk
  refine HO.nil (thenQ_normal (?_))
  refine HW.seq ?_
  refine HW.seq ?_
  refine HW.regionA 12 mixed (fun h => (Blk h b_2 (.cells (e_api_Addr (gi r_3 n_1)).toArray 30 (0, 0))) ∧ (Blk h bq (.cells #[.int .i64 q_0_2, .pointer (some ⟨bq_at, 0, none⟩), .int .i64 q_2_2, .map (some rq_open)] 73 (0, 0)))) [] (by kernel_rfl) ?_
  refine HA.val (k := 0) (v := .pointer (some ⟨bq, 0, none⟩)) rfl rfl (by kernel_rfl) (by kernel_rfl) (want_none) rfl (fun _ ⟨c374, c366⟩ => q_move rfl) ?_
  refine HA.val (k := 1) (v := .pointer (some ⟨bq, 0, none⟩)) rfl rfl (by kernel_rfl) (by kernel_rfl) (want_none) rfl (fun _ ⟨c374, c366⟩ => q_nilCheck rfl) ?_
  refine HA.val (k := 2) (v := .pointer (some ⟨bq, 1, none⟩)) rfl rfl (by kernel_rfl) (by kernel_rfl) (want_none) rfl (fun _ ⟨c374, c366⟩ => q_fieldAddr fa_73_1 rfl rfl) ?_
  refine HA.val (k := 3) (v := .pointer (some ⟨bq_at, 0, none⟩)) rfl rfl (by kernel_rfl) (by kernel_rfl) (want_none) rfl (fun _ ⟨c374, c366⟩ => q_load to_69 rfl (Blk.cell c366 rfl)) ?_
  refine HA.val (k := 4) (v := .agg (e_api_Addr (gi r_3 n_1)).toArray) rfl rfl (by kernel_rfl) (by kernel_rfl) (want_none) rfl (fun _ ⟨c374, c366⟩ => q_loadAgg (cs := (e_api_Addr (gi r_3 n_1))) ta_30 rfl rfl (Blk.cells (k := 17) c374 rfl)) ?_
  refine HA.one (k := 5) ⟨⟨(hS.box 0 rfl), (hS.box 1 rfl)⟩, (Go.Wk.at_nil _ _)⟩ (by kernel_rfl) ?_
  refine HS.call rfl (want_none) rfl (ec en_41 rfl rfl) (query_key_walk (fr := (Ow.box b_2 30 (e_api_Addr (gi r_3 n_1)).toArray :: Ow.box bq 73 #[.int .i64 q_0_2, .pointer (some ⟨bq_at, 0, none⟩), .int .i64 q_2_2, .map (some rq_open)] :: Ow.box bq_at 110 #[.map (some rq_at_at)] :: Ow.map rq_at_at kT kI q_1_0_2 :: Ow.pm rq_open (fun (x : T_api_Addr) => .agg (e_api_Addr x).toArray) pv_query_left th_query_left q_3_2 none :: Ow.box b_1 26 (e_api_Tune t).toArray :: Ow.own 34 19 e_api_Asked vout_1 out_1 :: Ow.own 30 17 e_api_Addr vr_1 r_3 :: fr)) (gi r_3 n_1) hS hM) ?_
  rintro _ h_8 ⟨F_6, r_4, rfl, hk, hS, hM⟩
  replace hK := hK.trans hk
  replace hN_2 := hN_2.kp hk
  refine HA.one (k := 6) ⟨⟨(hS.box 0 rfl), (hS.box 1 rfl)⟩, (Go.Wk.at_nil _ _)⟩ (by kernel_rfl) ?_
  replace hS : St F_6 (Ow.box bq_at 110 #[.map (some rq_at_at)] :: Ow.box b_2 30 (e_api_Addr (gi r_3 n_1)).toArray :: Ow.box bq 73 #[.int .i64 q_0_2, .pointer (some ⟨bq_at, 0, none⟩), .int .i64 q_2_2, .map (some rq_open)] :: Ow.map rq_at_at kT kI q_1_0_2 :: Ow.pm rq_open (fun (x : T_api_Addr) => .agg (e_api_Addr x).toArray) pv_query_left th_query_left q_3_2 none :: Ow.box b_1 26 (e_api_Tune t).toArray :: Ow.own 34 19 e_api_Asked vout_1 out_1 :: Ow.own 30 17 e_api_Addr vr_1 r_3 :: fr) h_8 := hS.perm2 [2, 0, 1, 3, 4, 5, 6, 7] 8 rfl rfl
  have hZ_5 := hS
  have hkz_5 := (hS.freeze).2
  replace hS := hS.freeze.1
  have hL_5 := hZ_5.lent
  replace hS : St (fun bz_ => F_6 bz_ ∨ (Ow.box bq_at 110 #[.map (some rq_at_at)]).foot bz_) (Ow.map rq_at_at kT kI q_1_0_2 :: Ow.box b_2 30 (e_api_Addr (gi r_3 n_1)).toArray :: Ow.box bq 73 #[.int .i64 q_0_2, .pointer (some ⟨bq_at, 0, none⟩), .int .i64 q_2_2, .map (some rq_open)] :: Ow.pm rq_open (fun (x : T_api_Addr) => .agg (e_api_Addr x).toArray) pv_query_left th_query_left q_3_2 none :: Ow.box b_1 26 (e_api_Tune t).toArray :: Ow.own 34 19 e_api_Asked vout_1 out_1 :: Ow.own 30 17 e_api_Addr vr_1 r_3 :: fr) h_8 := hS.perm2 [2, 0, 1, 3, 4, 5, 6] 7 rfl rfl
  have hZ_6 := hS
  have hkz_6 := (hS.freeze).2
  replace hS := hS.freeze.1
  have hL_6 := hZ_6.lent
  refine HS.call rfl (want_none) rfl (ec en_45 rfl rfl) (clock_Clock_At_string_walk (fr := (Ow.box b_2 30 (e_api_Addr (gi r_3 n_1)).toArray :: Ow.box bq 73 #[.int .i64 q_0_2, .pointer (some ⟨bq_at, 0, none⟩), .int .i64 q_2_2, .map (some rq_open)] :: Ow.pm rq_open (fun (x : T_api_Addr) => .agg (e_api_Addr x).toArray) pv_query_left th_query_left q_3_2 none :: Ow.box b_1 26 (e_api_Tune t).toArray :: Ow.own 34 19 e_api_Asked vout_1 out_1 :: Ow.own 30 17 e_api_Addr vr_1 r_3 :: fr)) q_1_0_2 r_4 bq_at rq_at_at hS hL_6 (hL_5.kp hkz_6) hM) ?_
  rintro _ h_9 ⟨F_7, r0_2, r1_2, rfl, hk, hS, _, _, hM⟩
  obtain ⟨hS, hk⟩ := hZ_6.back hk hS
  obtain ⟨hS, hk⟩ := hZ_5.back hk hS
  generalize (fun bz_ => (fun bz_ => F_7 bz_ ∧ ¬ (Ow.map rq_at_at kT kI q_1_0_2).foot bz_) bz_ ∧ ¬ (Ow.box bq_at 110 #[.map (some rq_at_at)]).foot bz_) = F_8 at hS hk
  replace hK := hK.trans hk
  replace hN_2 := hN_2.kp hk
  refine HA.val (k := 7) (v := .tuple #[.int .i64 r0_2, .bool r1_2]) rfl rfl (by kernel_rfl) (by kernel_rfl) (want_none) rfl (fun _ ⟨c374, c366⟩ => q_move rfl) ?_
  refine HA.val (k := 8) (v := .int .i64 r0_2) rfl rfl (by kernel_rfl) (by kernel_rfl) (want_none) rfl (fun _ ⟨c374, c366⟩ => q_extract rfl rfl) ?_
  refine HA.val (k := 9) (v := .bool r1_2) rfl rfl (by kernel_rfl) (by kernel_rfl) (want_none) rfl (fun _ ⟨c374, c366⟩ => q_extract rfl rfl) ?_
  refine HA.val (k := 10) (v := .int .i64 r0_2) rfl rfl (by kernel_rfl) (by kernel_rfl) (want_none) rfl (fun _ ⟨c374, c366⟩ => q_assign rfl) ?_
  refine HA.val (k := 11) (v := .bool r1_2) rfl rfl (by kernel_rfl) (by kernel_rfl) (want_none) rfl (fun _ ⟨c374, c366⟩ => q_assign rfl) ?_
  refine HA.nil ⟨⟨(hS.box 2 rfl), (hS.box 3 rfl)⟩, (Go.Wk.at_nil _ _)⟩ (by kernel_rfl) (thenQ_normal (?_))
  refine HW.seq_mid (fun f h => ∃ (F' : Fz) (b_3 : Bool), f 0 = .pointer (some ⟨bq, 0, none⟩) ∧ f 1 = .int .i64 r_1 ∧ f 5 = .pointer (some ⟨b_1, 0, none⟩) ∧ f 6 = .bool false ∧ f 7 = .slice none 0 0 ∧ f 8 = vout_1 ∧ f 9 = .bool r_2 ∧ f 11 = .pointer (some ⟨b_2, 0, none⟩) ∧ f 24 = vr_1 ∧ f 25 = .int .i64 (r_3.length : Int) ∧ f 26 = .int .i64 n_1 ∧ f 46 = .bool b_3 ∧ Kp F h0 F' h ∧ St F' (Ow.box bq 73 #[.int .i64 q_0_2, .pointer (some ⟨bq_at, 0, none⟩), .int .i64 q_2_2, .map (some rq_open)] :: Ow.box bq_at 110 #[.map (some rq_at_at)] :: Ow.map rq_at_at kT kI q_1_0_2 :: Ow.pm rq_open (fun (x : T_api_Addr) => .agg (e_api_Addr x).toArray) pv_query_left th_query_left q_3_2 none :: Ow.box b_1 26 (e_api_Tune t).toArray :: Ow.own 34 19 e_api_Asked vout_1 out_1 :: Ow.box b_2 30 (e_api_Addr (gi r_3 n_1)).toArray :: Ow.own 30 17 e_api_Addr vr_1 r_3 :: fr) h ∧ (NfL nf_api_Asked F' h out_1) ∧ query_Queries_Due_j1 t r_1 r_3 q_0_2 q_1_0_2 q_2_2 q_3_2 out_1 n_1 K_1 b_3) ?_ ?_
  ·
   refine HW.region ?_
   refine oM (.bool r1_2) rfl rfl ?_
   refine oV (.bool (!r1_2)) (q_not rfl) rfl ?_
   refine oM (.bool (!r1_2)) rfl rfl ?_
   rcases Bool.eq_false_or_eq_true (!r1_2) with c_2 | c_2
   ·
    replace hM := hM.1 c_2
    refine HO.past (past_by rfl rfl c_2) rfl ?_
    refine HO.past (past_by rfl rfl c_2) rfl ?_
    refine HO.past (past_by rfl rfl c_2) rfl ?_
    refine oV (.bool true) (q_pickK true rfl c_2 rfl) rfl ?_
    refine HO.nil (thenQ_normal (?_))
    replace hS : St F_8 (Ow.box bq 73 #[.int .i64 q_0_2, .pointer (some ⟨bq_at, 0, none⟩), .int .i64 q_2_2, .map (some rq_open)] :: Ow.box bq_at 110 #[.map (some rq_at_at)] :: Ow.map rq_at_at kT kI q_1_0_2 :: Ow.pm rq_open (fun (x : T_api_Addr) => .agg (e_api_Addr x).toArray) pv_query_left th_query_left q_3_2 none :: Ow.box b_1 26 (e_api_Tune t).toArray :: Ow.own 34 19 e_api_Asked vout_1 out_1 :: Ow.box b_2 30 (e_api_Addr (gi r_3 n_1)).toArray :: Ow.own 30 17 e_api_Addr vr_1 r_3 :: fr) h_9 := hS.perm2 [3, 0, 1, 4, 5, 6, 2, 7] 8 rfl rfl
    exact ⟨F_8, true, rfl, rfl, rfl, rfl, rfl, rfl, rfl, rfl, rfl, rfl, rfl, rfl, hK, hS, hN_2, hM⟩
   ·
    replace hM := hM.2 c_2
    refine HO.val (v := .int .i64 r0_2) (want_by rfl rfl c_2) rfl (q_move rfl) ?_
    refine HO.val (v := .int .i64 r_1) (want_by rfl rfl c_2) rfl (q_move rfl) ?_
    refine HO.val (v := .bool (decide (r_1 < r0_2))) (want_by rfl rfl c_2) rfl (q_gtr rfl rfl) ?_
    refine oV (.bool (decide (r_1 < r0_2))) (q_pickK false rfl c_2 rfl) rfl ?_
    refine HO.nil (thenQ_normal (?_))
    replace hS : St F_8 (Ow.box bq 73 #[.int .i64 q_0_2, .pointer (some ⟨bq_at, 0, none⟩), .int .i64 q_2_2, .map (some rq_open)] :: Ow.box bq_at 110 #[.map (some rq_at_at)] :: Ow.map rq_at_at kT kI q_1_0_2 :: Ow.pm rq_open (fun (x : T_api_Addr) => .agg (e_api_Addr x).toArray) pv_query_left th_query_left q_3_2 none :: Ow.box b_1 26 (e_api_Tune t).toArray :: Ow.own 34 19 e_api_Asked vout_1 out_1 :: Ow.box b_2 30 (e_api_Addr (gi r_3 n_1)).toArray :: Ow.own 30 17 e_api_Addr vr_1 r_3 :: fr) h_9 := hS.perm2 [3, 0, 1, 4, 5, 6, 2, 7] 8 rfl rfl
    exact ⟨F_8, decide (r_1 < r0_2), rfl, rfl, rfl, rfl, rfl, rfl, rfl, rfl, rfl, rfl, rfl, rfl, hK, hS, hN_2, hM⟩
  ·
   rintro f_2 h_10 ⟨F_9, b_3, e0, e1, e5, e6, e7, e8, e9, e11, e24, e25, e26, e46, hK, hS, hN_2, hM⟩
   unfold query_Queries_Due_j1 at hM
   refine HW.fr [(0, .pointer (some ⟨bq, 0, none⟩)), (1, .int .i64 r_1), (5, .pointer (some ⟨b_1, 0, none⟩)), (6, .bool false), (7, .slice none 0 0), (8, vout_1), (9, .bool r_2), (11, .pointer (some ⟨b_2, 0, none⟩)), (24, vr_1), (25, .int .i64 (r_3.length : Int)), (26, .int .i64 n_1), (46, .bool b_3)] ⟨e0, e1, e5, e6, e7, e8, e9, e11, e24, e25, e26, e46, trivial⟩ ?_
   refine HW.cond b_3 rfl (fun c_3 => ?_) (fun c_3 => ?_)
   ·
    replace hM := hM.1 c_3
    refine HW.exit (thenQ_exit (blockQ_exit (thenQ_normal (?_))))
    refine HW.region ?_
    obtain ⟨ho_2, hM⟩ := hM
    refine oV (.int .i64 (n_1 + 1)) (q_addN _ rfl rfl rfl ho_2.1 ho_2.2) rfl ?_
    refine oM (.int .i64 (n_1 + 1)) rfl rfl ?_
    refine HO.nil (thenQ_normal (?_))
    replace hS : St F_9 (Ow.box bq 73 #[.int .i64 q_0_2, .pointer (some ⟨bq_at, 0, none⟩), .int .i64 q_2_2, .map (some rq_open)] :: Ow.box bq_at 110 #[.map (some rq_at_at)] :: Ow.map rq_at_at kT kI q_1_0_2 :: Ow.pm rq_open (fun (x : T_api_Addr) => .agg (e_api_Addr x).toArray) pv_query_left th_query_left q_3_2 none :: Ow.box b_1 26 (e_api_Tune t).toArray :: Ow.own 34 19 e_api_Asked vout_1 out_1 :: Ow.own 30 17 e_api_Addr vr_1 r_3 :: fr) h_10 := hS.perm2 [0, 1, 2, 3, 4, 5, 7] 8 rfl rfl
    rw [hKe_1] at hM
    exact ⟨(q_0_2, q_1_0_2, q_2_2, q_3_2, out_1, n_1 + 1), ⟨F_9, vout_1, rfl, rfl, rfl, rfl, rfl, rfl, rfl, rfl, rfl, rfl, hK, hS, hN_2, hM.1⟩, hM.2⟩
   ·
    replace hM := hM.2 c_3
    refine HW.skip (thenQ_normal (?_))
    refine HW.seq ?_
    refine HW.regionA 7 mixed (fun h => (NfI nf_api_Asked h out_1) ∧ (Blk h bq (.cells #[.int .i64 q_0_2, .pointer (some ⟨bq_at, 0, none⟩), .int .i64 q_2_2, .map (some rq_open)] 73 (0, 0))) ∧ (Blk h bq_at (.cells #[.map (some rq_at_at)] 110 (0, 0))) ∧ (MapIs h rq_at_at kT kI q_1_0_2) ∧ (MapIs h rq_open (fun (x : T_api_Addr) => .agg (e_api_Addr x).toArray) (pmV (β := T_query_left) pv_query_left) q_3_2) ∧ (Blk h b_1 (.cells (e_api_Tune t).toArray 26 (0, 0))) ∧ (OwnIs h 0 34 19 e_api_Asked vout_1 out_1) ∧ (Blk h b_2 (.cells (e_api_Addr (gi r_3 n_1)).toArray 30 (0, 0))) ∧ (OwnIs h 0 30 17 e_api_Addr vr_1 r_3)) [] (by kernel_rfl) ?_
    refine HA.val (k := 0) (v := .pointer (some ⟨bq, 0, none⟩)) rfl rfl (by kernel_rfl) (by kernel_rfl) (want_none) rfl (fun _ ⟨hN_2, c453, c454, c455, c456, c457, c458, c459, c460⟩ => q_move rfl) ?_
    refine HA.val (k := 1) (v := .pointer (some ⟨bq, 0, none⟩)) rfl rfl (by kernel_rfl) (by kernel_rfl) (want_none) rfl (fun _ ⟨hN_2, c453, c454, c455, c456, c457, c458, c459, c460⟩ => q_nilCheck rfl) ?_
    refine HA.val (k := 2) (v := .pointer (some ⟨bq, 3, none⟩)) rfl rfl (by kernel_rfl) (by kernel_rfl) (want_none) rfl (fun _ ⟨hN_2, c453, c454, c455, c456, c457, c458, c459, c460⟩ => q_fieldAddr fa_73_3 rfl rfl) ?_
    refine HA.val (k := 3) (v := .map (some rq_open)) rfl rfl (by kernel_rfl) (by kernel_rfl) (want_none) rfl (fun _ ⟨hN_2, c453, c454, c455, c456, c457, c458, c459, c460⟩ => q_load to_71 rfl (Blk.cell c453 rfl)) ?_
    refine HA.val (k := 4) (v := .agg (e_api_Addr (gi r_3 n_1)).toArray) rfl rfl (by kernel_rfl) (by kernel_rfl) (want_none) rfl (fun _ ⟨hN_2, c453, c454, c455, c456, c457, c458, c459, c460⟩ => q_loadAgg (cs := (e_api_Addr (gi r_3 n_1))) ta_30 rfl rfl (Blk.cells (k := 17) c459 rfl)) ?_
    rcases Bool.eq_false_or_eq_true ((mget q_3_2 (gi r_3 n_1)).isSome) with c_4 | c_4
    ·
     replace hM := hM.1 c_4
     refine HA.val (k := 5) (v := .pointer (some ⟨(mget0 q_3_2 (gi r_3 n_1)).1.1, 0, none⟩)) rfl rfl (by kernel_rfl) (by kernel_rfl) (want_none) rfl (fun _ ⟨hN_2, c453, c454, c455, c456, c457, c458, c459, c460⟩ => q_pmYes (k := (gi r_3 n_1)) ka_30 tmk_71 c456 rfl rfl (pm_some c_4)) ?_
     replace hS : St F_9 (Ow.box (mget0 q_3_2 (gi r_3 n_1)).1.1 79 #[.int .i64 (((mget0 q_3_2 (gi r_3 n_1)).2).1), .map (some ((mget0 q_3_2 (gi r_3 n_1)).1.2))] :: Ow.map (mget0 q_3_2 (gi r_3 n_1)).1.2 (fun (x : T_api_Addr) => .agg (e_api_Addr x).toArray) kI (((mget0 q_3_2 (gi r_3 n_1)).2).2) :: Ow.box bq 73 #[.int .i64 q_0_2, .pointer (some ⟨bq_at, 0, none⟩), .int .i64 q_2_2, .map (some rq_open)] :: Ow.box bq_at 110 #[.map (some rq_at_at)] :: Ow.map rq_at_at kT kI q_1_0_2 :: Ow.pm rq_open (fun (x : T_api_Addr) => .agg (e_api_Addr x).toArray) pv_query_left th_query_left q_3_2 (some ((gi r_3 n_1), ((mget0 q_3_2 (gi r_3 n_1)).1.1, (mget0 q_3_2 (gi r_3 n_1)).1.2))) :: Ow.box b_1 26 (e_api_Tune t).toArray :: Ow.own 34 19 e_api_Asked vout_1 out_1 :: Ow.box b_2 30 (e_api_Addr (gi r_3 n_1)).toArray :: Ow.own 30 17 e_api_Addr vr_1 r_3 :: fr) h_10 := (St.pmTake (th := th_query_left) hS 3 rfl (pm_some c_4)).unbm
     refine HA.val (k := 6) (v := .pointer (some ⟨(mget0 q_3_2 (gi r_3 n_1)).1.1, 0, none⟩)) rfl rfl (by kernel_rfl) (by kernel_rfl) (want_none) rfl (fun _ ⟨hN_2, c453, c454, c455, c456, c457, c458, c459, c460⟩ => q_assign rfl) ?_
     refine HA.nil ⟨⟨hN_2.is, (hS.box 2 rfl), (hS.box 3 rfl), (hS.mp 4 rfl), (hS.pmi 5 rfl).map, (hS.box 6 rfl), (hS.own 7 rfl), (hS.box 8 rfl), (hS.own 9 rfl)⟩, (Go.Wk.at_nil _ _)⟩ (by kernel_rfl) (thenQ_normal (?_))
     refine HW.seq ?_
     refine HW.region ?_
     refine oM (vout_1) rfl rfl ?_
     refine oM (.pointer (some ⟨(mget0 q_3_2 (gi r_3 n_1)).1.1, 0, none⟩)) rfl rfl ?_
     refine oV (.agg (e_api_Addr (gi r_3 n_1)).toArray) (q_loadAgg (cs := (e_api_Addr (gi r_3 n_1))) ta_30 rfl rfl (Blk.cells (k := 17) (hS.box 8 rfl) rfl)) rfl ?_
     replace hS : St F_9 (Ow.box (mget0 q_3_2 (gi r_3 n_1)).1.1 79 #[.int .i64 (((mget0 q_3_2 (gi r_3 n_1)).2).1), .map (some ((mget0 q_3_2 (gi r_3 n_1)).1.2))] :: Ow.map (mget0 q_3_2 (gi r_3 n_1)).1.2 (fun (x : T_api_Addr) => .agg (e_api_Addr x).toArray) kI (((mget0 q_3_2 (gi r_3 n_1)).2).2) :: Ow.box bq 73 #[.int .i64 q_0_2, .pointer (some ⟨bq_at, 0, none⟩), .int .i64 q_2_2, .map (some rq_open)] :: Ow.box bq_at 110 #[.map (some rq_at_at)] :: Ow.map rq_at_at kT kI q_1_0_2 :: Ow.pm rq_open (fun (x : T_api_Addr) => .agg (e_api_Addr x).toArray) pv_query_left th_query_left q_3_2 (some ((gi r_3 n_1), ((mget0 q_3_2 (gi r_3 n_1)).1.1, (mget0 q_3_2 (gi r_3 n_1)).1.2))) :: Ow.box b_1 26 (e_api_Tune t).toArray :: Ow.own 34 19 e_api_Asked vout_1 out_1 :: Ow.box b_2 30 (e_api_Addr (gi r_3 n_1)).toArray :: Ow.own 30 17 e_api_Addr vr_1 r_3 :: fr) h_10 := hS
     have hZ_7 := hS
     have hkz_7 := (hS.freeze).2
     replace hS := hS.freeze.1
     have hL_7 := hZ_7.lent
     replace hS : St (fun bz_ => F_9 bz_ ∨ (Ow.box (mget0 q_3_2 (gi r_3 n_1)).1.1 79 #[.int .i64 (((mget0 q_3_2 (gi r_3 n_1)).2).1), .map (some ((mget0 q_3_2 (gi r_3 n_1)).1.2))]).foot bz_) (Ow.map (mget0 q_3_2 (gi r_3 n_1)).1.2 (fun (x : T_api_Addr) => .agg (e_api_Addr x).toArray) kI (((mget0 q_3_2 (gi r_3 n_1)).2).2) :: Ow.box bq 73 #[.int .i64 q_0_2, .pointer (some ⟨bq_at, 0, none⟩), .int .i64 q_2_2, .map (some rq_open)] :: Ow.box bq_at 110 #[.map (some rq_at_at)] :: Ow.map rq_at_at kT kI q_1_0_2 :: Ow.pm rq_open (fun (x : T_api_Addr) => .agg (e_api_Addr x).toArray) pv_query_left th_query_left q_3_2 (some ((gi r_3 n_1), ((mget0 q_3_2 (gi r_3 n_1)).1.1, (mget0 q_3_2 (gi r_3 n_1)).1.2))) :: Ow.box b_1 26 (e_api_Tune t).toArray :: Ow.own 34 19 e_api_Asked vout_1 out_1 :: Ow.box b_2 30 (e_api_Addr (gi r_3 n_1)).toArray :: Ow.own 30 17 e_api_Addr vr_1 r_3 :: fr) h_10 := hS
     have hZ_8 := hS
     have hkz_8 := (hS.freeze).2
     replace hS := hS.freeze.1
     have hL_8 := hZ_8.lent
     refine HO.call (want_none) rfl (ec en_43 rfl rfl) (query_left_asked_walk (fr := (Ow.box bq 73 #[.int .i64 q_0_2, .pointer (some ⟨bq_at, 0, none⟩), .int .i64 q_2_2, .map (some rq_open)] :: Ow.box bq_at 110 #[.map (some rq_at_at)] :: Ow.map rq_at_at kT kI q_1_0_2 :: Ow.pm rq_open (fun (x : T_api_Addr) => .agg (e_api_Addr x).toArray) pv_query_left th_query_left q_3_2 (some ((gi r_3 n_1), ((mget0 q_3_2 (gi r_3 n_1)).1.1, (mget0 q_3_2 (gi r_3 n_1)).1.2))) :: Ow.box b_1 26 (e_api_Tune t).toArray :: Ow.own 34 19 e_api_Asked vout_1 out_1 :: Ow.box b_2 30 (e_api_Addr (gi r_3 n_1)).toArray :: Ow.own 30 17 e_api_Addr vr_1 r_3 :: fr)) (((mget0 q_3_2 (gi r_3 n_1)).2).1) (((mget0 q_3_2 (gi r_3 n_1)).2).2) (gi r_3 n_1) ((mget0 q_3_2 (gi r_3 n_1)).1.1) ((mget0 q_3_2 (gi r_3 n_1)).1.2) hS hL_8 (hL_7.kp hkz_8) hM) ?_
     rintro _ h_11 ⟨F_10, r_0_1, r_1_1, r_17_1, r_18_1, vr_18_1, rfl, hk, hS, _, _, hM⟩
     obtain ⟨hS, hk⟩ := hZ_8.back hk hS
     obtain ⟨hS, hk⟩ := hZ_7.back hk hS
     generalize (fun bz_ => (fun bz_ => F_10 bz_ ∧ ¬ (Ow.map (mget0 q_3_2 (gi r_3 n_1)).1.2 (fun (x : T_api_Addr) => .agg (e_api_Addr x).toArray) kI (((mget0 q_3_2 (gi r_3 n_1)).2).2)).foot bz_) bz_ ∧ ¬ (Ow.box (mget0 q_3_2 (gi r_3 n_1)).1.1 79 #[.int .i64 (((mget0 q_3_2 (gi r_3 n_1)).2).1), .map (some ((mget0 q_3_2 (gi r_3 n_1)).1.2))]).foot bz_) = F_11 at hS hk
     replace hK := hK.trans hk
     replace hN_2 := hN_2.kp hk
     replace hS : St F_11 (Ow.own 30 17 e_api_Addr vr_18_1 r_18_1 :: Ow.box (mget0 q_3_2 (gi r_3 n_1)).1.1 79 #[.int .i64 (((mget0 q_3_2 (gi r_3 n_1)).2).1), .map (some ((mget0 q_3_2 (gi r_3 n_1)).1.2))] :: Ow.map (mget0 q_3_2 (gi r_3 n_1)).1.2 (fun (x : T_api_Addr) => .agg (e_api_Addr x).toArray) kI (((mget0 q_3_2 (gi r_3 n_1)).2).2) :: Ow.box bq 73 #[.int .i64 q_0_2, .pointer (some ⟨bq_at, 0, none⟩), .int .i64 q_2_2, .map (some rq_open)] :: Ow.box bq_at 110 #[.map (some rq_at_at)] :: Ow.map rq_at_at kT kI q_1_0_2 :: Ow.pm rq_open (fun (x : T_api_Addr) => .agg (e_api_Addr x).toArray) pv_query_left th_query_left q_3_2 (some ((gi r_3 n_1), ((mget0 q_3_2 (gi r_3 n_1)).1.1, (mget0 q_3_2 (gi r_3 n_1)).1.2))) :: Ow.box b_1 26 (e_api_Tune t).toArray :: Ow.own 34 19 e_api_Asked vout_1 out_1 :: Ow.box b_2 30 (e_api_Addr (gi r_3 n_1)).toArray :: Ow.own 30 17 e_api_Addr vr_1 r_3 :: fr) h_11 := hS.perm2 [2, 0, 1, 3, 4, 5, 6, 7, 8, 9, 10] 11 rfl rfl
     obtain ⟨F_12, hS, hk, hL_9⟩ := hS.freezeOwn
     replace hK := hK.trans hk
     replace hN_2 := hN_2.kp hk
     replace hM := hM vr_18_1
     refine HO.eff (want_none) rfl (st_lit (enc := e_api_Asked) (cells := #[.bool r_0_1, .int .u8 (b8 r_1_1 0), .int .u8 (b8 r_1_1 1), .int .u8 (b8 r_1_1 2), .int .u8 (b8 r_1_1 3), .int .u8 (b8 r_1_1 4), .int .u8 (b8 r_1_1 5), .int .u8 (b8 r_1_1 6), .int .u8 (b8 r_1_1 7), .int .u8 (b8 r_1_1 8), .int .u8 (b8 r_1_1 9), .int .u8 (b8 r_1_1 10), .int .u8 (b8 r_1_1 11), .int .u8 (b8 r_1_1 12), .int .u8 (b8 r_1_1 13), .int .u8 (b8 r_1_1 14), .int .u8 (b8 r_1_1 15), .bool r_17_1, vr_18_1]) #[.bool false, .int .u8 0, .int .u8 0, .int .u8 0, .int .u8 0, .int .u8 0, .int .u8 0, .int .u8 0, .int .u8 0, .int .u8 0, .int .u8 0, .int .u8 0, .int .u8 0, .int .u8 0, .int .u8 0, .int .u8 0, .int .u8 0, .bool false, .slice none 0 0] ([((r_0_1, r_1_1), r_17_1, (vr_18_1, r_18_1))] : List T_api_Asked) hS tl_35 (by decide) (by decide) (by kernel_rfl) (by kernel_rfl) rfl (by intro x hx; rfl) rfl) ?_
     rintro _ h_12 ⟨b_4, rfl, hS, hk⟩
     replace hK := hK.trans hk
     replace hN_2 := hN_2.kp hk
     replace hL_9 := hL_9.kp hk
     have hN_4 : NfL nf_api_Asked F_12 h_12 ([((r_0_1, r_1_1), r_17_1, (vr_18_1, r_18_1))] : List T_api_Asked) := (NfL.cons (nfm_api_Asked ((r_0_1, r_1_1), r_17_1, (vr_18_1, r_18_1)) hL_9) (NfL.nil _ _ _))
     obtain ⟨ho_3, hM⟩ := hM
     refine HO.eff (want_none) rfl (st_append te_35 hS (i := 8) rfl (hS.own 0 rfl).slice rfl rfl rfl (fun a_ ha_ => nfo_api_Asked (hN_4.is.all a_ ha_)) ho_3 (by omega)) ?_
     rintro v_1 h_13 ⟨hS, hk⟩
     replace hK := hK.trans hk
     replace hN_2 := hN_2.kp hk
     replace hL_9 := hL_9.kp hk
     replace hN_4 := hN_4.kp hk
     have hN_5 : NfL nf_api_Asked F_12 h_13 (out_1 ++ ([((r_0_1, r_1_1), r_17_1, (vr_18_1, r_18_1))] : List T_api_Asked)) := NfL.app hN_2 hN_4
     refine oA (v_1) rfl rfl ?_
     refine HO.nil (thenQ_normal (?_))
     refine HW.seq ?_
     refine HW.regionA 11 mixed (fun h => (Blk h bq (.cells #[.int .i64 q_0_2, .pointer (some ⟨bq_at, 0, none⟩), .int .i64 q_2_2, .map (some rq_open)] 73 (0, 0))) ∧ (Blk h b_1 (.cells (e_api_Tune t).toArray 26 (0, 0))) ∧ (Blk h b_2 (.cells (e_api_Addr (gi r_3 n_1)).toArray 30 (0, 0)))) [] (by kernel_rfl) ?_
     refine HA.val (k := 0) (v := .pointer (some ⟨bq, 0, none⟩)) rfl rfl (by kernel_rfl) (by kernel_rfl) (want_none) rfl (fun _ ⟨c453, c457, c459⟩ => q_move rfl) ?_
     refine HA.val (k := 1) (v := .pointer (some ⟨bq, 0, none⟩)) rfl rfl (by kernel_rfl) (by kernel_rfl) (want_none) rfl (fun _ ⟨c453, c457, c459⟩ => q_nilCheck rfl) ?_
     refine HA.val (k := 2) (v := .pointer (some ⟨bq, 1, none⟩)) rfl rfl (by kernel_rfl) (by kernel_rfl) (want_none) rfl (fun _ ⟨c453, c457, c459⟩ => q_fieldAddr fa_73_1 rfl rfl) ?_
     refine HA.val (k := 3) (v := .pointer (some ⟨bq_at, 0, none⟩)) rfl rfl (by kernel_rfl) (by kernel_rfl) (want_none) rfl (fun _ ⟨c453, c457, c459⟩ => q_load to_69 rfl (Blk.cell c453 rfl)) ?_
     refine HA.val (k := 4) (v := .agg (e_api_Addr (gi r_3 n_1)).toArray) rfl rfl (by kernel_rfl) (by kernel_rfl) (want_none) rfl (fun _ ⟨c453, c457, c459⟩ => q_loadAgg (cs := (e_api_Addr (gi r_3 n_1))) ta_30 rfl rfl (Blk.cells (k := 17) c459 rfl)) ?_
     refine HA.val (k := 6) (v := .int .i64 r_1) rfl rfl (by kernel_rfl) (by kernel_rfl) (want_none) rfl (fun _ ⟨c453, c457, c459⟩ => q_move rfl) ?_
     refine HA.val (k := 7) (v := .pointer (some ⟨b_1, 3, none⟩)) rfl rfl (by kernel_rfl) (by kernel_rfl) (want_none) rfl (fun _ ⟨c453, c457, c459⟩ => q_fieldAddr fa_26_3 rfl rfl) ?_
     refine HA.val (k := 8) (v := .int .i64 t.2.2.2.1) rfl rfl (by kernel_rfl) (by kernel_rfl) (want_none) rfl (fun _ ⟨c453, c457, c459⟩ => q_load to_3 rfl (Blk.cell c457 rfl)) ?_
     obtain ⟨ho_4, hM⟩ := hM
     refine HA.val (k := 9) (v := .int .i64 (r_1 + t.2.2.2.1)) rfl rfl (by kernel_rfl) (by kernel_rfl) (want_none) rfl (fun _ ⟨c453, c457, c459⟩ => q_addN _ rfl rfl rfl ho_4.1 ho_4.2) ?_
     refine HA.one (k := 5) ⟨⟨(hS.box 3 rfl), (hS.box 7 rfl), (hS.box 9 rfl)⟩, (Go.Wk.at_nil _ _)⟩ (by kernel_rfl) ?_
     refine HS.call rfl (want_none) rfl (ec en_41 rfl rfl) (query_key_walk (fr := (Ow.own 34 19 e_api_Asked (.slice (some ⟨b_4, 0, none⟩) 1 1) ([((r_0_1, r_1_1), r_17_1, (vr_18_1, r_18_1))] : List T_api_Asked) :: Ow.box (mget0 q_3_2 (gi r_3 n_1)).1.1 79 #[.int .i64 (((mget0 q_3_2 (gi r_3 n_1)).2).1), .map (some ((mget0 q_3_2 (gi r_3 n_1)).1.2))] :: Ow.map (mget0 q_3_2 (gi r_3 n_1)).1.2 (fun (x : T_api_Addr) => .agg (e_api_Addr x).toArray) kI (((mget0 q_3_2 (gi r_3 n_1)).2).2) :: Ow.box bq 73 #[.int .i64 q_0_2, .pointer (some ⟨bq_at, 0, none⟩), .int .i64 q_2_2, .map (some rq_open)] :: Ow.box bq_at 110 #[.map (some rq_at_at)] :: Ow.map rq_at_at kT kI q_1_0_2 :: Ow.pm rq_open (fun (x : T_api_Addr) => .agg (e_api_Addr x).toArray) pv_query_left th_query_left q_3_2 (some ((gi r_3 n_1), ((mget0 q_3_2 (gi r_3 n_1)).1.1, (mget0 q_3_2 (gi r_3 n_1)).1.2))) :: Ow.box b_1 26 (e_api_Tune t).toArray :: Ow.own 34 19 e_api_Asked v_1 (out_1 ++ ([((r_0_1, r_1_1), r_17_1, (vr_18_1, r_18_1))] : List T_api_Asked)) :: Ow.box b_2 30 (e_api_Addr (gi r_3 n_1)).toArray :: Ow.own 30 17 e_api_Addr vr_1 r_3 :: fr)) (gi r_3 n_1) hS hM) ?_
     rintro _ h_14 ⟨F_13, r_5, rfl, hk, hS, hM⟩
     replace hK := hK.trans hk
     replace hN_2 := hN_2.kp hk
     replace hL_9 := hL_9.kp hk
     replace hN_4 := hN_4.kp hk
     replace hN_5 := hN_5.kp hk
     refine HA.one (k := 10) ⟨⟨(hS.box 3 rfl), (hS.box 7 rfl), (hS.box 9 rfl)⟩, (Go.Wk.at_nil _ _)⟩ (by kernel_rfl) ?_
     replace hS : St F_13 (Ow.box bq_at 110 #[.map (some rq_at_at)] :: Ow.map rq_at_at kT kI q_1_0_2 :: Ow.own 34 19 e_api_Asked (.slice (some ⟨b_4, 0, none⟩) 1 1) ([((r_0_1, r_1_1), r_17_1, (vr_18_1, r_18_1))] : List T_api_Asked) :: Ow.box (mget0 q_3_2 (gi r_3 n_1)).1.1 79 #[.int .i64 (((mget0 q_3_2 (gi r_3 n_1)).2).1), .map (some ((mget0 q_3_2 (gi r_3 n_1)).1.2))] :: Ow.map (mget0 q_3_2 (gi r_3 n_1)).1.2 (fun (x : T_api_Addr) => .agg (e_api_Addr x).toArray) kI (((mget0 q_3_2 (gi r_3 n_1)).2).2) :: Ow.box bq 73 #[.int .i64 q_0_2, .pointer (some ⟨bq_at, 0, none⟩), .int .i64 q_2_2, .map (some rq_open)] :: Ow.pm rq_open (fun (x : T_api_Addr) => .agg (e_api_Addr x).toArray) pv_query_left th_query_left q_3_2 (some ((gi r_3 n_1), ((mget0 q_3_2 (gi r_3 n_1)).1.1, (mget0 q_3_2 (gi r_3 n_1)).1.2))) :: Ow.box b_1 26 (e_api_Tune t).toArray :: Ow.own 34 19 e_api_Asked v_1 (out_1 ++ ([((r_0_1, r_1_1), r_17_1, (vr_18_1, r_18_1))] : List T_api_Asked)) :: Ow.box b_2 30 (e_api_Addr (gi r_3 n_1)).toArray :: Ow.own 30 17 e_api_Addr vr_1 r_3 :: fr) h_14 := hS.perm2 [4, 5, 0, 1, 2, 3, 6, 7, 8, 9, 10] 11 rfl rfl
     refine HS.call rfl (want_none) rfl (ec en_40 rfl rfl) (clock_Clock_Set_string_walk (fr := (Ow.own 34 19 e_api_Asked (.slice (some ⟨b_4, 0, none⟩) 1 1) ([((r_0_1, r_1_1), r_17_1, (vr_18_1, r_18_1))] : List T_api_Asked) :: Ow.box (mget0 q_3_2 (gi r_3 n_1)).1.1 79 #[.int .i64 (((mget0 q_3_2 (gi r_3 n_1)).2).1), .map (some ((mget0 q_3_2 (gi r_3 n_1)).1.2))] :: Ow.map (mget0 q_3_2 (gi r_3 n_1)).1.2 (fun (x : T_api_Addr) => .agg (e_api_Addr x).toArray) kI (((mget0 q_3_2 (gi r_3 n_1)).2).2) :: Ow.box bq 73 #[.int .i64 q_0_2, .pointer (some ⟨bq_at, 0, none⟩), .int .i64 q_2_2, .map (some rq_open)] :: Ow.pm rq_open (fun (x : T_api_Addr) => .agg (e_api_Addr x).toArray) pv_query_left th_query_left q_3_2 (some ((gi r_3 n_1), ((mget0 q_3_2 (gi r_3 n_1)).1.1, (mget0 q_3_2 (gi r_3 n_1)).1.2))) :: Ow.box b_1 26 (e_api_Tune t).toArray :: Ow.own 34 19 e_api_Asked v_1 (out_1 ++ ([((r_0_1, r_1_1), r_17_1, (vr_18_1, r_18_1))] : List T_api_Asked)) :: Ow.box b_2 30 (e_api_Addr (gi r_3 n_1)).toArray :: Ow.own 30 17 e_api_Addr vr_1 r_3 :: fr)) q_1_0_2 r_5 (r_1 + t.2.2.2.1) bq_at rq_at_at hS hM) ?_
     rintro _ h_15 ⟨F_14, r_6, cm_1, rfl, hk, hS, hM⟩
     replace hK := hK.trans hk
     replace hN_2 := hN_2.kp hk
     replace hL_9 := hL_9.kp hk
     replace hN_4 := hN_4.kp hk
     replace hN_5 := hN_5.kp hk
     refine HA.nil ⟨⟨(hS.box 5 rfl), (hS.box 7 rfl), (hS.box 9 rfl)⟩, (Go.Wk.at_nil _ _)⟩ (by kernel_rfl) (thenQ_normal (?_))
     refine HW.seq ?_
     refine HW.region ?_
     refine oM (.pointer (some ⟨(mget0 q_3_2 (gi r_3 n_1)).1.1, 0, none⟩)) rfl rfl ?_
     replace hS : St F_14 (Ow.box (mget0 q_3_2 (gi r_3 n_1)).1.1 79 #[.int .i64 (((mget0 q_3_2 (gi r_3 n_1)).2).1), .map (some ((mget0 q_3_2 (gi r_3 n_1)).1.2))] :: Ow.map (mget0 q_3_2 (gi r_3 n_1)).1.2 (fun (x : T_api_Addr) => .agg (e_api_Addr x).toArray) kI (((mget0 q_3_2 (gi r_3 n_1)).2).2) :: Ow.box bq_at 110 #[.map (some rq_at_at)] :: Ow.map rq_at_at kT kI cm_1 :: Ow.own 34 19 e_api_Asked (.slice (some ⟨b_4, 0, none⟩) 1 1) ([((r_0_1, r_1_1), r_17_1, (vr_18_1, r_18_1))] : List T_api_Asked) :: Ow.box bq 73 #[.int .i64 q_0_2, .pointer (some ⟨bq_at, 0, none⟩), .int .i64 q_2_2, .map (some rq_open)] :: Ow.pm rq_open (fun (x : T_api_Addr) => .agg (e_api_Addr x).toArray) pv_query_left th_query_left q_3_2 (some ((gi r_3 n_1), ((mget0 q_3_2 (gi r_3 n_1)).1.1, (mget0 q_3_2 (gi r_3 n_1)).1.2))) :: Ow.box b_1 26 (e_api_Tune t).toArray :: Ow.own 34 19 e_api_Asked v_1 (out_1 ++ ([((r_0_1, r_1_1), r_17_1, (vr_18_1, r_18_1))] : List T_api_Asked)) :: Ow.box b_2 30 (e_api_Addr (gi r_3 n_1)).toArray :: Ow.own 30 17 e_api_Addr vr_1 r_3 :: fr) h_15 := hS.perm2 [3, 4, 0, 1, 2, 5, 6, 7, 8, 9, 10] 11 rfl rfl
     refine HO.call (want_none) rfl (ec en_46 rfl rfl) (query_left_tell_walk (fr := (Ow.box bq_at 110 #[.map (some rq_at_at)] :: Ow.map rq_at_at kT kI cm_1 :: Ow.own 34 19 e_api_Asked (.slice (some ⟨b_4, 0, none⟩) 1 1) ([((r_0_1, r_1_1), r_17_1, (vr_18_1, r_18_1))] : List T_api_Asked) :: Ow.box bq 73 #[.int .i64 q_0_2, .pointer (some ⟨bq_at, 0, none⟩), .int .i64 q_2_2, .map (some rq_open)] :: Ow.pm rq_open (fun (x : T_api_Addr) => .agg (e_api_Addr x).toArray) pv_query_left th_query_left q_3_2 (some ((gi r_3 n_1), ((mget0 q_3_2 (gi r_3 n_1)).1.1, (mget0 q_3_2 (gi r_3 n_1)).1.2))) :: Ow.box b_1 26 (e_api_Tune t).toArray :: Ow.own 34 19 e_api_Asked v_1 (out_1 ++ ([((r_0_1, r_1_1), r_17_1, (vr_18_1, r_18_1))] : List T_api_Asked)) :: Ow.box b_2 30 (e_api_Addr (gi r_3 n_1)).toArray :: Ow.own 30 17 e_api_Addr vr_1 r_3 :: fr)) (((mget0 q_3_2 (gi r_3 n_1)).2).1) (((mget0 q_3_2 (gi r_3 n_1)).2).2) ((mget0 q_3_2 (gi r_3 n_1)).1.1) ((mget0 q_3_2 (gi r_3 n_1)).1.2) hS hM) ?_
     rintro _ h_16 ⟨F_15, x_all_1, xm_1, rfl, hk, hS, hM⟩
     replace hK := hK.trans hk
     replace hN_2 := hN_2.kp hk
     replace hL_9 := hL_9.kp hk
     replace hN_4 := hN_4.kp hk
     replace hN_5 := hN_5.kp hk
     refine HO.nil (thenQ_normal (?_))
     refine HW.seq_mid (fun f h => ∃ (F' : Fz) (q_3_3 : List (T_api_Addr × (Nat × Nat) × T_query_left)) (b_5 : Bool), f 0 = .pointer (some ⟨bq, 0, none⟩) ∧ f 1 = .int .i64 r_1 ∧ f 5 = .pointer (some ⟨b_1, 0, none⟩) ∧ f 6 = .bool false ∧ f 7 = .slice none 0 0 ∧ f 8 = v_1 ∧ f 9 = .bool r_2 ∧ f 11 = .pointer (some ⟨b_2, 0, none⟩) ∧ f 24 = vr_1 ∧ f 25 = .int .i64 (r_3.length : Int) ∧ f 26 = .int .i64 n_1 ∧ f 84 = .bool b_5 ∧ Kp F h0 F' h ∧ St F' (Ow.box bq 73 #[.int .i64 q_0_2, .pointer (some ⟨bq_at, 0, none⟩), .int .i64 q_2_2, .map (some rq_open)] :: Ow.box bq_at 110 #[.map (some rq_at_at)] :: Ow.map rq_at_at kT kI cm_1 :: Ow.pm rq_open (fun (x : T_api_Addr) => .agg (e_api_Addr x).toArray) pv_query_left th_query_left q_3_3 none :: Ow.box b_1 26 (e_api_Tune t).toArray :: Ow.own 34 19 e_api_Asked v_1 (out_1 ++ ([((r_0_1, r_1_1), r_17_1, (vr_18_1, r_18_1))] : List T_api_Asked)) :: Ow.box b_2 30 (e_api_Addr (gi r_3 n_1)).toArray :: Ow.own 30 17 e_api_Addr vr_1 r_3 :: fr) h ∧ (NfL nf_api_Asked F' h out_1) ∧ (SliceF F' h 17 e_api_Addr vr_18_1 r_18_1) ∧ (NfL nf_api_Asked F' h ([((r_0_1, r_1_1), r_17_1, (vr_18_1, r_18_1))] : List T_api_Asked)) ∧ (NfL nf_api_Asked F' h (out_1 ++ ([((r_0_1, r_1_1), r_17_1, (vr_18_1, r_18_1))] : List T_api_Asked))) ∧ query_Queries_Due_j2 r_3 q_0_2 q_2_2 out_1 n_1 K_1 r_0_1 r_1_1 r_17_1 r_18_1 vr_18_1 cm_1 q_3_3 b_5) ?_ ?_
     ·
      refine HW.region ?_
      refine oM (.pointer (some ⟨(mget0 q_3_2 (gi r_3 n_1)).1.1, 0, none⟩)) rfl rfl ?_
      refine oV (.pointer (some ⟨(mget0 q_3_2 (gi r_3 n_1)).1.1, 0, none⟩)) (q_nilCheck rfl) rfl ?_
      refine oV (.pointer (some ⟨(mget0 q_3_2 (gi r_3 n_1)).1.1, 0, none⟩)) (q_fieldAddr fa_79_0 rfl rfl) rfl ?_
      refine oV (.int .i64 x_all_1) (q_load to_3 rfl (Blk.cell (hS.box 0 rfl) rfl)) rfl ?_
      refine oV (.bool (decide (x_all_1 = 0))) (q_eql rfl rfl) rfl ?_
      refine oM (.bool (decide (x_all_1 = 0))) rfl rfl ?_
      rcases Bool.eq_false_or_eq_true (decide (x_all_1 = 0)) with c_5 | c_5
      ·
       replace hM := hM.1 (of_decide_eq_true c_5)
       refine HO.val (v := .pointer (some ⟨(mget0 q_3_2 (gi r_3 n_1)).1.1, 0, none⟩)) (want_by rfl rfl c_5) rfl (q_move rfl) ?_
       refine HO.val (v := .pointer (some ⟨(mget0 q_3_2 (gi r_3 n_1)).1.1, 0, none⟩)) (want_by rfl rfl c_5) rfl (q_nilCheck rfl) ?_
       refine HO.val (v := .pointer (some ⟨(mget0 q_3_2 (gi r_3 n_1)).1.1, 1, none⟩)) (want_by rfl rfl c_5) rfl (q_fieldAddr fa_79_1 rfl rfl) ?_
       refine HO.val (v := .map (some ((mget0 q_3_2 (gi r_3 n_1)).1.2))) (want_by rfl rfl c_5) rfl (q_load to_77 rfl (Blk.cell (hS.box 0 rfl) rfl)) ?_
       refine HO.val (v := .int .i64 (xm_1.length : Int)) (want_by rfl rfl c_5) rfl (q_lenMap Try.underlying77 (hS.mp 1 rfl) rfl rfl) ?_
       refine HO.val (v := .bool (decide ((xm_1.length : Int) = 0))) (want_by rfl rfl c_5) rfl (q_eql rfl rfl) ?_
       refine oV (.bool (decide ((xm_1.length : Int) = 0))) (q_pickK true rfl c_5 rfl) rfl ?_
       refine HO.nil (thenQ_normal (?_))
       replace hS : St F_15 (Ow.box bq_at 110 #[.map (some rq_at_at)] :: Ow.map rq_at_at kT kI cm_1 :: Ow.own 34 19 e_api_Asked (.slice (some ⟨b_4, 0, none⟩) 1 1) ([((r_0_1, r_1_1), r_17_1, (vr_18_1, r_18_1))] : List T_api_Asked) :: Ow.box bq 73 #[.int .i64 q_0_2, .pointer (some ⟨bq_at, 0, none⟩), .int .i64 q_2_2, .map (some rq_open)] :: Ow.pm rq_open (fun (x : T_api_Addr) => .agg (e_api_Addr x).toArray) pv_query_left th_query_left (mset q_3_2 (gi r_3 n_1) ((mget0 q_3_2 (gi r_3 n_1)).1, (x_all_1, xm_1))) none :: Ow.box b_1 26 (e_api_Tune t).toArray :: Ow.own 34 19 e_api_Asked v_1 (out_1 ++ ([((r_0_1, r_1_1), r_17_1, (vr_18_1, r_18_1))] : List T_api_Asked)) :: Ow.box b_2 30 (e_api_Addr (gi r_3 n_1)).toArray :: Ow.own 30 17 e_api_Addr vr_1 r_3 :: fr) h_16 := St.pmPut (th := th_query_left) (j := (mget0 q_3_2 (gi r_3 n_1)).1) (y := (x_all_1, xm_1)) (St.doboth hS) 4 rfl
       replace hS : St F_15 (Ow.box bq 73 #[.int .i64 q_0_2, .pointer (some ⟨bq_at, 0, none⟩), .int .i64 q_2_2, .map (some rq_open)] :: Ow.box bq_at 110 #[.map (some rq_at_at)] :: Ow.map rq_at_at kT kI cm_1 :: Ow.pm rq_open (fun (x : T_api_Addr) => .agg (e_api_Addr x).toArray) pv_query_left th_query_left (mset q_3_2 (gi r_3 n_1) ((mget0 q_3_2 (gi r_3 n_1)).1, (x_all_1, xm_1))) none :: Ow.box b_1 26 (e_api_Tune t).toArray :: Ow.own 34 19 e_api_Asked v_1 (out_1 ++ ([((r_0_1, r_1_1), r_17_1, (vr_18_1, r_18_1))] : List T_api_Asked)) :: Ow.box b_2 30 (e_api_Addr (gi r_3 n_1)).toArray :: Ow.own 30 17 e_api_Addr vr_1 r_3 :: fr) h_16 := hS.perm2 [3, 0, 1, 4, 5, 6, 7, 8] 9 rfl rfl
       exact ⟨F_15, mset q_3_2 (gi r_3 n_1) ((mget0 q_3_2 (gi r_3 n_1)).1, (x_all_1, xm_1)), decide ((xm_1.length : Int) = 0), rfl, rfl, rfl, rfl, rfl, rfl, rfl, rfl, rfl, rfl, rfl, rfl, hK, hS, hN_2, hL_9, hN_4, hN_5, hM⟩
      ·
       replace hM := hM.2 (of_decide_eq_false c_5)
       refine HO.past (past_by rfl rfl c_5) rfl ?_
       refine HO.past (past_by rfl rfl c_5) rfl ?_
       refine HO.past (past_by rfl rfl c_5) rfl ?_
       refine HO.past (past_by rfl rfl c_5) rfl ?_
       refine HO.past (past_by rfl rfl c_5) rfl ?_
       refine HO.past (past_by rfl rfl c_5) rfl ?_
       refine oV (.bool false) (q_pickK false rfl c_5 rfl) rfl ?_
       refine HO.nil (thenQ_normal (?_))
       replace hS : St F_15 (Ow.box bq_at 110 #[.map (some rq_at_at)] :: Ow.map rq_at_at kT kI cm_1 :: Ow.own 34 19 e_api_Asked (.slice (some ⟨b_4, 0, none⟩) 1 1) ([((r_0_1, r_1_1), r_17_1, (vr_18_1, r_18_1))] : List T_api_Asked) :: Ow.box bq 73 #[.int .i64 q_0_2, .pointer (some ⟨bq_at, 0, none⟩), .int .i64 q_2_2, .map (some rq_open)] :: Ow.pm rq_open (fun (x : T_api_Addr) => .agg (e_api_Addr x).toArray) pv_query_left th_query_left (mset q_3_2 (gi r_3 n_1) ((mget0 q_3_2 (gi r_3 n_1)).1, (x_all_1, xm_1))) none :: Ow.box b_1 26 (e_api_Tune t).toArray :: Ow.own 34 19 e_api_Asked v_1 (out_1 ++ ([((r_0_1, r_1_1), r_17_1, (vr_18_1, r_18_1))] : List T_api_Asked)) :: Ow.box b_2 30 (e_api_Addr (gi r_3 n_1)).toArray :: Ow.own 30 17 e_api_Addr vr_1 r_3 :: fr) h_16 := St.pmPut (th := th_query_left) (j := (mget0 q_3_2 (gi r_3 n_1)).1) (y := (x_all_1, xm_1)) (St.doboth hS) 4 rfl
       replace hS : St F_15 (Ow.box bq 73 #[.int .i64 q_0_2, .pointer (some ⟨bq_at, 0, none⟩), .int .i64 q_2_2, .map (some rq_open)] :: Ow.box bq_at 110 #[.map (some rq_at_at)] :: Ow.map rq_at_at kT kI cm_1 :: Ow.pm rq_open (fun (x : T_api_Addr) => .agg (e_api_Addr x).toArray) pv_query_left th_query_left (mset q_3_2 (gi r_3 n_1) ((mget0 q_3_2 (gi r_3 n_1)).1, (x_all_1, xm_1))) none :: Ow.box b_1 26 (e_api_Tune t).toArray :: Ow.own 34 19 e_api_Asked v_1 (out_1 ++ ([((r_0_1, r_1_1), r_17_1, (vr_18_1, r_18_1))] : List T_api_Asked)) :: Ow.box b_2 30 (e_api_Addr (gi r_3 n_1)).toArray :: Ow.own 30 17 e_api_Addr vr_1 r_3 :: fr) h_16 := hS.perm2 [3, 0, 1, 4, 5, 6, 7, 8] 9 rfl rfl
       exact ⟨F_15, mset q_3_2 (gi r_3 n_1) ((mget0 q_3_2 (gi r_3 n_1)).1, (x_all_1, xm_1)), false, rfl, rfl, rfl, rfl, rfl, rfl, rfl, rfl, rfl, rfl, rfl, rfl, hK, hS, hN_2, hL_9, hN_4, hN_5, hM⟩
     ·
      rintro f_3 h_17 ⟨F_16, q_3_3, b_5, e0, e1, e5, e6, e7, e8, e9, e11, e24, e25, e26, e84, hK, hS, hN_2, hL_9, hN_4, hN_5, hM⟩
      unfold query_Queries_Due_j2 at hM
      refine HW.fr [(0, .pointer (some ⟨bq, 0, none⟩)), (1, .int .i64 r_1), (5, .pointer (some ⟨b_1, 0, none⟩)), (6, .bool false), (7, .slice none 0 0), (8, v_1), (9, .bool r_2), (11, .pointer (some ⟨b_2, 0, none⟩)), (24, vr_1), (25, .int .i64 (r_3.length : Int)), (26, .int .i64 n_1), (84, .bool b_5)] ⟨e0, e1, e5, e6, e7, e8, e9, e11, e24, e25, e26, e84, trivial⟩ ?_
      refine HW.cond b_5 rfl (fun c_6 => ?_) (fun c_6 => ?_)
      ·
       replace hM := hM.1 c_6
       refine HW.region ?_
       refine oM (.pointer (some ⟨bq, 0, none⟩)) rfl rfl ?_
       refine oV (.agg (e_api_Addr (gi r_3 n_1)).toArray) (q_loadAgg (cs := (e_api_Addr (gi r_3 n_1))) ta_30 rfl rfl (Blk.cells (k := 17) (hS.box 6 rfl) rfl)) rfl ?_
       refine HO.call (want_none) rfl (ec en_47 rfl rfl) (query_Queries_cancel_walk (fr := (Ow.box b_1 26 (e_api_Tune t).toArray :: Ow.own 34 19 e_api_Asked v_1 (out_1 ++ ([((r_0_1, r_1_1), r_17_1, (vr_18_1, r_18_1))] : List T_api_Asked)) :: Ow.box b_2 30 (e_api_Addr (gi r_3 n_1)).toArray :: Ow.own 30 17 e_api_Addr vr_1 r_3 :: fr)) q_0_2 cm_1 q_2_2 q_3_3 (gi r_3 n_1) bq bq_at rq_at_at rq_open hS hM) ?_
       rintro _ h_18 ⟨F_17, r_7, q_now_4, qm_7, q_first_4, qm_8, rfl, hk, hS, hM⟩
       replace hK := hK.trans hk
       replace hN_5 := hN_5.kp hk
       refine HO.nil (blockQ_normal (thenQ_normal (?_)))
       refine HW.region ?_
       obtain ⟨ho_5, hM⟩ := hM
       refine oV (.int .i64 (n_1 + 1)) (q_addN _ rfl rfl rfl ho_5.1 ho_5.2) rfl ?_
       refine oM (.int .i64 (n_1 + 1)) rfl rfl ?_
       refine HO.nil (thenQ_normal (?_))
       replace hS : St F_17 (Ow.box bq 73 #[.int .i64 q_now_4, .pointer (some ⟨bq_at, 0, none⟩), .int .i64 q_first_4, .map (some rq_open)] :: Ow.box bq_at 110 #[.map (some rq_at_at)] :: Ow.map rq_at_at kT kI qm_7 :: Ow.pm rq_open (fun (x : T_api_Addr) => .agg (e_api_Addr x).toArray) pv_query_left th_query_left qm_8 none :: Ow.box b_1 26 (e_api_Tune t).toArray :: Ow.own 34 19 e_api_Asked v_1 (out_1 ++ ([((r_0_1, r_1_1), r_17_1, (vr_18_1, r_18_1))] : List T_api_Asked)) :: Ow.own 30 17 e_api_Addr vr_1 r_3 :: fr) h_18 := hS.perm2 [0, 1, 2, 3, 4, 5, 7] 8 rfl rfl
       rw [hKe_1] at hM
       exact ⟨(q_now_4, qm_7, q_first_4, qm_8, out_1 ++ ([((r_0_1, r_1_1), r_17_1, (vr_18_1, r_18_1))] : List T_api_Asked), n_1 + 1), ⟨F_17, v_1, rfl, rfl, rfl, rfl, rfl, rfl, rfl, rfl, rfl, rfl, hK, hS, hN_5, hM.1⟩, hM.2⟩
      ·
       replace hM := hM.2 c_6
       refine HW.skip (blockQ_normal (thenQ_normal (?_)))
       refine HW.region ?_
       obtain ⟨ho_6, hM⟩ := hM
       refine oV (.int .i64 (n_1 + 1)) (q_addN _ rfl rfl rfl ho_6.1 ho_6.2) rfl ?_
       refine oM (.int .i64 (n_1 + 1)) rfl rfl ?_
       refine HO.nil (thenQ_normal (?_))
       replace hS : St F_16 (Ow.box bq 73 #[.int .i64 q_0_2, .pointer (some ⟨bq_at, 0, none⟩), .int .i64 q_2_2, .map (some rq_open)] :: Ow.box bq_at 110 #[.map (some rq_at_at)] :: Ow.map rq_at_at kT kI cm_1 :: Ow.pm rq_open (fun (x : T_api_Addr) => .agg (e_api_Addr x).toArray) pv_query_left th_query_left q_3_3 none :: Ow.box b_1 26 (e_api_Tune t).toArray :: Ow.own 34 19 e_api_Asked v_1 (out_1 ++ ([((r_0_1, r_1_1), r_17_1, (vr_18_1, r_18_1))] : List T_api_Asked)) :: Ow.own 30 17 e_api_Addr vr_1 r_3 :: fr) h_17 := hS.perm2 [0, 1, 2, 3, 4, 5, 7] 8 rfl rfl
       rw [hKe_1] at hM
       exact ⟨(q_0_2, cm_1, q_2_2, q_3_3, out_1 ++ ([((r_0_1, r_1_1), r_17_1, (vr_18_1, r_18_1))] : List T_api_Asked), n_1 + 1), ⟨F_16, v_1, rfl, rfl, rfl, rfl, rfl, rfl, rfl, rfl, rfl, rfl, hK, hS, hN_5, hM.1⟩, hM.2⟩
    ·
     replace hM := hM.2 c_4
     refine HA.val (k := 5) (v := .pointer none) rfl rfl (by kernel_rfl) (by kernel_rfl) (want_none) rfl (fun _ ⟨hN_2, c453, c454, c455, c456, c457, c458, c459, c460⟩ => q_pmNo (k := (gi r_3 n_1)) ka_30 tmk_71 c456 rfl rfl (pm_none c_4)) ?_
     refine HA.val (k := 6) (v := .pointer none) rfl rfl (by kernel_rfl) (by kernel_rfl) (want_none) rfl (fun _ ⟨hN_2, c453, c454, c455, c456, c457, c458, c459, c460⟩ => q_assign rfl) ?_
     refine HA.nil ⟨⟨hN_2.is, (hS.box 0 rfl), (hS.box 1 rfl), (hS.mp 2 rfl), (hS.pmi 3 rfl).map, (hS.box 4 rfl), (hS.own 5 rfl), (hS.box 6 rfl), (hS.own 7 rfl)⟩, (Go.Wk.at_nil _ _)⟩ (by kernel_rfl) (thenQ_normal (?_))
     refine HW.seq ?_
     refine HW.region ?_
     refine oM (vout_1) rfl rfl ?_
     refine oM (.pointer none) rfl rfl ?_
     refine oV (.agg (e_api_Addr (gi r_3 n_1)).toArray) (q_loadAgg (cs := (e_api_Addr (gi r_3 n_1))) ta_30 rfl rfl (Blk.cells (k := 17) (hS.box 6 rfl) rfl)) rfl ?_
     exact hM.elim
 ·
  replace hM := hM.2 (of_decide_eq_false c_1)
  refine HW.exit (thenQ_exit (thenQ_exit (blockQ_exit (thenQ_normal (?_)))))
  refine HW.seq ?_
  refine HW.region ?_
  refine oM (.bool r_2) rfl rfl ?_
  refine oM (vout_1) rfl rfl ?_
  refine oA (.bool r_2) rfl rfl ?_
  refine oA (vout_1) rfl rfl ?_
  refine HO.nil (thenQ_normal (?_))
  refine HW.ret (?_)
  refine ⟨.inr rfl, .tuple #[.bool r_2, vout_1], res2 rfl (rt rfl) (rt rfl), ?_⟩
  replace hS : St F_5 (Ow.own 34 19 e_api_Asked vout_1 out_1 :: Ow.box bq 73 #[.int .i64 q_0_2, .pointer (some ⟨bq_at, 0, none⟩), .int .i64 q_2_2, .map (some rq_open)] :: Ow.box bq_at 110 #[.map (some rq_at_at)] :: Ow.map rq_at_at kT kI q_1_0_2 :: Ow.pm rq_open (fun (x : T_api_Addr) => .agg (e_api_Addr x).toArray) pv_query_left th_query_left q_3_2 none :: fr) h_5 := hS.perm2 [5, 0, 1, 2, 3] 7 rfl rfl
  exact ⟨F_5, r_2, out_1, q_0_2, q_1_0_2, q_2_2, q_3_2, vout_1, rfl, hK, hS, hN_2, hM⟩

def law22_lives_W (Q : Bool → Prop) : Prop :=
 query_New_W  (law18_Usual_W  (fun r_4 => query_Queries_Start_W 0 [] 0 [] 0 r_4 (fun q_now_1 qm_1 q_first_1 qm_2 => law18_Usual_W  (fun r_5 => query_Queries_Due_W q_now_1 qm_1 q_first_1 qm_2 0 r_5 (fun r0_1 r1_1 q_now_2 qm_3 q_first_2 qm_4 => law18_Usual_W  (fun r_6 => query_Queries_Due_W q_now_2 qm_3 q_first_2 qm_4 2 r_6 (fun r0_2 r1_2 q_now_3 qm_5 q_first_3 qm_6 => law18_Usual_W  (fun r_7 => query_Queries_Due_W q_now_3 qm_5 q_first_3 qm_6 3 r_7 (fun r0_3 r1_3 q_now_4 qm_7 q_first_4 qm_8 => law18_Usual_W  (fun r_8 => query_Queries_Due_W q_now_4 qm_7 q_first_4 qm_8 14 r_8 (fun r0_4 r1_4 q_now_5 qm_9 q_first_5 qm_10 => law18_Usual_W  (fun r_9 => query_Queries_Due_W q_now_5 qm_9 q_first_5 qm_10 15 r_9 (fun r0_5 r1_5 q_now_6 qm_11 q_first_6 qm_12 => (r0_1 = true → ((!r0_2) = true → (r0_3 = true → ((!r0_4) = true → Q r0_5) ∧ ((!r0_4) = false → Q false)) ∧ (r0_3 = false → Q false)) ∧ ((!r0_2) = false → Q false)) ∧ (r0_1 = false → Q false))))))))))))))
set_option maxHeartbeats 40000000 in
set_option maxRecDepth 100000 in
theorem law22_lives_walk {F : Fz} {fr : List Ow} {h0 : Heap}  (hS : St F (fr) h0)  {Q : Bool → Prop} (hM : law22_lives_W Q) :
  HC Try.prog 13 #[] h0 fun u h' => ∃ (F' : Fz) (r_1 : Bool), u = .bool r_1 ∧ Kp F h0 F' h' ∧ St F' (fr) h' ∧ Q r_1 := by
 unfold law22_lives_W at hM
 have hK := Kp.refl F h0
 refine HC.of_HW (n := 61) Try.func13 rfl rfl (Nat.le_of_ble_eq_true rfl) ?_
 refine HW.seq ?_
 refine HW.region ?_
 refine oA (.bool false) rfl rfl ?_
 refine HO.nil (thenQ_normal (?_))
 refine HW.seq ?_
 refine HW.region ?_
 refine HO.call (want_none) rfl (ec en_8 rfl rfl) (query_New_walk (fr := (fr))  hS hM) ?_
 rintro _ h_1 ⟨F_1, b_1, b_2, r_2, r_3, rfl, hk, hS, hM⟩
 replace hK := hK.trans hk
 refine oA (.pointer (some ⟨b_1, 0, none⟩)) rfl rfl ?_
 refine HO.nil (thenQ_normal (?_))
 refine HW.seq ?_
 refine HW.region ?_
 refine oM (.pointer (some ⟨b_1, 0, none⟩)) rfl rfl ?_
 refine HO.call (want_none) rfl (ec en_10 rfl rfl) (law18_Usual_walk (fr := (Ow.box b_1 73 #[.int .i64 0, .pointer (some ⟨b_2, 0, none⟩), .int .i64 0, .map (some r_3)] :: Ow.box b_2 110 #[.map (some r_2)] :: Ow.map r_2 kT kI ([] : List (Str × Int)) :: Ow.pm r_3 (fun (x : T_api_Addr) => .agg (e_api_Addr x).toArray) pv_query_left th_query_left ([] : List (T_api_Addr × (Nat × Nat) × T_query_left)) none :: fr))  hS hM) ?_
 rintro _ h_2 ⟨F_2, r_4, rfl, hk, hS, hM⟩
 replace hK := hK.trans hk
 refine HO.call (want_none) rfl (ec en_31 rfl rfl) (query_Queries_Start_walk (fr := (fr)) 0 [] 0 [] 0 r_4 b_1 b_2 r_2 r_3 hS hM) ?_
 rintro _ h_3 ⟨F_3, q_now_1, qm_1, q_first_1, qm_2, rfl, hk, hS, hM⟩
 replace hK := hK.trans hk
 refine HO.nil (thenQ_normal (?_))
 refine HW.seq ?_
 refine HW.region ?_
 refine oM (.pointer (some ⟨b_1, 0, none⟩)) rfl rfl ?_
 refine HO.call (want_none) rfl (ec en_10 rfl rfl) (law18_Usual_walk (fr := (Ow.box b_1 73 #[.int .i64 q_now_1, .pointer (some ⟨b_2, 0, none⟩), .int .i64 q_first_1, .map (some r_3)] :: Ow.box b_2 110 #[.map (some r_2)] :: Ow.map r_2 kT kI qm_1 :: Ow.pm r_3 (fun (x : T_api_Addr) => .agg (e_api_Addr x).toArray) pv_query_left th_query_left qm_2 none :: fr))  hS hM) ?_
 rintro _ h_4 ⟨F_4, r_5, rfl, hk, hS, hM⟩
 replace hK := hK.trans hk
 refine HO.call (want_none) rfl (ec en_16 rfl rfl) (query_Queries_Due_walk (fr := (fr)) q_now_1 qm_1 q_first_1 qm_2 0 r_5 b_1 b_2 r_2 r_3 hS hM) ?_
 rintro _ h_5 ⟨F_5, r0_1, r1_1, q_now_2, qm_3, q_first_2, qm_4, vr1_1, rfl, hk, hS, hL_1, hM⟩
 replace hK := hK.trans hk
 refine oM (.tuple #[.bool r0_1, vr1_1]) rfl rfl ?_
 refine oV (.bool r0_1) (q_extract rfl rfl) rfl ?_
 refine oV (vr1_1) (q_extract rfl rfl) rfl ?_
 refine oA (.bool r0_1) rfl rfl ?_
 refine oA (vr1_1) rfl rfl ?_
 refine HO.nil (thenQ_normal (?_))
 refine HW.seq ?_
 refine HW.region ?_
 refine oM (.pointer (some ⟨b_1, 0, none⟩)) rfl rfl ?_
 refine HO.call (want_none) rfl (ec en_10 rfl rfl) (law18_Usual_walk (fr := (Ow.own 34 19 e_api_Asked vr1_1 r1_1 :: Ow.box b_1 73 #[.int .i64 q_now_2, .pointer (some ⟨b_2, 0, none⟩), .int .i64 q_first_2, .map (some r_3)] :: Ow.box b_2 110 #[.map (some r_2)] :: Ow.map r_2 kT kI qm_3 :: Ow.pm r_3 (fun (x : T_api_Addr) => .agg (e_api_Addr x).toArray) pv_query_left th_query_left qm_4 none :: fr))  hS hM) ?_
 rintro _ h_6 ⟨F_6, r_6, rfl, hk, hS, hM⟩
 replace hK := hK.trans hk
 replace hS : St F_6 (Ow.box b_1 73 #[.int .i64 q_now_2, .pointer (some ⟨b_2, 0, none⟩), .int .i64 q_first_2, .map (some r_3)] :: Ow.box b_2 110 #[.map (some r_2)] :: Ow.map r_2 kT kI qm_3 :: Ow.pm r_3 (fun (x : T_api_Addr) => .agg (e_api_Addr x).toArray) pv_query_left th_query_left qm_4 none :: Ow.own 34 19 e_api_Asked vr1_1 r1_1 :: fr) h_6 := hS.perm2 [1, 2, 3, 4, 0] 5 rfl rfl
 refine HO.call (want_none) rfl (ec en_16 rfl rfl) (query_Queries_Due_walk (fr := (Ow.own 34 19 e_api_Asked vr1_1 r1_1 :: fr)) q_now_2 qm_3 q_first_2 qm_4 2 r_6 b_1 b_2 r_2 r_3 hS hM) ?_
 rintro _ h_7 ⟨F_7, r0_2, r1_2, q_now_3, qm_5, q_first_3, qm_6, vr1_2, rfl, hk, hS, hL_2, hM⟩
 replace hK := hK.trans hk
 refine oM (.tuple #[.bool r0_2, vr1_2]) rfl rfl ?_
 refine oV (.bool r0_2) (q_extract rfl rfl) rfl ?_
 refine oV (vr1_2) (q_extract rfl rfl) rfl ?_
 refine oA (.bool r0_2) rfl rfl ?_
 refine oA (vr1_2) rfl rfl ?_
 refine HO.nil (thenQ_normal (?_))
 refine HW.seq ?_
 refine HW.region ?_
 refine oM (.pointer (some ⟨b_1, 0, none⟩)) rfl rfl ?_
 refine HO.call (want_none) rfl (ec en_10 rfl rfl) (law18_Usual_walk (fr := (Ow.own 34 19 e_api_Asked vr1_2 r1_2 :: Ow.box b_1 73 #[.int .i64 q_now_3, .pointer (some ⟨b_2, 0, none⟩), .int .i64 q_first_3, .map (some r_3)] :: Ow.box b_2 110 #[.map (some r_2)] :: Ow.map r_2 kT kI qm_5 :: Ow.pm r_3 (fun (x : T_api_Addr) => .agg (e_api_Addr x).toArray) pv_query_left th_query_left qm_6 none :: Ow.own 34 19 e_api_Asked vr1_1 r1_1 :: fr))  hS hM) ?_
 rintro _ h_8 ⟨F_8, r_7, rfl, hk, hS, hM⟩
 replace hK := hK.trans hk
 replace hS : St F_8 (Ow.box b_1 73 #[.int .i64 q_now_3, .pointer (some ⟨b_2, 0, none⟩), .int .i64 q_first_3, .map (some r_3)] :: Ow.box b_2 110 #[.map (some r_2)] :: Ow.map r_2 kT kI qm_5 :: Ow.pm r_3 (fun (x : T_api_Addr) => .agg (e_api_Addr x).toArray) pv_query_left th_query_left qm_6 none :: Ow.own 34 19 e_api_Asked vr1_2 r1_2 :: Ow.own 34 19 e_api_Asked vr1_1 r1_1 :: fr) h_8 := hS.perm2 [1, 2, 3, 4, 0, 5] 6 rfl rfl
 refine HO.call (want_none) rfl (ec en_16 rfl rfl) (query_Queries_Due_walk (fr := (Ow.own 34 19 e_api_Asked vr1_2 r1_2 :: Ow.own 34 19 e_api_Asked vr1_1 r1_1 :: fr)) q_now_3 qm_5 q_first_3 qm_6 3 r_7 b_1 b_2 r_2 r_3 hS hM) ?_
 rintro _ h_9 ⟨F_9, r0_3, r1_3, q_now_4, qm_7, q_first_4, qm_8, vr1_3, rfl, hk, hS, hL_3, hM⟩
 replace hK := hK.trans hk
 refine oM (.tuple #[.bool r0_3, vr1_3]) rfl rfl ?_
 refine oV (.bool r0_3) (q_extract rfl rfl) rfl ?_
 refine oV (vr1_3) (q_extract rfl rfl) rfl ?_
 refine oA (.bool r0_3) rfl rfl ?_
 refine oA (vr1_3) rfl rfl ?_
 refine HO.nil (thenQ_normal (?_))
 refine HW.seq ?_
 refine HW.region ?_
 refine oM (.pointer (some ⟨b_1, 0, none⟩)) rfl rfl ?_
 refine HO.call (want_none) rfl (ec en_10 rfl rfl) (law18_Usual_walk (fr := (Ow.own 34 19 e_api_Asked vr1_3 r1_3 :: Ow.box b_1 73 #[.int .i64 q_now_4, .pointer (some ⟨b_2, 0, none⟩), .int .i64 q_first_4, .map (some r_3)] :: Ow.box b_2 110 #[.map (some r_2)] :: Ow.map r_2 kT kI qm_7 :: Ow.pm r_3 (fun (x : T_api_Addr) => .agg (e_api_Addr x).toArray) pv_query_left th_query_left qm_8 none :: Ow.own 34 19 e_api_Asked vr1_2 r1_2 :: Ow.own 34 19 e_api_Asked vr1_1 r1_1 :: fr))  hS hM) ?_
 rintro _ h_10 ⟨F_10, r_8, rfl, hk, hS, hM⟩
 replace hK := hK.trans hk
 replace hS : St F_10 (Ow.box b_1 73 #[.int .i64 q_now_4, .pointer (some ⟨b_2, 0, none⟩), .int .i64 q_first_4, .map (some r_3)] :: Ow.box b_2 110 #[.map (some r_2)] :: Ow.map r_2 kT kI qm_7 :: Ow.pm r_3 (fun (x : T_api_Addr) => .agg (e_api_Addr x).toArray) pv_query_left th_query_left qm_8 none :: Ow.own 34 19 e_api_Asked vr1_3 r1_3 :: Ow.own 34 19 e_api_Asked vr1_2 r1_2 :: Ow.own 34 19 e_api_Asked vr1_1 r1_1 :: fr) h_10 := hS.perm2 [1, 2, 3, 4, 0, 5, 6] 7 rfl rfl
 refine HO.call (want_none) rfl (ec en_16 rfl rfl) (query_Queries_Due_walk (fr := (Ow.own 34 19 e_api_Asked vr1_3 r1_3 :: Ow.own 34 19 e_api_Asked vr1_2 r1_2 :: Ow.own 34 19 e_api_Asked vr1_1 r1_1 :: fr)) q_now_4 qm_7 q_first_4 qm_8 14 r_8 b_1 b_2 r_2 r_3 hS hM) ?_
 rintro _ h_11 ⟨F_11, r0_4, r1_4, q_now_5, qm_9, q_first_5, qm_10, vr1_4, rfl, hk, hS, hL_4, hM⟩
 replace hK := hK.trans hk
 refine oM (.tuple #[.bool r0_4, vr1_4]) rfl rfl ?_
 refine oV (.bool r0_4) (q_extract rfl rfl) rfl ?_
 refine oV (vr1_4) (q_extract rfl rfl) rfl ?_
 refine oA (.bool r0_4) rfl rfl ?_
 refine oA (vr1_4) rfl rfl ?_
 refine HO.nil (thenQ_normal (?_))
 refine HW.seq ?_
 refine HW.region ?_
 refine oM (.pointer (some ⟨b_1, 0, none⟩)) rfl rfl ?_
 refine HO.call (want_none) rfl (ec en_10 rfl rfl) (law18_Usual_walk (fr := (Ow.own 34 19 e_api_Asked vr1_4 r1_4 :: Ow.box b_1 73 #[.int .i64 q_now_5, .pointer (some ⟨b_2, 0, none⟩), .int .i64 q_first_5, .map (some r_3)] :: Ow.box b_2 110 #[.map (some r_2)] :: Ow.map r_2 kT kI qm_9 :: Ow.pm r_3 (fun (x : T_api_Addr) => .agg (e_api_Addr x).toArray) pv_query_left th_query_left qm_10 none :: Ow.own 34 19 e_api_Asked vr1_3 r1_3 :: Ow.own 34 19 e_api_Asked vr1_2 r1_2 :: Ow.own 34 19 e_api_Asked vr1_1 r1_1 :: fr))  hS hM) ?_
 rintro _ h_12 ⟨F_12, r_9, rfl, hk, hS, hM⟩
 replace hK := hK.trans hk
 replace hS : St F_12 (Ow.box b_1 73 #[.int .i64 q_now_5, .pointer (some ⟨b_2, 0, none⟩), .int .i64 q_first_5, .map (some r_3)] :: Ow.box b_2 110 #[.map (some r_2)] :: Ow.map r_2 kT kI qm_9 :: Ow.pm r_3 (fun (x : T_api_Addr) => .agg (e_api_Addr x).toArray) pv_query_left th_query_left qm_10 none :: Ow.own 34 19 e_api_Asked vr1_4 r1_4 :: Ow.own 34 19 e_api_Asked vr1_3 r1_3 :: Ow.own 34 19 e_api_Asked vr1_2 r1_2 :: Ow.own 34 19 e_api_Asked vr1_1 r1_1 :: fr) h_12 := hS.perm2 [1, 2, 3, 4, 0, 5, 6, 7] 8 rfl rfl
 refine HO.call (want_none) rfl (ec en_16 rfl rfl) (query_Queries_Due_walk (fr := (Ow.own 34 19 e_api_Asked vr1_4 r1_4 :: Ow.own 34 19 e_api_Asked vr1_3 r1_3 :: Ow.own 34 19 e_api_Asked vr1_2 r1_2 :: Ow.own 34 19 e_api_Asked vr1_1 r1_1 :: fr)) q_now_5 qm_9 q_first_5 qm_10 15 r_9 b_1 b_2 r_2 r_3 hS hM) ?_
 rintro _ h_13 ⟨F_13, r0_5, r1_5, q_now_6, qm_11, q_first_6, qm_12, vr1_5, rfl, hk, hS, hL_5, hM⟩
 replace hK := hK.trans hk
 refine oM (.tuple #[.bool r0_5, vr1_5]) rfl rfl ?_
 refine oV (.bool r0_5) (q_extract rfl rfl) rfl ?_
 refine oV (vr1_5) (q_extract rfl rfl) rfl ?_
 refine oA (.bool r0_5) rfl rfl ?_
 refine oA (vr1_5) rfl rfl ?_
 refine HO.nil (thenQ_normal (?_))
 refine HW.seq ?_
 refine HW.region ?_
 refine oM (.bool r0_1) rfl rfl ?_
 refine oM (.bool r0_1) rfl rfl ?_
 rcases Bool.eq_false_or_eq_true r0_1 with c_1 | c_1
 ·
  replace hM := hM.1 c_1
  refine HO.val (v := .bool r0_2) (want_by rfl rfl c_1) rfl (q_move rfl) ?_
  refine HO.val (v := .bool (!r0_2)) (want_by rfl rfl c_1) rfl (q_not rfl) ?_
  refine oV (.bool (!r0_2)) (q_pickK true rfl c_1 rfl) rfl ?_
  refine oM (.bool (!r0_2)) rfl rfl ?_
  rcases Bool.eq_false_or_eq_true (!r0_2) with c_2 | c_2
  ·
   replace hM := hM.1 c_2
   refine HO.val (v := .bool r0_3) (want_by rfl rfl c_2) rfl (q_move rfl) ?_
   refine oV (.bool r0_3) (q_pickK true rfl c_2 rfl) rfl ?_
   refine oM (.bool r0_3) rfl rfl ?_
   rcases Bool.eq_false_or_eq_true r0_3 with c_3 | c_3
   ·
    replace hM := hM.1 c_3
    refine HO.val (v := .bool r0_4) (want_by rfl rfl c_3) rfl (q_move rfl) ?_
    refine HO.val (v := .bool (!r0_4)) (want_by rfl rfl c_3) rfl (q_not rfl) ?_
    refine oV (.bool (!r0_4)) (q_pickK true rfl c_3 rfl) rfl ?_
    refine oM (.bool (!r0_4)) rfl rfl ?_
    rcases Bool.eq_false_or_eq_true (!r0_4) with c_4 | c_4
    ·
     replace hM := hM.1 c_4
     refine HO.val (v := .bool r0_5) (want_by rfl rfl c_4) rfl (q_move rfl) ?_
     refine oV (.bool r0_5) (q_pickK true rfl c_4 rfl) rfl ?_
     refine oA (.bool r0_5) rfl rfl ?_
     refine HO.nil (thenQ_normal (?_))
     refine HW.ret (?_)
     refine ⟨.inr rfl, .bool r0_5, res1 rfl (rt rfl), ?_⟩
     replace hS : St F_13 (fr) h_13 := hS.perm2 [] 9 rfl rfl
     exact ⟨F_13, r0_5, rfl, hK, hS, hM⟩
    ·
     replace hM := hM.2 c_4
     refine HO.past (past_by rfl rfl c_4) rfl ?_
     refine oV (.bool false) (q_pickK false rfl c_4 rfl) rfl ?_
     refine oA (.bool false) rfl rfl ?_
     refine HO.nil (thenQ_normal (?_))
     refine HW.ret (?_)
     refine ⟨.inr rfl, .bool false, res1 rfl (rt rfl), ?_⟩
     replace hS : St F_13 (fr) h_13 := hS.perm2 [] 9 rfl rfl
     exact ⟨F_13, false, rfl, hK, hS, hM⟩
   ·
    replace hM := hM.2 c_3
    refine HO.past (past_by rfl rfl c_3) rfl ?_
    refine HO.past (past_by rfl rfl c_3) rfl ?_
    refine oV (.bool false) (q_pickK false rfl c_3 rfl) rfl ?_
    refine oM (.bool false) rfl rfl ?_
    refine HO.past (past_some rfl rfl) rfl ?_
    refine oV (.bool false) (q_pick rfl rfl) rfl ?_
    refine oA (.bool false) rfl rfl ?_
    refine HO.nil (thenQ_normal (?_))
    refine HW.ret (?_)
    refine ⟨.inr rfl, .bool false, res1 rfl (rt rfl), ?_⟩
    replace hS : St F_13 (fr) h_13 := hS.perm2 [] 9 rfl rfl
    exact ⟨F_13, false, rfl, hK, hS, hM⟩
  ·
   replace hM := hM.2 c_2
   refine HO.past (past_by rfl rfl c_2) rfl ?_
   refine oV (.bool false) (q_pickK false rfl c_2 rfl) rfl ?_
   refine oM (.bool false) rfl rfl ?_
   refine HO.past (past_some rfl rfl) rfl ?_
   refine HO.past (past_some rfl rfl) rfl ?_
   refine oV (.bool false) (q_pick rfl rfl) rfl ?_
   refine oM (.bool false) rfl rfl ?_
   refine HO.past (past_some rfl rfl) rfl ?_
   refine oV (.bool false) (q_pick rfl rfl) rfl ?_
   refine oA (.bool false) rfl rfl ?_
   refine HO.nil (thenQ_normal (?_))
   refine HW.ret (?_)
   refine ⟨.inr rfl, .bool false, res1 rfl (rt rfl), ?_⟩
   replace hS : St F_13 (fr) h_13 := hS.perm2 [] 9 rfl rfl
   exact ⟨F_13, false, rfl, hK, hS, hM⟩
 ·
  replace hM := hM.2 c_1
  refine HO.past (past_by rfl rfl c_1) rfl ?_
  refine HO.past (past_by rfl rfl c_1) rfl ?_
  refine oV (.bool false) (q_pickK false rfl c_1 rfl) rfl ?_
  refine oM (.bool false) rfl rfl ?_
  refine HO.past (past_some rfl rfl) rfl ?_
  refine oV (.bool false) (q_pick rfl rfl) rfl ?_
  refine oM (.bool false) rfl rfl ?_
  refine HO.past (past_some rfl rfl) rfl ?_
  refine HO.past (past_some rfl rfl) rfl ?_
  refine oV (.bool false) (q_pick rfl rfl) rfl ?_
  refine oM (.bool false) rfl rfl ?_
  refine HO.past (past_some rfl rfl) rfl ?_
  refine oV (.bool false) (q_pick rfl rfl) rfl ?_
  refine oA (.bool false) rfl rfl ?_
  refine HO.nil (thenQ_normal (?_))
  refine HW.ret (?_)
  refine ⟨.inr rfl, .bool false, res1 rfl (rt rfl), ?_⟩
  replace hS : St F_13 (fr) h_13 := hS.perm2 [] 9 rfl rfl
  exact ⟨F_13, false, rfl, hK, hS, hM⟩

def law22_QueryFull_j2 (Q : Bool → Prop) (q_0_1 : Int) (q_1_0_1 : List (Str × Int)) (q_2_1 : Int) (q_3_1 : List (T_api_Addr × (Nat × Nat) × T_query_left)) (r_13 : List T_api_Asked) (n_1 : Int) (c_5 : Int) : Prop :=
 query_Queries_Open_W q_0_1 q_1_0_1 q_2_1 q_3_1 (fun r_14 q_now_4 qm_7 q_first_4 qm_8 => ((r_14.length : Int) = n_1 → ((r_13.length : Int) = 1 → ((0 : Int) ≤ 0 ∧ 0 < (r_13.length : Int)) ∧ ((((((gi r_13 0).2.2).2).length : Int) = c_5 → law22_lives_W  (fun r_15 => Q r_15)) ∧ (¬ (((((gi r_13 0).2.2).2).length : Int) = c_5) → Q false))) ∧ (¬ ((r_13.length : Int) = 1) → Q false)) ∧ (¬ ((r_14.length : Int) = n_1) → Q false))
def law22_QueryFull_j1 (k : Int) (Q : Bool → Prop) (q_0_1 : Int) (q_1_0_1 : List (Str × Int)) (q_2_1 : Int) (q_3_1 : List (T_api_Addr × (Nat × Nat) × T_query_left)) (r_13 : List T_api_Asked) (n_1 : Int) : Prop :=
 (64 < (k.tmod 70) → law22_QueryFull_j2 Q q_0_1 q_1_0_1 q_2_1 q_3_1 r_13 n_1 64) ∧ (¬ (64 < (k.tmod 70)) → law22_QueryFull_j2 Q q_0_1 q_1_0_1 q_2_1 q_3_1 r_13 n_1 (k.tmod 70))
def law22_QueryFull_l3 (n : Int) (k : Int) (Q : Bool → Prop) (q_0_1 : Int) (q_1_0_1 : List (Str × Int)) (q_2_1 : Int) (q_3_1 : List (T_api_Addr × (Nat × Nat) × T_query_left)) (K_2 : (List T_api_Addr) → Int → Prop) (l_2 : List T_api_Addr) (i_2 : Int) : Prop :=
 (i_2 < (k.tmod 70) → law22_four_W 10 i_2 (fun r_7 => ((l_2.length + ([r_7] : List T_api_Addr).length) * 17 ≤ 140737488355328) ∧ ((I64 (i_2 + 1)) ∧ (K_2 (l_2 ++ ([r_7] : List T_api_Addr)) (i_2 + 1))))) ∧ (¬ (i_2 < (k.tmod 70)) → query_New_W  (law18_Usual_W  (fun r_10 => law22_four_W 239 1 (fun r_11 => query_Queries_Want_W 0 [] 0 [] 0 r_10 r_11 true l_2 (fun r_12 q_now_2 qm_3 q_first_2 qm_4 => query_Queries_Open_W q_now_2 qm_3 q_first_2 qm_4 (fun r_13 q_now_3 qm_5 q_first_3 qm_6 => (64 < (n.tmod 70) → law22_QueryFull_j1 k Q q_0_1 q_1_0_1 q_2_1 q_3_1 r_13 64) ∧ (¬ (64 < (n.tmod 70)) → law22_QueryFull_j1 k Q q_0_1 q_1_0_1 q_2_1 q_3_1 r_13 (n.tmod 70))))))))
def law22_QueryFull_l1 (n : Int) (k : Int) (Q : Bool → Prop) (K_1 : Int → (List (Str × Int)) → Int → (List (T_api_Addr × (Nat × Nat) × T_query_left)) → Int → Prop) (q_0_1 : Int) (q_1_0_1 : List (Str × Int)) (q_2_1 : Int) (q_3_1 : List (T_api_Addr × (Nat × Nat) × T_query_left)) (i_1 : Int) : Prop :=
 (i_1 < (n.tmod 70) → law18_Usual_W  (fun r_4 => law22_four_W 239 i_1 (fun r_5 => query_Queries_Want_W q_0_1 q_1_0_1 q_2_1 q_3_1 0 r_4 r_5 true [] (fun r_6 q_now_1 qm_1 q_first_1 qm_2 => ((!(r_6 == (decide (i_1 < 64)))) = true → Q false) ∧ ((!(r_6 == (decide (i_1 < 64)))) = false → (I64 (i_1 + 1)) ∧ (K_1 q_now_1 qm_1 q_first_1 qm_2 (i_1 + 1))))))) ∧ (¬ (i_1 < (n.tmod 70)) → loopW (fun (K_2 : (List T_api_Addr × Int) → Prop) (s : List T_api_Addr × Int) => law22_QueryFull_l3 n k Q q_0_1 q_1_0_1 q_2_1 q_3_1 (fun l_2 i_2 => K_2 (l_2, i_2)) s.1 s.2) ([], 0))
def law22_QueryFull_W (n : Int) (k : Int) (Q : Bool → Prop) : Prop :=
 query_New_W  ((I64 (n.tmod 70)) ∧ ((I64 (k.tmod 70)) ∧ (loopW (fun (K_1 : (Int × (List (Str × Int)) × Int × (List (T_api_Addr × (Nat × Nat) × T_query_left)) × Int) → Prop) (s : Int × (List (Str × Int)) × Int × (List (T_api_Addr × (Nat × Nat) × T_query_left)) × Int) => law22_QueryFull_l1 n k Q (fun q_0_1 q_1_0_1 q_2_1 q_3_1 i_1 => K_1 (q_0_1, q_1_0_1, q_2_1, q_3_1, i_1)) s.1 s.2.1 s.2.2.1 s.2.2.2.1 s.2.2.2.2) (0, [], 0, [], 0))))
set_option maxHeartbeats 40000000 in
set_option maxRecDepth 100000 in
theorem law22_QueryFull_walk {F : Fz} {fr : List Ow} {h0 : Heap} (n : Int) (k : Int) (hS : St F (fr) h0)  {Q : Bool → Prop} (hM : law22_QueryFull_W n k Q) :
  HC Try.prog 3 #[.int .u8 n, .int .u8 k] h0 fun u h' => ∃ (F' : Fz) (r_1 : Bool), u = .bool r_1 ∧ Kp F h0 F' h' ∧ St F' (fr) h' ∧ Q r_1 := by
 unfold law22_QueryFull_W at hM
 have hK := Kp.refl F h0
 refine HC.of_HW (n := 80) Try.func3 rfl rfl (Nat.le_of_ble_eq_true rfl) ?_
 refine HW.seq ?_
 refine HW.region ?_
 refine oA (.bool false) rfl rfl ?_
 refine HO.nil (thenQ_normal (?_))
 refine HW.seq ?_
 refine HW.region ?_
 refine HO.call (want_none) rfl (ec en_8 rfl rfl) (query_New_walk (fr := (fr))  hS hM) ?_
 rintro _ h_1 ⟨F_1, b_1, b_2, r_2, r_3, rfl, hk, hS, hM⟩
 replace hK := hK.trans hk
 refine oM (.int .u8 n) rfl rfl ?_
 refine oV (.int .u8 (n.tmod 70)) (q_rem rfl rfl (by decide)) rfl ?_
 obtain ⟨ho_1, hM⟩ := hM
 refine oV (.int .i64 (n.tmod 70)) (q_convInt Try.underlying5 Try.underlying3 rfl (wrap_i64 ho_1.1 ho_1.2)) rfl ?_
 refine oM (.int .u8 k) rfl rfl ?_
 refine oV (.int .u8 (k.tmod 70)) (q_rem rfl rfl (by decide)) rfl ?_
 obtain ⟨ho_2, hM⟩ := hM
 refine oV (.int .i64 (k.tmod 70)) (q_convInt Try.underlying5 Try.underlying3 rfl (wrap_i64 ho_2.1 ho_2.2)) rfl ?_
 refine oA (.pointer (some ⟨b_1, 0, none⟩)) rfl rfl ?_
 refine oA (.int .i64 (n.tmod 70)) rfl rfl ?_
 refine oA (.int .i64 (k.tmod 70)) rfl rfl ?_
 refine HO.nil (thenQ_normal (?_))
 refine HW.seq ?_
 refine HW.seq ?_
 refine HW.region ?_
 refine oA (.int .i64 0) rfl rfl ?_
 refine HO.nil (thenQ_normal (?_))
 refine HW.block ?_
 obtain ⟨I_1, m_1, hI_1, hR_1⟩ := hM
 refine HW.loop (S := Int × (List (Str × Int)) × Int × (List (T_api_Addr × (Nat × Nat) × T_query_left)) × Int) (fun s f h => match s with | (q_0_1, q_1_0_1, q_2_1, q_3_1, i_1) => ∃ (F' : Fz), f 4 = .bool false ∧ f 5 = .pointer (some ⟨b_1, 0, none⟩) ∧ f 6 = .int .i64 (n.tmod 70) ∧ f 7 = .int .i64 (k.tmod 70) ∧ f 8 = .int .i64 i_1 ∧ Kp F h0 F' h ∧ St F' (Ow.box b_1 73 #[.int .i64 q_0_1, .pointer (some ⟨b_2, 0, none⟩), .int .i64 q_2_1, .map (some r_3)] :: Ow.box b_2 110 #[.map (some r_2)] :: Ow.map r_2 kT kI q_1_0_1 :: Ow.pm r_3 (fun (x : T_api_Addr) => .agg (e_api_Addr x).toArray) pv_query_left th_query_left q_3_1 none :: fr) h ∧ I_1 (q_0_1, q_1_0_1, q_2_1, q_3_1, i_1)) m_1 (0, [], 0, [], 0) ⟨F_1, rfl, rfl, rfl, rfl, rfl, hK, hS, hI_1⟩ ?_
 rintro ⟨q_0_1, q_1_0_1, q_2_1, q_3_1, i_1⟩ f_1 h_2 ⟨F_2, e4, e5, e6, e7, e8, hK, hS, hI0⟩
 obtain ⟨K_1, hKe_1⟩ : ∃ K : Int → (List (Str × Int)) → Int → (List (T_api_Addr × (Nat × Nat) × T_query_left)) → Int → Prop, K = fun q_0_1' q_1_0_1' q_2_1' q_3_1' i_1' => I_1 (q_0_1', q_1_0_1', q_2_1', q_3_1', i_1') ∧ m_1 (q_0_1', q_1_0_1', q_2_1', q_3_1', i_1') < m_1 (q_0_1, q_1_0_1, q_2_1, q_3_1, i_1) := ⟨_, rfl⟩
 have hM : law22_QueryFull_l1 n k Q K_1 q_0_1 q_1_0_1 q_2_1 q_3_1 i_1 := by rw [hKe_1]; exact hR_1 (q_0_1, q_1_0_1, q_2_1, q_3_1, i_1) hI0
 unfold law22_QueryFull_l1 at hM
 refine HW.fr [(4, .bool false), (5, .pointer (some ⟨b_1, 0, none⟩)), (6, .int .i64 (n.tmod 70)), (7, .int .i64 (k.tmod 70)), (8, .int .i64 i_1)] ⟨e4, e5, e6, e7, e8, trivial⟩ ?_
 refine HW.seq ?_
 refine HW.seq ?_
 refine HW.region ?_
 refine oM (.int .i64 i_1) rfl rfl ?_
 refine oM (.int .i64 (n.tmod 70)) rfl rfl ?_
 refine oV (.bool (decide (i_1 < (n.tmod 70)))) (q_lss rfl rfl) rfl ?_
 refine HO.nil (thenQ_normal (?_))
 refine HW.cond (decide (i_1 < (n.tmod 70))) rfl (fun c_1 => ?_) (fun c_1 => ?_)
 ·
  replace hM := hM.1 (of_decide_eq_true c_1)
  refine HW.skip (thenQ_normal (?_))
  refine HW.seq ?_
  refine HW.block ?_
  refine HW.seq ?_
  refine HW.region ?_
  refine oM (.pointer (some ⟨b_1, 0, none⟩)) rfl rfl ?_
  refine HO.call (want_none) rfl (ec en_10 rfl rfl) (law18_Usual_walk (fr := (Ow.box b_1 73 #[.int .i64 q_0_1, .pointer (some ⟨b_2, 0, none⟩), .int .i64 q_2_1, .map (some r_3)] :: Ow.box b_2 110 #[.map (some r_2)] :: Ow.map r_2 kT kI q_1_0_1 :: Ow.pm r_3 (fun (x : T_api_Addr) => .agg (e_api_Addr x).toArray) pv_query_left th_query_left q_3_1 none :: fr))  hS hM) ?_
  rintro _ h_3 ⟨F_3, r_4, rfl, hk, hS, hM⟩
  replace hK := hK.trans hk
  refine oM (.int .i64 i_1) rfl rfl ?_
  refine HO.call (want_none) rfl (ec en_11 rfl rfl) (law22_four_walk (fr := (Ow.box b_1 73 #[.int .i64 q_0_1, .pointer (some ⟨b_2, 0, none⟩), .int .i64 q_2_1, .map (some r_3)] :: Ow.box b_2 110 #[.map (some r_2)] :: Ow.map r_2 kT kI q_1_0_1 :: Ow.pm r_3 (fun (x : T_api_Addr) => .agg (e_api_Addr x).toArray) pv_query_left th_query_left q_3_1 none :: fr)) 239 i_1 hS hM) ?_
  rintro _ h_4 ⟨F_4, r_5, rfl, hk, hS, hM⟩
  replace hK := hK.trans hk
  refine oV (.agg (c_api_Asked r_5 (.bool true) (.slice none 0 0)).toArray) (q_build tp_34 (fill_cons (cs' := (c_api_Asked r_5 (.bool false) (.slice none 0 0)).toArray) (vc := (e_api_Addr r_5).toArray) rfl rfl rfl (Nat.le_of_ble_eq_true rfl) rfl (fill_cons (cs' := (c_api_Asked r_5 (.bool true) (.slice none 0 0)).toArray) (vc := #[.bool true]) rfl rfl rfl (Nat.le_of_ble_eq_true rfl) rfl rfl))) rfl ?_
  refine HO.call (want_none) rfl (ec en_9 rfl rfl) (query_Queries_Want_walk (fr := (fr)) q_0_1 q_1_0_1 q_2_1 q_3_1 0 r_4 r_5 true [] b_1 b_2 r_2 r_3 (.slice none 0 0) hS (SliceF.nil _ _ _ _) hM) ?_
  rintro _ h_5 ⟨F_5, r_6, q_now_1, qm_1, q_first_1, qm_2, rfl, hk, hS, _, hM⟩
  replace hK := hK.trans hk
  refine oM (.int .i64 i_1) rfl rfl ?_
  refine oV (.bool (decide (i_1 < 64))) (q_lss rfl rfl) rfl ?_
  refine oV (.bool (!(r_6 == (decide (i_1 < 64))))) (q_neqB Try.underlying4 rfl rfl) rfl ?_
  refine HO.nil (thenQ_normal (?_))
  refine HW.cond (!(r_6 == (decide (i_1 < 64)))) rfl (fun c_2 => ?_) (fun c_2 => ?_)
  ·
   replace hM := hM.1 c_2
   refine HW.seq ?_
   refine HW.region ?_
   refine oA (.bool false) rfl rfl ?_
   refine HO.nil (thenQ_normal (?_))
   refine HW.ret (blockQ_ret (thenQ_ret (thenQ_ret (blockQ_ret (thenQ_ret (?_))))))
   refine ⟨.inr rfl, .bool false, res1 rfl (rt rfl), ?_⟩
   replace hS : St F_5 (fr) h_5 := hS.perm2 [] 4 rfl rfl
   exact ⟨F_5, false, rfl, hK, hS, hM⟩
  ·
   replace hM := hM.2 c_2
   refine HW.skip (blockQ_normal (thenQ_normal (?_)))
   refine HW.region ?_
   refine oM (.int .i64 i_1) rfl rfl ?_
   obtain ⟨ho_3, hM⟩ := hM
   refine oV (.int .i64 (i_1 + 1)) (q_addN _ rfl rfl rfl ho_3.1 ho_3.2) rfl ?_
   refine oA (.int .i64 (i_1 + 1)) rfl rfl ?_
   refine HO.nil (thenQ_normal (?_))
   rw [hKe_1] at hM
   exact ⟨(q_now_1, qm_1, q_first_1, qm_2, i_1 + 1), ⟨F_5, rfl, rfl, rfl, rfl, rfl, hK, hS, hM.1⟩, hM.2⟩
 ·
  replace hM := hM.2 (of_decide_eq_false c_1)
  refine HW.exit (thenQ_exit (thenQ_exit (blockQ_exit (thenQ_normal (?_)))))
  refine HW.seq ?_
  refine HW.region ?_
  refine HO.eff (want_none) rfl (st_litEmpty (α := T_api_Addr) e_api_Addr hS tl_32) ?_
  rintro _ h_6 ⟨b_3, rfl, hS, hk⟩
  replace hK := hK.trans hk
  refine oA (.slice (some ⟨b_3, 0, none⟩) 0 0) rfl rfl ?_
  refine HO.nil (thenQ_normal (?_))
  refine HW.seq ?_
  refine HW.seq ?_
  refine HW.region ?_
  refine oA (.int .i64 0) rfl rfl ?_
  refine HO.nil (thenQ_normal (?_))
  refine HW.block ?_
  obtain ⟨I_2, m_2, hI_2, hR_2⟩ := hM
  replace hS : St F_2 (Ow.box b_1 73 #[.int .i64 q_0_1, .pointer (some ⟨b_2, 0, none⟩), .int .i64 q_2_1, .map (some r_3)] :: Ow.box b_2 110 #[.map (some r_2)] :: Ow.map r_2 kT kI q_1_0_1 :: Ow.pm r_3 (fun (x : T_api_Addr) => .agg (e_api_Addr x).toArray) pv_query_left th_query_left q_3_1 none :: Ow.own 30 17 e_api_Addr (.slice (some ⟨b_3, 0, none⟩) 0 0) ([] : List T_api_Addr) :: fr) h_6 := hS.perm2 [1, 2, 3, 4, 0] 5 rfl rfl
  refine HW.loop (S := List T_api_Addr × Int) (fun s f h => match s with | (l_2, i_2) => ∃ (F' : Fz) (vl_1 : Value), f 4 = .bool false ∧ f 5 = .pointer (some ⟨b_1, 0, none⟩) ∧ f 6 = .int .i64 (n.tmod 70) ∧ f 7 = .int .i64 (k.tmod 70) ∧ f 9 = vl_1 ∧ f 10 = .int .i64 i_2 ∧ Kp F h0 F' h ∧ St F' (Ow.box b_1 73 #[.int .i64 q_0_1, .pointer (some ⟨b_2, 0, none⟩), .int .i64 q_2_1, .map (some r_3)] :: Ow.box b_2 110 #[.map (some r_2)] :: Ow.map r_2 kT kI q_1_0_1 :: Ow.pm r_3 (fun (x : T_api_Addr) => .agg (e_api_Addr x).toArray) pv_query_left th_query_left q_3_1 none :: Ow.own 30 17 e_api_Addr vl_1 l_2 :: fr) h ∧ I_2 (l_2, i_2)) m_2 ([], 0) ⟨F_2, .slice (some ⟨b_3, 0, none⟩) 0 0, rfl, rfl, rfl, rfl, rfl, rfl, hK, hS, hI_2⟩ ?_
  rintro ⟨l_2, i_2⟩ f_2 h_7 ⟨F_6, vl_1, e4, e5, e6, e7, e9, e10, hK, hS, hI0⟩
  obtain ⟨K_2, hKe_2⟩ : ∃ K : (List T_api_Addr) → Int → Prop, K = fun l_2' i_2' => I_2 (l_2', i_2') ∧ m_2 (l_2', i_2') < m_2 (l_2, i_2) := ⟨_, rfl⟩
  have hM : law22_QueryFull_l3 n k Q q_0_1 q_1_0_1 q_2_1 q_3_1 K_2 l_2 i_2 := by rw [hKe_2]; exact hR_2 (l_2, i_2) hI0
  unfold law22_QueryFull_l3 at hM
  refine HW.fr [(4, .bool false), (5, .pointer (some ⟨b_1, 0, none⟩)), (6, .int .i64 (n.tmod 70)), (7, .int .i64 (k.tmod 70)), (9, vl_1), (10, .int .i64 i_2)] ⟨e4, e5, e6, e7, e9, e10, trivial⟩ ?_
  refine HW.seq ?_
  refine HW.seq ?_
  refine HW.region ?_
  refine oM (.int .i64 i_2) rfl rfl ?_
  refine oM (.int .i64 (k.tmod 70)) rfl rfl ?_
  refine oV (.bool (decide (i_2 < (k.tmod 70)))) (q_lss rfl rfl) rfl ?_
  refine HO.nil (thenQ_normal (?_))
  refine HW.cond (decide (i_2 < (k.tmod 70))) rfl (fun c_3 => ?_) (fun c_3 => ?_)
  ·
   replace hM := hM.1 (of_decide_eq_true c_3)
   refine HW.skip (thenQ_normal (?_))
   refine HW.seq ?_
   refine HW.block ?_
   refine HW.region ?_
   refine oM (vl_1) rfl rfl ?_
   refine oM (.int .i64 i_2) rfl rfl ?_
   refine HO.call (want_none) rfl (ec en_11 rfl rfl) (law22_four_walk (fr := (Ow.box b_1 73 #[.int .i64 q_0_1, .pointer (some ⟨b_2, 0, none⟩), .int .i64 q_2_1, .map (some r_3)] :: Ow.box b_2 110 #[.map (some r_2)] :: Ow.map r_2 kT kI q_1_0_1 :: Ow.pm r_3 (fun (x : T_api_Addr) => .agg (e_api_Addr x).toArray) pv_query_left th_query_left q_3_1 none :: Ow.own 30 17 e_api_Addr vl_1 l_2 :: fr)) 10 i_2 hS hM) ?_
   rintro _ h_8 ⟨F_7, r_7, rfl, hk, hS, hM⟩
   replace hK := hK.trans hk
   refine HO.eff (want_none) rfl (st_lit (enc := e_api_Addr) (cells := #[.bool r_7.1, .int .u8 (b8 r_7.2 0), .int .u8 (b8 r_7.2 1), .int .u8 (b8 r_7.2 2), .int .u8 (b8 r_7.2 3), .int .u8 (b8 r_7.2 4), .int .u8 (b8 r_7.2 5), .int .u8 (b8 r_7.2 6), .int .u8 (b8 r_7.2 7), .int .u8 (b8 r_7.2 8), .int .u8 (b8 r_7.2 9), .int .u8 (b8 r_7.2 10), .int .u8 (b8 r_7.2 11), .int .u8 (b8 r_7.2 12), .int .u8 (b8 r_7.2 13), .int .u8 (b8 r_7.2 14), .int .u8 (b8 r_7.2 15)]) #[.bool false, .int .u8 0, .int .u8 0, .int .u8 0, .int .u8 0, .int .u8 0, .int .u8 0, .int .u8 0, .int .u8 0, .int .u8 0, .int .u8 0, .int .u8 0, .int .u8 0, .int .u8 0, .int .u8 0, .int .u8 0, .int .u8 0] ([r_7] : List T_api_Addr) hS tl_32 (by decide) (by decide) (by kernel_rfl) (by kernel_rfl) rfl (by intro x hx; rfl) rfl) ?_
   rintro _ h_9 ⟨b_4, rfl, hS, hk⟩
   replace hK := hK.trans hk
   obtain ⟨ho_4, hM⟩ := hM
   refine HO.eff (want_none) rfl (st_append te_32 hS (i := 5) rfl (hS.own 0 rfl).slice rfl rfl rfl (by intro a _ u hu; simp [e_api_Addr, encI, encN, encB, encT] at hu; rcases hu with rfl | rfl | rfl | rfl | rfl | rfl | rfl | rfl | rfl | rfl | rfl | rfl | rfl | rfl | rfl | rfl | rfl <;> rfl) ho_4 (by omega)) ?_
   rintro v_1 h_10 ⟨hS, hk⟩
   replace hK := hK.trans hk
   refine oA (v_1) rfl rfl ?_
   refine HO.nil (blockQ_normal (thenQ_normal (?_)))
   refine HW.region ?_
   refine oM (.int .i64 i_2) rfl rfl ?_
   obtain ⟨ho_5, hM⟩ := hM
   refine oV (.int .i64 (i_2 + 1)) (q_addN _ rfl rfl rfl ho_5.1 ho_5.2) rfl ?_
   refine oA (.int .i64 (i_2 + 1)) rfl rfl ?_
   refine HO.nil (thenQ_normal (?_))
   replace hS : St F_7 (Ow.box b_1 73 #[.int .i64 q_0_1, .pointer (some ⟨b_2, 0, none⟩), .int .i64 q_2_1, .map (some r_3)] :: Ow.box b_2 110 #[.map (some r_2)] :: Ow.map r_2 kT kI q_1_0_1 :: Ow.pm r_3 (fun (x : T_api_Addr) => .agg (e_api_Addr x).toArray) pv_query_left th_query_left q_3_1 none :: Ow.own 30 17 e_api_Addr v_1 (l_2 ++ ([r_7] : List T_api_Addr)) :: fr) h_10 := hS.perm2 [1, 2, 3, 4, 5] 6 rfl rfl
   rw [hKe_2] at hM
   exact ⟨(l_2 ++ ([r_7] : List T_api_Addr), i_2 + 1), ⟨F_7, v_1, rfl, rfl, rfl, rfl, rfl, rfl, hK, hS, hM.1⟩, hM.2⟩
  ·
   replace hM := hM.2 (of_decide_eq_false c_3)
   refine HW.exit (thenQ_exit (thenQ_exit (blockQ_exit (thenQ_normal (?_)))))
   refine HW.seq ?_
   refine HW.region ?_
   refine HO.call (want_none) rfl (ec en_8 rfl rfl) (query_New_walk (fr := (Ow.box b_1 73 #[.int .i64 q_0_1, .pointer (some ⟨b_2, 0, none⟩), .int .i64 q_2_1, .map (some r_3)] :: Ow.box b_2 110 #[.map (some r_2)] :: Ow.map r_2 kT kI q_1_0_1 :: Ow.pm r_3 (fun (x : T_api_Addr) => .agg (e_api_Addr x).toArray) pv_query_left th_query_left q_3_1 none :: Ow.own 30 17 e_api_Addr vl_1 l_2 :: fr))  hS hM) ?_
   rintro _ h_11 ⟨F_8, b_5, b_6, r_8, r_9, rfl, hk, hS, hM⟩
   replace hK := hK.trans hk
   refine oA (.pointer (some ⟨b_5, 0, none⟩)) rfl rfl ?_
   refine HO.nil (thenQ_normal (?_))
   refine HW.seq ?_
   refine HW.region ?_
   refine oM (.pointer (some ⟨b_5, 0, none⟩)) rfl rfl ?_
   refine HO.call (want_none) rfl (ec en_10 rfl rfl) (law18_Usual_walk (fr := (Ow.box b_5 73 #[.int .i64 0, .pointer (some ⟨b_6, 0, none⟩), .int .i64 0, .map (some r_9)] :: Ow.box b_6 110 #[.map (some r_8)] :: Ow.map r_8 kT kI ([] : List (Str × Int)) :: Ow.pm r_9 (fun (x : T_api_Addr) => .agg (e_api_Addr x).toArray) pv_query_left th_query_left ([] : List (T_api_Addr × (Nat × Nat) × T_query_left)) none :: Ow.box b_1 73 #[.int .i64 q_0_1, .pointer (some ⟨b_2, 0, none⟩), .int .i64 q_2_1, .map (some r_3)] :: Ow.box b_2 110 #[.map (some r_2)] :: Ow.map r_2 kT kI q_1_0_1 :: Ow.pm r_3 (fun (x : T_api_Addr) => .agg (e_api_Addr x).toArray) pv_query_left th_query_left q_3_1 none :: Ow.own 30 17 e_api_Addr vl_1 l_2 :: fr))  hS hM) ?_
   rintro _ h_12 ⟨F_9, r_10, rfl, hk, hS, hM⟩
   replace hK := hK.trans hk
   refine HO.call (want_none) rfl (ec en_11 rfl rfl) (law22_four_walk (fr := (Ow.box b_5 73 #[.int .i64 0, .pointer (some ⟨b_6, 0, none⟩), .int .i64 0, .map (some r_9)] :: Ow.box b_6 110 #[.map (some r_8)] :: Ow.map r_8 kT kI ([] : List (Str × Int)) :: Ow.pm r_9 (fun (x : T_api_Addr) => .agg (e_api_Addr x).toArray) pv_query_left th_query_left ([] : List (T_api_Addr × (Nat × Nat) × T_query_left)) none :: Ow.box b_1 73 #[.int .i64 q_0_1, .pointer (some ⟨b_2, 0, none⟩), .int .i64 q_2_1, .map (some r_3)] :: Ow.box b_2 110 #[.map (some r_2)] :: Ow.map r_2 kT kI q_1_0_1 :: Ow.pm r_3 (fun (x : T_api_Addr) => .agg (e_api_Addr x).toArray) pv_query_left th_query_left q_3_1 none :: Ow.own 30 17 e_api_Addr vl_1 l_2 :: fr)) 239 1 hS hM) ?_
   rintro _ h_13 ⟨F_10, r_11, rfl, hk, hS, hM⟩
   replace hK := hK.trans hk
   refine oM (vl_1) rfl rfl ?_
   refine oV (.agg (c_api_Asked r_11 (.bool true) vl_1).toArray) (q_build tp_34 (fill_cons (cs' := (c_api_Asked r_11 (.bool false) (.slice none 0 0)).toArray) (vc := (e_api_Addr r_11).toArray) rfl rfl rfl (Nat.le_of_ble_eq_true rfl) rfl (fill_cons (cs' := (c_api_Asked r_11 (.bool true) (.slice none 0 0)).toArray) (vc := #[.bool true]) rfl rfl rfl (Nat.le_of_ble_eq_true rfl) rfl (fill_cons (cs' := (c_api_Asked r_11 (.bool true) vl_1).toArray) (vc := #[vl_1]) rfl (shp (hS.own 8 rfl).slice).cells rfl (Nat.le_of_ble_eq_true rfl) rfl rfl)))) rfl ?_
   replace hS : St F_10 (Ow.own 30 17 e_api_Addr vl_1 l_2 :: Ow.box b_5 73 #[.int .i64 0, .pointer (some ⟨b_6, 0, none⟩), .int .i64 0, .map (some r_9)] :: Ow.box b_6 110 #[.map (some r_8)] :: Ow.map r_8 kT kI ([] : List (Str × Int)) :: Ow.pm r_9 (fun (x : T_api_Addr) => .agg (e_api_Addr x).toArray) pv_query_left th_query_left ([] : List (T_api_Addr × (Nat × Nat) × T_query_left)) none :: Ow.box b_1 73 #[.int .i64 q_0_1, .pointer (some ⟨b_2, 0, none⟩), .int .i64 q_2_1, .map (some r_3)] :: Ow.box b_2 110 #[.map (some r_2)] :: Ow.map r_2 kT kI q_1_0_1 :: Ow.pm r_3 (fun (x : T_api_Addr) => .agg (e_api_Addr x).toArray) pv_query_left th_query_left q_3_1 none :: fr) h_13 := hS.perm2 [8, 0, 1, 2, 3, 4, 5, 6, 7] 9 rfl rfl
   have hZ_1 := hS
   have hkz_1 := (hS.freeze).2
   replace hS := hS.freeze.1
   have hL_1 : SliceF (fun bz_ => F_10 bz_ ∨ (Ow.own 30 17 e_api_Addr vl_1 l_2).foot bz_) h_13 17 e_api_Addr vl_1 l_2 := ⟨(hZ_1.own 0 rfl).slice, fun _ b hb => .inr hb⟩
   refine HO.call (want_none) rfl (ec en_9 rfl rfl) (query_Queries_Want_walk (fr := (Ow.box b_1 73 #[.int .i64 q_0_1, .pointer (some ⟨b_2, 0, none⟩), .int .i64 q_2_1, .map (some r_3)] :: Ow.box b_2 110 #[.map (some r_2)] :: Ow.map r_2 kT kI q_1_0_1 :: Ow.pm r_3 (fun (x : T_api_Addr) => .agg (e_api_Addr x).toArray) pv_query_left th_query_left q_3_1 none :: fr)) 0 [] 0 [] 0 r_10 r_11 true l_2 b_5 b_6 r_8 r_9 vl_1 hS hL_1 hM) ?_
   rintro _ h_14 ⟨F_11, r_12, q_now_2, qm_3, q_first_2, qm_4, rfl, hk, hS, _, hM⟩
   obtain ⟨hS, hk⟩ := hZ_1.back hk hS
   generalize (fun bz_ => F_11 bz_ ∧ ¬ (Ow.own 30 17 e_api_Addr vl_1 l_2).foot bz_) = F_12 at hS hk
   replace hK := hK.trans hk
   refine HO.nil (thenQ_normal (?_))
   refine HW.seq ?_
   refine HW.region ?_
   refine oM (.pointer (some ⟨b_5, 0, none⟩)) rfl rfl ?_
   replace hS : St F_12 (Ow.box b_5 73 #[.int .i64 q_now_2, .pointer (some ⟨b_6, 0, none⟩), .int .i64 q_first_2, .map (some r_9)] :: Ow.box b_6 110 #[.map (some r_8)] :: Ow.map r_8 kT kI qm_3 :: Ow.pm r_9 (fun (x : T_api_Addr) => .agg (e_api_Addr x).toArray) pv_query_left th_query_left qm_4 none :: Ow.own 30 17 e_api_Addr vl_1 l_2 :: Ow.box b_1 73 #[.int .i64 q_0_1, .pointer (some ⟨b_2, 0, none⟩), .int .i64 q_2_1, .map (some r_3)] :: Ow.box b_2 110 #[.map (some r_2)] :: Ow.map r_2 kT kI q_1_0_1 :: Ow.pm r_3 (fun (x : T_api_Addr) => .agg (e_api_Addr x).toArray) pv_query_left th_query_left q_3_1 none :: fr) h_14 := hS.perm2 [1, 2, 3, 4, 0, 5, 6, 7, 8] 9 rfl rfl
   refine HO.call (want_none) rfl (ec en_12 rfl rfl) (query_Queries_Open_walk (fr := (Ow.own 30 17 e_api_Addr vl_1 l_2 :: Ow.box b_1 73 #[.int .i64 q_0_1, .pointer (some ⟨b_2, 0, none⟩), .int .i64 q_2_1, .map (some r_3)] :: Ow.box b_2 110 #[.map (some r_2)] :: Ow.map r_2 kT kI q_1_0_1 :: Ow.pm r_3 (fun (x : T_api_Addr) => .agg (e_api_Addr x).toArray) pv_query_left th_query_left q_3_1 none :: fr)) q_now_2 qm_3 q_first_2 qm_4 b_5 b_6 r_8 r_9 hS hM) ?_
   rintro vr_1 h_15 ⟨F_13, r_13, q_now_3, qm_5, q_first_3, qm_6, _, rfl, hk, hS, hL_2, hM⟩
   replace hK := hK.trans hk
   refine oA (vr_1) rfl rfl ?_
   refine HO.nil (thenQ_normal (?_))
   refine HW.seq_mid (fun f h => ∃ (F' : Fz) (n_1 : Int), f 4 = .bool false ∧ f 5 = .pointer (some ⟨b_1, 0, none⟩) ∧ f 6 = .int .i64 n_1 ∧ f 7 = .int .i64 (k.tmod 70) ∧ f 12 = vr_1 ∧ Kp F h0 F' h ∧ St F' (Ow.box b_1 73 #[.int .i64 q_0_1, .pointer (some ⟨b_2, 0, none⟩), .int .i64 q_2_1, .map (some r_3)] :: Ow.box b_2 110 #[.map (some r_2)] :: Ow.map r_2 kT kI q_1_0_1 :: Ow.pm r_3 (fun (x : T_api_Addr) => .agg (e_api_Addr x).toArray) pv_query_left th_query_left q_3_1 none :: Ow.own 34 19 e_api_Asked vr_1 r_13 :: fr) h ∧ (NfL nf_api_Asked F' h r_13) ∧ law22_QueryFull_j1 k Q q_0_1 q_1_0_1 q_2_1 q_3_1 r_13 n_1) ?_ ?_
   ·
    refine HW.seq ?_
    refine HW.region ?_
    refine oM (.int .i64 (n.tmod 70)) rfl rfl ?_
    refine oV (.bool (decide (64 < (n.tmod 70)))) (q_gtr rfl rfl) rfl ?_
    refine HO.nil (thenQ_normal (?_))
    refine HW.cond (decide (64 < (n.tmod 70))) rfl (fun c_4 => ?_) (fun c_4 => ?_)
    ·
     replace hM := hM.1 (of_decide_eq_true c_4)
     refine HW.region ?_
     refine oA (.int .i64 64) rfl rfl ?_
     refine HO.nil (thenQ_normal (?_))
     replace hS : St F_13 (Ow.box b_1 73 #[.int .i64 q_0_1, .pointer (some ⟨b_2, 0, none⟩), .int .i64 q_2_1, .map (some r_3)] :: Ow.box b_2 110 #[.map (some r_2)] :: Ow.map r_2 kT kI q_1_0_1 :: Ow.pm r_3 (fun (x : T_api_Addr) => .agg (e_api_Addr x).toArray) pv_query_left th_query_left q_3_1 none :: Ow.own 34 19 e_api_Asked vr_1 r_13 :: fr) h_15 := hS.perm2 [6, 7, 8, 9, 0] 10 rfl rfl
     exact ⟨F_13, 64, rfl, rfl, rfl, rfl, rfl, hK, hS, hL_2, hM⟩
    ·
     replace hM := hM.2 (of_decide_eq_false c_4)
     refine HW.skip (thenQ_normal (?_))
     replace hS : St F_13 (Ow.box b_1 73 #[.int .i64 q_0_1, .pointer (some ⟨b_2, 0, none⟩), .int .i64 q_2_1, .map (some r_3)] :: Ow.box b_2 110 #[.map (some r_2)] :: Ow.map r_2 kT kI q_1_0_1 :: Ow.pm r_3 (fun (x : T_api_Addr) => .agg (e_api_Addr x).toArray) pv_query_left th_query_left q_3_1 none :: Ow.own 34 19 e_api_Asked vr_1 r_13 :: fr) h_15 := hS.perm2 [6, 7, 8, 9, 0] 10 rfl rfl
     exact ⟨F_13, n.tmod 70, rfl, rfl, rfl, rfl, rfl, hK, hS, hL_2, hM⟩
   ·
    rintro f_3 h_16 ⟨F_14, n_1, e4, e5, e6, e7, e12, hK, hS, hL_2, hM⟩
    unfold law22_QueryFull_j1 at hM
    refine HW.fr [(4, .bool false), (5, .pointer (some ⟨b_1, 0, none⟩)), (6, .int .i64 n_1), (7, .int .i64 (k.tmod 70)), (12, vr_1)] ⟨e4, e5, e6, e7, e12, trivial⟩ ?_
    refine HW.seq_mid (fun f h => ∃ (F' : Fz) (c_5 : Int), f 4 = .bool false ∧ f 5 = .pointer (some ⟨b_1, 0, none⟩) ∧ f 6 = .int .i64 n_1 ∧ f 7 = .int .i64 c_5 ∧ f 12 = vr_1 ∧ Kp F h0 F' h ∧ St F' (Ow.box b_1 73 #[.int .i64 q_0_1, .pointer (some ⟨b_2, 0, none⟩), .int .i64 q_2_1, .map (some r_3)] :: Ow.box b_2 110 #[.map (some r_2)] :: Ow.map r_2 kT kI q_1_0_1 :: Ow.pm r_3 (fun (x : T_api_Addr) => .agg (e_api_Addr x).toArray) pv_query_left th_query_left q_3_1 none :: Ow.own 34 19 e_api_Asked vr_1 r_13 :: fr) h ∧ (NfL nf_api_Asked F' h r_13) ∧ law22_QueryFull_j2 Q q_0_1 q_1_0_1 q_2_1 q_3_1 r_13 n_1 c_5) ?_ ?_
    ·
     refine HW.seq ?_
     refine HW.region ?_
     refine oM (.int .i64 (k.tmod 70)) rfl rfl ?_
     refine oV (.bool (decide (64 < (k.tmod 70)))) (q_gtr rfl rfl) rfl ?_
     refine HO.nil (thenQ_normal (?_))
     refine HW.cond (decide (64 < (k.tmod 70))) rfl (fun c_6 => ?_) (fun c_6 => ?_)
     ·
      replace hM := hM.1 (of_decide_eq_true c_6)
      refine HW.region ?_
      refine oA (.int .i64 64) rfl rfl ?_
      refine HO.nil (thenQ_normal (?_))
      exact ⟨F_14, 64, rfl, rfl, rfl, rfl, rfl, hK, hS, hL_2, hM⟩
     ·
      replace hM := hM.2 (of_decide_eq_false c_6)
      refine HW.skip (thenQ_normal (?_))
      exact ⟨F_14, k.tmod 70, rfl, rfl, rfl, rfl, rfl, hK, hS, hL_2, hM⟩
    ·
     rintro f_4 h_17 ⟨F_15, c_5, e4, e5, e6, e7, e12, hK, hS, hL_2, hM⟩
     unfold law22_QueryFull_j2 at hM
     refine HW.fr [(4, .bool false), (5, .pointer (some ⟨b_1, 0, none⟩)), (6, .int .i64 n_1), (7, .int .i64 c_5), (12, vr_1)] ⟨e4, e5, e6, e7, e12, trivial⟩ ?_
     refine HW.seq ?_
     refine HW.region ?_
     refine oM (.pointer (some ⟨b_1, 0, none⟩)) rfl rfl ?_
     refine HO.call (want_none) rfl (ec en_12 rfl rfl) (query_Queries_Open_walk (fr := (Ow.own 34 19 e_api_Asked vr_1 r_13 :: fr)) q_0_1 q_1_0_1 q_2_1 q_3_1 b_1 b_2 r_2 r_3 hS hM) ?_
     rintro vr_2 h_18 ⟨F_16, r_14, q_now_4, qm_7, q_first_4, qm_8, _, rfl, hk, hS, hL_3, hM⟩
     replace hK := hK.trans hk
     replace hL_2 := hL_2.kp hk
     refine oV (.int .i64 (r_14.length : Int)) (q_len ts_35 (shp (hS.own 0 rfl).slice) rfl rfl) rfl ?_
     refine oM (.int .i64 n_1) rfl rfl ?_
     refine oV (.bool (decide ((r_14.length : Int) = n_1))) (q_eql rfl rfl) rfl ?_
     refine oM (.bool (decide ((r_14.length : Int) = n_1))) rfl rfl ?_
     rcases Bool.eq_false_or_eq_true (decide ((r_14.length : Int) = n_1)) with c_7 | c_7
     ·
      replace hM := hM.1 (of_decide_eq_true c_7)
      refine HO.val (v := vr_1) (want_by rfl rfl c_7) rfl (q_move rfl) ?_
      refine HO.val (v := .int .i64 (r_13.length : Int)) (want_by rfl rfl c_7) rfl (q_len ts_35 (shp (hS.own 5 rfl).slice) rfl rfl) ?_
      refine HO.val (v := .bool (decide ((r_13.length : Int) = 1))) (want_by rfl rfl c_7) rfl (q_eql rfl rfl) ?_
      refine oV (.bool (decide ((r_13.length : Int) = 1))) (q_pickK true rfl c_7 rfl) rfl ?_
      refine oM (.bool (decide ((r_13.length : Int) = 1))) rfl rfl ?_
      rcases Bool.eq_false_or_eq_true (decide ((r_13.length : Int) = 1)) with c_8 | c_8
      ·
       replace hM := hM.1 (of_decide_eq_true c_8)
       refine HO.val (v := vr_1) (want_by rfl rfl c_8) rfl (q_move rfl) ?_
       obtain ⟨ho_6, hM⟩ := hM
       refine HO.val (v := elemPtr 19 vr_1 (0 : Int).toNat) (want_by rfl rfl c_8) rfl (q_idx ts_35 (hS.own 5 rfl).slice rfl rfl ho_6) ?_
       refine HO.val (v := fieldPtr 19 vr_1 (0 : Int).toNat 18) (want_by rfl rfl c_8) rfl (q_fldElem fa_34_2 (hS.own 5 rfl).slice rfl ho_6) ?_
       refine HO.val (v := ((gi r_13 0).2.2).1) (want_by rfl rfl c_8) rfl (q_ldField to_32 (hS.own 5 rfl).slice rfl ho_6 (by decide) rfl) ?_
       refine HO.val (v := .int .i64 ((((gi r_13 0).2.2).2).length : Int)) (want_by rfl rfl c_8) rfl (q_len ts_32 (shp (nfi_api_Asked_18 (NfI.at hL_2.is ho_6))) rfl rfl) ?_
       refine HO.val (v := .int .i64 c_5) (want_by rfl rfl c_8) rfl (q_move rfl) ?_
       refine HO.val (v := .bool (decide (((((gi r_13 0).2.2).2).length : Int) = c_5))) (want_by rfl rfl c_8) rfl (q_eql rfl rfl) ?_
       refine oV (.bool (decide (((((gi r_13 0).2.2).2).length : Int) = c_5))) (q_pickK true rfl c_8 rfl) rfl ?_
       refine oM (.bool (decide (((((gi r_13 0).2.2).2).length : Int) = c_5))) rfl rfl ?_
       rcases Bool.eq_false_or_eq_true (decide (((((gi r_13 0).2.2).2).length : Int) = c_5)) with c_9 | c_9
       ·
        replace hM := hM.1 (of_decide_eq_true c_9)
        refine HO.call (want_by rfl rfl c_9) rfl (ec en_13 rfl rfl) (law22_lives_walk (fr := (Ow.own 34 19 e_api_Asked vr_2 r_14 :: Ow.box b_1 73 #[.int .i64 q_now_4, .pointer (some ⟨b_2, 0, none⟩), .int .i64 q_first_4, .map (some r_3)] :: Ow.box b_2 110 #[.map (some r_2)] :: Ow.map r_2 kT kI qm_7 :: Ow.pm r_3 (fun (x : T_api_Addr) => .agg (e_api_Addr x).toArray) pv_query_left th_query_left qm_8 none :: Ow.own 34 19 e_api_Asked vr_1 r_13 :: fr))  hS hM) ?_
        rintro _ h_19 ⟨F_17, r_15, rfl, hk, hS, hM⟩
        replace hK := hK.trans hk
        refine oV (.bool r_15) (q_pickK true rfl c_9 rfl) rfl ?_
        refine oA (.bool r_15) rfl rfl ?_
        refine HO.nil (thenQ_normal (?_))
        refine HW.ret (?_)
        refine ⟨.inr rfl, .bool r_15, res1 rfl (rt rfl), ?_⟩
        replace hS : St F_17 (fr) h_19 := hS.perm2 [] 6 rfl rfl
        exact ⟨F_17, r_15, rfl, hK, hS, hM⟩
       ·
        replace hM := hM.2 (of_decide_eq_false c_9)
        refine HO.past (past_by rfl rfl c_9) rfl ?_
        refine oV (.bool false) (q_pickK false rfl c_9 rfl) rfl ?_
        refine oA (.bool false) rfl rfl ?_
        refine HO.nil (thenQ_normal (?_))
        refine HW.ret (?_)
        refine ⟨.inr rfl, .bool false, res1 rfl (rt rfl), ?_⟩
        replace hS : St F_16 (fr) h_18 := hS.perm2 [] 6 rfl rfl
        exact ⟨F_16, false, rfl, hK, hS, hM⟩
      ·
       replace hM := hM.2 (of_decide_eq_false c_8)
       refine HO.past (past_by rfl rfl c_8) rfl ?_
       refine HO.past (past_by rfl rfl c_8) rfl ?_
       refine HO.past (past_by rfl rfl c_8) rfl ?_
       refine HO.past (past_by rfl rfl c_8) rfl ?_
       refine HO.past (past_by rfl rfl c_8) rfl ?_
       refine HO.past (past_by rfl rfl c_8) rfl ?_
       refine HO.past (past_by rfl rfl c_8) rfl ?_
       refine oV (.bool false) (q_pickK false rfl c_8 rfl) rfl ?_
       refine oM (.bool false) rfl rfl ?_
       refine HO.past (past_some rfl rfl) rfl ?_
       refine oV (.bool false) (q_pick rfl rfl) rfl ?_
       refine oA (.bool false) rfl rfl ?_
       refine HO.nil (thenQ_normal (?_))
       refine HW.ret (?_)
       refine ⟨.inr rfl, .bool false, res1 rfl (rt rfl), ?_⟩
       replace hS : St F_16 (fr) h_18 := hS.perm2 [] 6 rfl rfl
       exact ⟨F_16, false, rfl, hK, hS, hM⟩
     ·
      replace hM := hM.2 (of_decide_eq_false c_7)
      refine HO.past (past_by rfl rfl c_7) rfl ?_
      refine HO.past (past_by rfl rfl c_7) rfl ?_
      refine HO.past (past_by rfl rfl c_7) rfl ?_
      refine oV (.bool false) (q_pickK false rfl c_7 rfl) rfl ?_
      refine oM (.bool false) rfl rfl ?_
      refine HO.past (past_some rfl rfl) rfl ?_
      refine HO.past (past_some rfl rfl) rfl ?_
      refine HO.past (past_some rfl rfl) rfl ?_
      refine HO.past (past_some rfl rfl) rfl ?_
      refine HO.past (past_some rfl rfl) rfl ?_
      refine HO.past (past_some rfl rfl) rfl ?_
      refine HO.past (past_some rfl rfl) rfl ?_
      refine oV (.bool false) (q_pick rfl rfl) rfl ?_
      refine oM (.bool false) rfl rfl ?_
      refine HO.past (past_some rfl rfl) rfl ?_
      refine oV (.bool false) (q_pick rfl rfl) rfl ?_
      refine oA (.bool false) rfl rfl ?_
      refine HO.nil (thenQ_normal (?_))
      refine HW.ret (?_)
      refine ⟨.inr rfl, .bool false, res1 rfl (rt rfl), ?_⟩
      replace hS : St F_16 (fr) h_18 := hS.perm2 [] 6 rfl rfl
      exact ⟨F_16, false, rfl, hK, hS, hM⟩

def ref14_Good_j1 (t : T_api_Tune) (Q : Bool → Prop) (b_2 : Bool) : Prop :=
 (b_2 = true → Q false) ∧ (b_2 = false → (0 < t.2.2.1 → (t.2.2.1 < 31745 → (0 < t.2.2.2.1 → (t.2.2.2.1 < 31745 → Q (decide (t.2.2.1 ≤ t.2.1))) ∧ (¬ (t.2.2.2.1 < 31745) → Q false)) ∧ (¬ (0 < t.2.2.2.1) → Q false)) ∧ (¬ (t.2.2.1 < 31745) → Q false)) ∧ (¬ (0 < t.2.2.1) → Q false))
def ref14_Good_W (t : T_api_Tune) (Q : Bool → Prop) : Prop :=
 (t.1 < 1 → ref14_Good_j1 t Q true) ∧ (¬ (t.1 < 1) → (7 < t.1 → ref14_Good_j1 t Q true) ∧ (¬ (7 < t.1) → (t.2.2.2.2 < 1 → ref14_Good_j1 t Q true) ∧ (¬ (t.2.2.2.2 < 1) → (7 < t.2.2.2.2 → ref14_Good_j1 t Q true) ∧ (¬ (7 < t.2.2.2.2) → (t.2.1 < 1 → ref14_Good_j1 t Q true) ∧ (¬ (t.2.1 < 1) → ref14_Good_j1 t Q (decide (317440 < t.2.1)))))))
set_option maxHeartbeats 40000000 in
set_option maxRecDepth 100000 in
theorem ref14_Good_walk {F : Fz} {fr : List Ow} {h0 : Heap} (t : T_api_Tune) (hS : St F (fr) h0)  {Q : Bool → Prop} (hM : ref14_Good_W t Q) :
  HC Try.prog 14 #[.agg (e_api_Tune t).toArray] h0 fun u h' => ∃ (F' : Fz) (r_1 : Bool), u = .bool r_1 ∧ Kp F h0 F' h' ∧ St F' (fr) h' ∧ Q r_1 := by
 unfold ref14_Good_W at hM
 have hK := Kp.refl F h0
 refine HC.of_HW (n := 56) Try.func14 rfl rfl (Nat.le_of_ble_eq_true rfl) ?_
 refine HW.seq ?_
 refine HW.region ?_
 refine HO.eff (want_none) rfl (st_box (c := (e_api_Tune t).toArray) (k' := 5) hS rfl rfl) ?_
 rintro _ h_1 ⟨b_1, rfl, hS, hk⟩
 replace hK := hK.trans hk
 refine oA (.bool false) rfl rfl ?_
 refine HO.nil (thenQ_normal (?_))
 refine HW.seq ?_
 refine HW.seq_mid (fun f h => ∃ (F' : Fz) (b_2 : Bool), f 1 = .pointer (some ⟨b_1, 0, none⟩) ∧ f 2 = .bool false ∧ f 30 = .bool b_2 ∧ Kp F h0 F' h ∧ St F' (Ow.box b_1 26 (e_api_Tune t).toArray :: fr) h ∧ ref14_Good_j1 t Q b_2) ?_ ?_
 ·
  refine HW.region ?_
  refine oV (.pointer (some ⟨b_1, 0, none⟩)) (q_fieldAddr fa_26_0 rfl rfl) rfl ?_
  refine oV (.int .i64 t.1) (q_load to_3 rfl (Blk.cell (hS.box 0 rfl) rfl)) rfl ?_
  refine oV (.bool (decide (t.1 < 1))) (q_lss rfl rfl) rfl ?_
  refine oM (.bool (decide (t.1 < 1))) rfl rfl ?_
  rcases Bool.eq_false_or_eq_true (decide (t.1 < 1)) with c_1 | c_1
  ·
   replace hM := hM.1 (of_decide_eq_true c_1)
   refine HO.past (past_by rfl rfl c_1) rfl ?_
   refine HO.past (past_by rfl rfl c_1) rfl ?_
   refine HO.past (past_by rfl rfl c_1) rfl ?_
   refine oV (.bool true) (q_pickK true rfl c_1 rfl) rfl ?_
   refine oM (.bool true) rfl rfl ?_
   refine HO.past (past_some rfl rfl) rfl ?_
   refine HO.past (past_some rfl rfl) rfl ?_
   refine HO.past (past_some rfl rfl) rfl ?_
   refine oV (.bool true) (q_pick rfl rfl) rfl ?_
   refine oM (.bool true) rfl rfl ?_
   refine HO.past (past_some rfl rfl) rfl ?_
   refine HO.past (past_some rfl rfl) rfl ?_
   refine HO.past (past_some rfl rfl) rfl ?_
   refine oV (.bool true) (q_pick rfl rfl) rfl ?_
   refine oM (.bool true) rfl rfl ?_
   refine HO.past (past_some rfl rfl) rfl ?_
   refine HO.past (past_some rfl rfl) rfl ?_
   refine HO.past (past_some rfl rfl) rfl ?_
   refine oV (.bool true) (q_pick rfl rfl) rfl ?_
   refine oM (.bool true) rfl rfl ?_
   refine HO.past (past_some rfl rfl) rfl ?_
   refine HO.past (past_some rfl rfl) rfl ?_
   refine HO.past (past_some rfl rfl) rfl ?_
   refine oV (.bool true) (q_pick rfl rfl) rfl ?_
   refine HO.nil (thenQ_normal (?_))
   exact ⟨F, true, rfl, rfl, rfl, hK, hS, hM⟩
  ·
   replace hM := hM.2 (of_decide_eq_false c_1)
   refine HO.val (v := .pointer (some ⟨b_1, 0, none⟩)) (want_by rfl rfl c_1) rfl (q_fieldAddr fa_26_0 rfl rfl) ?_
   refine HO.val (v := .int .i64 t.1) (want_by rfl rfl c_1) rfl (q_load to_3 rfl (Blk.cell (hS.box 0 rfl) rfl)) ?_
   refine HO.val (v := .bool (decide (7 < t.1))) (want_by rfl rfl c_1) rfl (q_gtr rfl rfl) ?_
   refine oV (.bool (decide (7 < t.1))) (q_pickK false rfl c_1 rfl) rfl ?_
   refine oM (.bool (decide (7 < t.1))) rfl rfl ?_
   rcases Bool.eq_false_or_eq_true (decide (7 < t.1)) with c_2 | c_2
   ·
    replace hM := hM.1 (of_decide_eq_true c_2)
    refine HO.past (past_by rfl rfl c_2) rfl ?_
    refine HO.past (past_by rfl rfl c_2) rfl ?_
    refine HO.past (past_by rfl rfl c_2) rfl ?_
    refine oV (.bool true) (q_pickK true rfl c_2 rfl) rfl ?_
    refine oM (.bool true) rfl rfl ?_
    refine HO.past (past_some rfl rfl) rfl ?_
    refine HO.past (past_some rfl rfl) rfl ?_
    refine HO.past (past_some rfl rfl) rfl ?_
    refine oV (.bool true) (q_pick rfl rfl) rfl ?_
    refine oM (.bool true) rfl rfl ?_
    refine HO.past (past_some rfl rfl) rfl ?_
    refine HO.past (past_some rfl rfl) rfl ?_
    refine HO.past (past_some rfl rfl) rfl ?_
    refine oV (.bool true) (q_pick rfl rfl) rfl ?_
    refine oM (.bool true) rfl rfl ?_
    refine HO.past (past_some rfl rfl) rfl ?_
    refine HO.past (past_some rfl rfl) rfl ?_
    refine HO.past (past_some rfl rfl) rfl ?_
    refine oV (.bool true) (q_pick rfl rfl) rfl ?_
    refine HO.nil (thenQ_normal (?_))
    exact ⟨F, true, rfl, rfl, rfl, hK, hS, hM⟩
   ·
    replace hM := hM.2 (of_decide_eq_false c_2)
    refine HO.val (v := .pointer (some ⟨b_1, 4, none⟩)) (want_by rfl rfl c_2) rfl (q_fieldAddr fa_26_4 rfl rfl) ?_
    refine HO.val (v := .int .i64 t.2.2.2.2) (want_by rfl rfl c_2) rfl (q_load to_3 rfl (Blk.cell (hS.box 0 rfl) rfl)) ?_
    refine HO.val (v := .bool (decide (t.2.2.2.2 < 1))) (want_by rfl rfl c_2) rfl (q_lss rfl rfl) ?_
    refine oV (.bool (decide (t.2.2.2.2 < 1))) (q_pickK false rfl c_2 rfl) rfl ?_
    refine oM (.bool (decide (t.2.2.2.2 < 1))) rfl rfl ?_
    rcases Bool.eq_false_or_eq_true (decide (t.2.2.2.2 < 1)) with c_3 | c_3
    ·
     replace hM := hM.1 (of_decide_eq_true c_3)
     refine HO.past (past_by rfl rfl c_3) rfl ?_
     refine HO.past (past_by rfl rfl c_3) rfl ?_
     refine HO.past (past_by rfl rfl c_3) rfl ?_
     refine oV (.bool true) (q_pickK true rfl c_3 rfl) rfl ?_
     refine oM (.bool true) rfl rfl ?_
     refine HO.past (past_some rfl rfl) rfl ?_
     refine HO.past (past_some rfl rfl) rfl ?_
     refine HO.past (past_some rfl rfl) rfl ?_
     refine oV (.bool true) (q_pick rfl rfl) rfl ?_
     refine oM (.bool true) rfl rfl ?_
     refine HO.past (past_some rfl rfl) rfl ?_
     refine HO.past (past_some rfl rfl) rfl ?_
     refine HO.past (past_some rfl rfl) rfl ?_
     refine oV (.bool true) (q_pick rfl rfl) rfl ?_
     refine HO.nil (thenQ_normal (?_))
     exact ⟨F, true, rfl, rfl, rfl, hK, hS, hM⟩
    ·
     replace hM := hM.2 (of_decide_eq_false c_3)
     refine HO.val (v := .pointer (some ⟨b_1, 4, none⟩)) (want_by rfl rfl c_3) rfl (q_fieldAddr fa_26_4 rfl rfl) ?_
     refine HO.val (v := .int .i64 t.2.2.2.2) (want_by rfl rfl c_3) rfl (q_load to_3 rfl (Blk.cell (hS.box 0 rfl) rfl)) ?_
     refine HO.val (v := .bool (decide (7 < t.2.2.2.2))) (want_by rfl rfl c_3) rfl (q_gtr rfl rfl) ?_
     refine oV (.bool (decide (7 < t.2.2.2.2))) (q_pickK false rfl c_3 rfl) rfl ?_
     refine oM (.bool (decide (7 < t.2.2.2.2))) rfl rfl ?_
     rcases Bool.eq_false_or_eq_true (decide (7 < t.2.2.2.2)) with c_4 | c_4
     ·
      replace hM := hM.1 (of_decide_eq_true c_4)
      refine HO.past (past_by rfl rfl c_4) rfl ?_
      refine HO.past (past_by rfl rfl c_4) rfl ?_
      refine HO.past (past_by rfl rfl c_4) rfl ?_
      refine oV (.bool true) (q_pickK true rfl c_4 rfl) rfl ?_
      refine oM (.bool true) rfl rfl ?_
      refine HO.past (past_some rfl rfl) rfl ?_
      refine HO.past (past_some rfl rfl) rfl ?_
      refine HO.past (past_some rfl rfl) rfl ?_
      refine oV (.bool true) (q_pick rfl rfl) rfl ?_
      refine HO.nil (thenQ_normal (?_))
      exact ⟨F, true, rfl, rfl, rfl, hK, hS, hM⟩
     ·
      replace hM := hM.2 (of_decide_eq_false c_4)
      refine HO.val (v := .pointer (some ⟨b_1, 1, none⟩)) (want_by rfl rfl c_4) rfl (q_fieldAddr fa_26_1 rfl rfl) ?_
      refine HO.val (v := .int .i64 t.2.1) (want_by rfl rfl c_4) rfl (q_load to_3 rfl (Blk.cell (hS.box 0 rfl) rfl)) ?_
      refine HO.val (v := .bool (decide (t.2.1 < 1))) (want_by rfl rfl c_4) rfl (q_lss rfl rfl) ?_
      refine oV (.bool (decide (t.2.1 < 1))) (q_pickK false rfl c_4 rfl) rfl ?_
      refine oM (.bool (decide (t.2.1 < 1))) rfl rfl ?_
      rcases Bool.eq_false_or_eq_true (decide (t.2.1 < 1)) with c_5 | c_5
      ·
       replace hM := hM.1 (of_decide_eq_true c_5)
       refine HO.past (past_by rfl rfl c_5) rfl ?_
       refine HO.past (past_by rfl rfl c_5) rfl ?_
       refine HO.past (past_by rfl rfl c_5) rfl ?_
       refine oV (.bool true) (q_pickK true rfl c_5 rfl) rfl ?_
       refine HO.nil (thenQ_normal (?_))
       exact ⟨F, true, rfl, rfl, rfl, hK, hS, hM⟩
      ·
       replace hM := hM.2 (of_decide_eq_false c_5)
       refine HO.val (v := .pointer (some ⟨b_1, 1, none⟩)) (want_by rfl rfl c_5) rfl (q_fieldAddr fa_26_1 rfl rfl) ?_
       refine HO.val (v := .int .i64 t.2.1) (want_by rfl rfl c_5) rfl (q_load to_3 rfl (Blk.cell (hS.box 0 rfl) rfl)) ?_
       refine HO.val (v := .bool (decide (317440 < t.2.1))) (want_by rfl rfl c_5) rfl (q_gtr rfl rfl) ?_
       refine oV (.bool (decide (317440 < t.2.1))) (q_pickK false rfl c_5 rfl) rfl ?_
       refine HO.nil (thenQ_normal (?_))
       exact ⟨F, decide (317440 < t.2.1), rfl, rfl, rfl, hK, hS, hM⟩
 ·
  rintro f_1 h_2 ⟨F_1, b_2, e1, e2, e30, hK, hS, hM⟩
  unfold ref14_Good_j1 at hM
  refine HW.fr [(1, .pointer (some ⟨b_1, 0, none⟩)), (2, .bool false), (30, .bool b_2)] ⟨e1, e2, e30, trivial⟩ ?_
  refine HW.cond b_2 rfl (fun c_6 => ?_) (fun c_6 => ?_)
  ·
   replace hM := hM.1 c_6
   refine HW.seq ?_
   refine HW.region ?_
   refine oA (.bool false) rfl rfl ?_
   refine HO.nil (thenQ_normal (?_))
   refine HW.ret (thenQ_ret (?_))
   refine ⟨.inr rfl, .bool false, res1 rfl (rt rfl), ?_⟩
   replace hS : St F_1 (fr) h_2 := hS.perm2 [] 1 rfl rfl
   exact ⟨F_1, false, rfl, hK, hS, hM⟩
  ·
   replace hM := hM.2 c_6
   refine HW.skip (thenQ_normal (?_))
   refine HW.seq ?_
   refine HW.region ?_
   refine oV (.pointer (some ⟨b_1, 2, none⟩)) (q_fieldAddr fa_26_2 rfl rfl) rfl ?_
   refine oV (.int .i64 t.2.2.1) (q_load to_3 rfl (Blk.cell (hS.box 0 rfl) rfl)) rfl ?_
   refine oV (.bool (decide (0 < t.2.2.1))) (q_gtr rfl rfl) rfl ?_
   refine oM (.bool (decide (0 < t.2.2.1))) rfl rfl ?_
   rcases Bool.eq_false_or_eq_true (decide (0 < t.2.2.1)) with c_7 | c_7
   ·
    replace hM := hM.1 (of_decide_eq_true c_7)
    refine HO.val (v := .pointer (some ⟨b_1, 2, none⟩)) (want_by rfl rfl c_7) rfl (q_fieldAddr fa_26_2 rfl rfl) ?_
    refine HO.val (v := .int .i64 t.2.2.1) (want_by rfl rfl c_7) rfl (q_load to_3 rfl (Blk.cell (hS.box 0 rfl) rfl)) ?_
    refine HO.val (v := .bool (decide (t.2.2.1 < 31745))) (want_by rfl rfl c_7) rfl (q_lss rfl rfl) ?_
    refine oV (.bool (decide (t.2.2.1 < 31745))) (q_pickK true rfl c_7 rfl) rfl ?_
    refine oM (.bool (decide (t.2.2.1 < 31745))) rfl rfl ?_
    rcases Bool.eq_false_or_eq_true (decide (t.2.2.1 < 31745)) with c_8 | c_8
    ·
     replace hM := hM.1 (of_decide_eq_true c_8)
     refine HO.val (v := .pointer (some ⟨b_1, 3, none⟩)) (want_by rfl rfl c_8) rfl (q_fieldAddr fa_26_3 rfl rfl) ?_
     refine HO.val (v := .int .i64 t.2.2.2.1) (want_by rfl rfl c_8) rfl (q_load to_3 rfl (Blk.cell (hS.box 0 rfl) rfl)) ?_
     refine HO.val (v := .bool (decide (0 < t.2.2.2.1))) (want_by rfl rfl c_8) rfl (q_gtr rfl rfl) ?_
     refine oV (.bool (decide (0 < t.2.2.2.1))) (q_pickK true rfl c_8 rfl) rfl ?_
     refine oM (.bool (decide (0 < t.2.2.2.1))) rfl rfl ?_
     rcases Bool.eq_false_or_eq_true (decide (0 < t.2.2.2.1)) with c_9 | c_9
     ·
      replace hM := hM.1 (of_decide_eq_true c_9)
      refine HO.val (v := .pointer (some ⟨b_1, 3, none⟩)) (want_by rfl rfl c_9) rfl (q_fieldAddr fa_26_3 rfl rfl) ?_
      refine HO.val (v := .int .i64 t.2.2.2.1) (want_by rfl rfl c_9) rfl (q_load to_3 rfl (Blk.cell (hS.box 0 rfl) rfl)) ?_
      refine HO.val (v := .bool (decide (t.2.2.2.1 < 31745))) (want_by rfl rfl c_9) rfl (q_lss rfl rfl) ?_
      refine oV (.bool (decide (t.2.2.2.1 < 31745))) (q_pickK true rfl c_9 rfl) rfl ?_
      refine oM (.bool (decide (t.2.2.2.1 < 31745))) rfl rfl ?_
      rcases Bool.eq_false_or_eq_true (decide (t.2.2.2.1 < 31745)) with c_10 | c_10
      ·
       replace hM := hM.1 (of_decide_eq_true c_10)
       refine HO.val (v := .pointer (some ⟨b_1, 2, none⟩)) (want_by rfl rfl c_10) rfl (q_fieldAddr fa_26_2 rfl rfl) ?_
       refine HO.val (v := .int .i64 t.2.2.1) (want_by rfl rfl c_10) rfl (q_load to_3 rfl (Blk.cell (hS.box 0 rfl) rfl)) ?_
       refine HO.val (v := .pointer (some ⟨b_1, 1, none⟩)) (want_by rfl rfl c_10) rfl (q_fieldAddr fa_26_1 rfl rfl) ?_
       refine HO.val (v := .int .i64 t.2.1) (want_by rfl rfl c_10) rfl (q_load to_3 rfl (Blk.cell (hS.box 0 rfl) rfl)) ?_
       refine HO.val (v := .bool (decide (t.2.2.1 ≤ t.2.1))) (want_by rfl rfl c_10) rfl (q_leq rfl rfl) ?_
       refine oV (.bool (decide (t.2.2.1 ≤ t.2.1))) (q_pickK true rfl c_10 rfl) rfl ?_
       refine oA (.bool (decide (t.2.2.1 ≤ t.2.1))) rfl rfl ?_
       refine HO.nil (thenQ_normal (?_))
       refine HW.ret (?_)
       refine ⟨.inr rfl, .bool (decide (t.2.2.1 ≤ t.2.1)), res1 rfl (rt rfl), ?_⟩
       replace hS : St F_1 (fr) h_2 := hS.perm2 [] 1 rfl rfl
       exact ⟨F_1, decide (t.2.2.1 ≤ t.2.1), rfl, hK, hS, hM⟩
      ·
       replace hM := hM.2 (of_decide_eq_false c_10)
       refine HO.past (past_by rfl rfl c_10) rfl ?_
       refine HO.past (past_by rfl rfl c_10) rfl ?_
       refine HO.past (past_by rfl rfl c_10) rfl ?_
       refine HO.past (past_by rfl rfl c_10) rfl ?_
       refine HO.past (past_by rfl rfl c_10) rfl ?_
       refine oV (.bool false) (q_pickK false rfl c_10 rfl) rfl ?_
       refine oA (.bool false) rfl rfl ?_
       refine HO.nil (thenQ_normal (?_))
       refine HW.ret (?_)
       refine ⟨.inr rfl, .bool false, res1 rfl (rt rfl), ?_⟩
       replace hS : St F_1 (fr) h_2 := hS.perm2 [] 1 rfl rfl
       exact ⟨F_1, false, rfl, hK, hS, hM⟩
     ·
      replace hM := hM.2 (of_decide_eq_false c_9)
      refine HO.past (past_by rfl rfl c_9) rfl ?_
      refine HO.past (past_by rfl rfl c_9) rfl ?_
      refine HO.past (past_by rfl rfl c_9) rfl ?_
      refine oV (.bool false) (q_pickK false rfl c_9 rfl) rfl ?_
      refine oM (.bool false) rfl rfl ?_
      refine HO.past (past_some rfl rfl) rfl ?_
      refine HO.past (past_some rfl rfl) rfl ?_
      refine HO.past (past_some rfl rfl) rfl ?_
      refine HO.past (past_some rfl rfl) rfl ?_
      refine HO.past (past_some rfl rfl) rfl ?_
      refine oV (.bool false) (q_pick rfl rfl) rfl ?_
      refine oA (.bool false) rfl rfl ?_
      refine HO.nil (thenQ_normal (?_))
      refine HW.ret (?_)
      refine ⟨.inr rfl, .bool false, res1 rfl (rt rfl), ?_⟩
      replace hS : St F_1 (fr) h_2 := hS.perm2 [] 1 rfl rfl
      exact ⟨F_1, false, rfl, hK, hS, hM⟩
    ·
     replace hM := hM.2 (of_decide_eq_false c_8)
     refine HO.past (past_by rfl rfl c_8) rfl ?_
     refine HO.past (past_by rfl rfl c_8) rfl ?_
     refine HO.past (past_by rfl rfl c_8) rfl ?_
     refine oV (.bool false) (q_pickK false rfl c_8 rfl) rfl ?_
     refine oM (.bool false) rfl rfl ?_
     refine HO.past (past_some rfl rfl) rfl ?_
     refine HO.past (past_some rfl rfl) rfl ?_
     refine HO.past (past_some rfl rfl) rfl ?_
     refine oV (.bool false) (q_pick rfl rfl) rfl ?_
     refine oM (.bool false) rfl rfl ?_
     refine HO.past (past_some rfl rfl) rfl ?_
     refine HO.past (past_some rfl rfl) rfl ?_
     refine HO.past (past_some rfl rfl) rfl ?_
     refine HO.past (past_some rfl rfl) rfl ?_
     refine HO.past (past_some rfl rfl) rfl ?_
     refine oV (.bool false) (q_pick rfl rfl) rfl ?_
     refine oA (.bool false) rfl rfl ?_
     refine HO.nil (thenQ_normal (?_))
     refine HW.ret (?_)
     refine ⟨.inr rfl, .bool false, res1 rfl (rt rfl), ?_⟩
     replace hS : St F_1 (fr) h_2 := hS.perm2 [] 1 rfl rfl
     exact ⟨F_1, false, rfl, hK, hS, hM⟩
   ·
    replace hM := hM.2 (of_decide_eq_false c_7)
    refine HO.past (past_by rfl rfl c_7) rfl ?_
    refine HO.past (past_by rfl rfl c_7) rfl ?_
    refine HO.past (past_by rfl rfl c_7) rfl ?_
    refine oV (.bool false) (q_pickK false rfl c_7 rfl) rfl ?_
    refine oM (.bool false) rfl rfl ?_
    refine HO.past (past_some rfl rfl) rfl ?_
    refine HO.past (past_some rfl rfl) rfl ?_
    refine HO.past (past_some rfl rfl) rfl ?_
    refine oV (.bool false) (q_pick rfl rfl) rfl ?_
    refine oM (.bool false) rfl rfl ?_
    refine HO.past (past_some rfl rfl) rfl ?_
    refine HO.past (past_some rfl rfl) rfl ?_
    refine HO.past (past_some rfl rfl) rfl ?_
    refine oV (.bool false) (q_pick rfl rfl) rfl ?_
    refine oM (.bool false) rfl rfl ?_
    refine HO.past (past_some rfl rfl) rfl ?_
    refine HO.past (past_some rfl rfl) rfl ?_
    refine HO.past (past_some rfl rfl) rfl ?_
    refine HO.past (past_some rfl rfl) rfl ?_
    refine HO.past (past_some rfl rfl) rfl ?_
    refine oV (.bool false) (q_pick rfl rfl) rfl ?_
    refine oA (.bool false) rfl rfl ?_
    refine HO.nil (thenQ_normal (?_))
    refine HW.ret (?_)
    refine ⟨.inr rfl, .bool false, res1 rfl (rt rfl), ?_⟩
    replace hS : St F_1 (fr) h_2 := hS.perm2 [] 1 rfl rfl
    exact ⟨F_1, false, rfl, hK, hS, hM⟩

def law08_Addrs_j1 (l : List T_api_Addr) (Q : (List T_api_Addr) → Prop) (out_1 : List T_api_Addr) (i_1 : Int) (K_1 : (List T_api_Addr) → Int → Prop) (b_2 : Bool) : Prop :=
 (b_2 = true → ((0 : Int) ≤ i_1 ∧ i_1 < (l.length : Int)) ∧ (((out_1.length + ([(gi l i_1)] : List T_api_Addr).length) * 17 ≤ 140737488355328) ∧ ((I64 (i_1 + 1)) ∧ (K_1 (out_1 ++ ([(gi l i_1)] : List T_api_Addr)) (i_1 + 1))))) ∧ (b_2 = false → Q out_1)
def law08_Addrs_l1 (l : List T_api_Addr) (most : Int) (Q : (List T_api_Addr) → Prop) (K_1 : (List T_api_Addr) → Int → Prop) (out_1 : List T_api_Addr) (i_1 : Int) : Prop :=
 (i_1 < (l.length : Int) → law08_Addrs_j1 l Q out_1 i_1 K_1 (decide (i_1 < most))) ∧ (¬ (i_1 < (l.length : Int)) → law08_Addrs_j1 l Q out_1 i_1 K_1 false)
def law08_Addrs_W (l : List T_api_Addr) (most : Int) (Q : (List T_api_Addr) → Prop) : Prop :=
 loopW (fun (K_1 : (List T_api_Addr × Int) → Prop) (s : List T_api_Addr × Int) => law08_Addrs_l1 l most Q (fun out_1 i_1 => K_1 (out_1, i_1)) s.1 s.2) ([], 0)
set_option maxHeartbeats 40000000 in
set_option maxRecDepth 100000 in
theorem law08_Addrs_walk {F : Fz} {fr : List Ow} {h0 : Heap} (l : List T_api_Addr) (most : Int) (vl : Value) (hS : St F (fr) h0) (hL_l : SliceF F h0 17 e_api_Addr vl l) {Q : (List T_api_Addr) → Prop} (hM : law08_Addrs_W l most Q) :
  HC Try.prog 15 #[vl, .int .i64 most] h0 fun u h' => ∃ (F' : Fz) (r_1 : List T_api_Addr) (vr_1 : Value), u = vr_1 ∧ Kp F h0 F' h' ∧ St F' (Ow.own 30 17 e_api_Addr vr_1 r_1 :: fr) h' ∧ (SliceF F' h' 17 e_api_Addr vl l) ∧ Q r_1 := by
 unfold law08_Addrs_W at hM
 have hK := Kp.refl F h0
 refine HC.of_HW (n := 27) Try.func15 rfl rfl (Nat.le_of_ble_eq_true rfl) ?_
 refine HW.seq ?_
 refine HW.region ?_
 refine oA (.slice none 0 0) rfl rfl ?_
 refine HO.nil (thenQ_normal (?_))
 refine HW.seq ?_
 refine HW.region ?_
 refine HO.eff (want_none) rfl (st_litEmpty (α := T_api_Addr) e_api_Addr hS tl_32) ?_
 rintro _ h_1 ⟨b_1, rfl, hS, hk⟩
 replace hK := hK.trans hk
 replace hL_l := hL_l.kp hk
 refine oA (.slice (some ⟨b_1, 0, none⟩) 0 0) rfl rfl ?_
 refine HO.nil (thenQ_normal (?_))
 refine HW.seq ?_
 refine HW.seq ?_
 refine HW.region ?_
 refine oA (.int .i64 0) rfl rfl ?_
 refine HO.nil (thenQ_normal (?_))
 refine HW.block ?_
 obtain ⟨I_1, m_1, hI_1, hR_1⟩ := hM
 refine HW.loop (S := List T_api_Addr × Int) (fun s f h => match s with | (out_1, i_1) => ∃ (F' : Fz) (vout_1 : Value), f 0 = vl ∧ f 1 = .int .i64 most ∧ f 4 = .slice none 0 0 ∧ f 5 = vout_1 ∧ f 6 = .int .i64 i_1 ∧ Kp F h0 F' h ∧ St F' (Ow.own 30 17 e_api_Addr vout_1 out_1 :: fr) h ∧ (SliceF F' h 17 e_api_Addr vl l) ∧ I_1 (out_1, i_1)) m_1 ([], 0) ⟨F, .slice (some ⟨b_1, 0, none⟩) 0 0, rfl, rfl, rfl, rfl, rfl, hK, hS, hL_l, hI_1⟩ ?_
 rintro ⟨out_1, i_1⟩ f_1 h_2 ⟨F_1, vout_1, e0, e1, e4, e5, e6, hK, hS, hL_l, hI0⟩
 obtain ⟨K_1, hKe_1⟩ : ∃ K : (List T_api_Addr) → Int → Prop, K = fun out_1' i_1' => I_1 (out_1', i_1') ∧ m_1 (out_1', i_1') < m_1 (out_1, i_1) := ⟨_, rfl⟩
 have hM : law08_Addrs_l1 l most Q K_1 out_1 i_1 := by rw [hKe_1]; exact hR_1 (out_1, i_1) hI0
 unfold law08_Addrs_l1 at hM
 refine HW.fr [(0, vl), (1, .int .i64 most), (4, .slice none 0 0), (5, vout_1), (6, .int .i64 i_1)] ⟨e0, e1, e4, e5, e6, trivial⟩ ?_
 refine HW.seq ?_
 refine HW.seq_mid (fun f h => ∃ (F' : Fz) (b_2 : Bool), f 0 = vl ∧ f 1 = .int .i64 most ∧ f 4 = .slice none 0 0 ∧ f 5 = vout_1 ∧ f 6 = .int .i64 i_1 ∧ f 16 = .bool b_2 ∧ Kp F h0 F' h ∧ St F' (Ow.own 30 17 e_api_Addr vout_1 out_1 :: fr) h ∧ (SliceF F' h 17 e_api_Addr vl l) ∧ law08_Addrs_j1 l Q out_1 i_1 K_1 b_2) ?_ ?_
 ·
  refine HW.region ?_
  refine oM (.int .i64 i_1) rfl rfl ?_
  refine oM (vl) rfl rfl ?_
  refine oV (.int .i64 (l.length : Int)) (q_len ts_32 (shp hL_l.is) rfl rfl) rfl ?_
  refine oV (.bool (decide (i_1 < (l.length : Int)))) (q_lss rfl rfl) rfl ?_
  refine oM (.bool (decide (i_1 < (l.length : Int)))) rfl rfl ?_
  rcases Bool.eq_false_or_eq_true (decide (i_1 < (l.length : Int))) with c_1 | c_1
  ·
   replace hM := hM.1 (of_decide_eq_true c_1)
   refine HO.val (v := .int .i64 i_1) (want_by rfl rfl c_1) rfl (q_move rfl) ?_
   refine HO.val (v := .int .i64 most) (want_by rfl rfl c_1) rfl (q_move rfl) ?_
   refine HO.val (v := .bool (decide (i_1 < most))) (want_by rfl rfl c_1) rfl (q_lss rfl rfl) ?_
   refine oV (.bool (decide (i_1 < most))) (q_pickK true rfl c_1 rfl) rfl ?_
   refine HO.nil (thenQ_normal (?_))
   exact ⟨F_1, decide (i_1 < most), rfl, rfl, rfl, rfl, rfl, rfl, hK, hS, hL_l, hM⟩
  ·
   replace hM := hM.2 (of_decide_eq_false c_1)
   refine HO.past (past_by rfl rfl c_1) rfl ?_
   refine HO.past (past_by rfl rfl c_1) rfl ?_
   refine HO.past (past_by rfl rfl c_1) rfl ?_
   refine oV (.bool false) (q_pickK false rfl c_1 rfl) rfl ?_
   refine HO.nil (thenQ_normal (?_))
   exact ⟨F_1, false, rfl, rfl, rfl, rfl, rfl, rfl, hK, hS, hL_l, hM⟩
 ·
  rintro f_2 h_3 ⟨F_2, b_2, e0, e1, e4, e5, e6, e16, hK, hS, hL_l, hM⟩
  unfold law08_Addrs_j1 at hM
  refine HW.fr [(0, vl), (1, .int .i64 most), (4, .slice none 0 0), (5, vout_1), (6, .int .i64 i_1), (16, .bool b_2)] ⟨e0, e1, e4, e5, e6, e16, trivial⟩ ?_
  refine HW.cond b_2 rfl (fun c_2 => ?_) (fun c_2 => ?_)
  ·
   replace hM := hM.1 c_2
   refine HW.skip (thenQ_normal (?_))
   refine HW.seq ?_
   refine HW.block ?_
   refine HW.region ?_
   refine oM (vout_1) rfl rfl ?_
   refine oM (vl) rfl rfl ?_
   refine oM (.int .i64 i_1) rfl rfl ?_
   obtain ⟨ho_1, hM⟩ := hM
   refine oV (elemPtr 17 vl (i_1).toNat) (q_idx ts_32 hL_l.is rfl rfl ho_1) rfl ?_
   refine oV (.agg (e_api_Addr (gi l i_1)).toArray) (q_ldElemAgg (cs := (e_api_Addr (gi l i_1))) ta_30 hL_l.is rfl ho_1 rfl) rfl ?_
   refine HO.eff (want_none) rfl (st_lit (enc := e_api_Addr) (cells := #[.bool ((gi l i_1).1), .int .u8 (b8 ((gi l i_1).2) 0), .int .u8 (b8 ((gi l i_1).2) 1), .int .u8 (b8 ((gi l i_1).2) 2), .int .u8 (b8 ((gi l i_1).2) 3), .int .u8 (b8 ((gi l i_1).2) 4), .int .u8 (b8 ((gi l i_1).2) 5), .int .u8 (b8 ((gi l i_1).2) 6), .int .u8 (b8 ((gi l i_1).2) 7), .int .u8 (b8 ((gi l i_1).2) 8), .int .u8 (b8 ((gi l i_1).2) 9), .int .u8 (b8 ((gi l i_1).2) 10), .int .u8 (b8 ((gi l i_1).2) 11), .int .u8 (b8 ((gi l i_1).2) 12), .int .u8 (b8 ((gi l i_1).2) 13), .int .u8 (b8 ((gi l i_1).2) 14), .int .u8 (b8 ((gi l i_1).2) 15)]) #[.bool false, .int .u8 0, .int .u8 0, .int .u8 0, .int .u8 0, .int .u8 0, .int .u8 0, .int .u8 0, .int .u8 0, .int .u8 0, .int .u8 0, .int .u8 0, .int .u8 0, .int .u8 0, .int .u8 0, .int .u8 0, .int .u8 0] ([(gi l i_1)] : List T_api_Addr) hS tl_32 (by decide) (by decide) (by kernel_rfl) (by kernel_rfl) rfl (by intro x hx; rfl) rfl) ?_
   rintro _ h_4 ⟨b_3, rfl, hS, hk⟩
   replace hK := hK.trans hk
   replace hL_l := hL_l.kp hk
   obtain ⟨ho_2, hM⟩ := hM
   refine HO.eff (want_none) rfl (st_append te_32 hS (i := 1) rfl (hS.own 0 rfl).slice rfl rfl rfl (by intro a _ u hu; simp [e_api_Addr, encI, encN, encB, encT] at hu; rcases hu with rfl | rfl | rfl | rfl | rfl | rfl | rfl | rfl | rfl | rfl | rfl | rfl | rfl | rfl | rfl | rfl | rfl <;> rfl) ho_2 (by omega)) ?_
   rintro v_1 h_5 ⟨hS, hk⟩
   replace hK := hK.trans hk
   replace hL_l := hL_l.kp hk
   refine oA (v_1) rfl rfl ?_
   refine HO.nil (blockQ_normal (thenQ_normal (?_)))
   refine HW.region ?_
   refine oM (.int .i64 i_1) rfl rfl ?_
   obtain ⟨ho_3, hM⟩ := hM
   refine oV (.int .i64 (i_1 + 1)) (q_addN _ rfl rfl rfl ho_3.1 ho_3.2) rfl ?_
   refine oA (.int .i64 (i_1 + 1)) rfl rfl ?_
   refine HO.nil (thenQ_normal (?_))
   replace hS : St F_2 (Ow.own 30 17 e_api_Addr v_1 (out_1 ++ ([(gi l i_1)] : List T_api_Addr)) :: fr) h_5 := hS.perm2 [1] 2 rfl rfl
   rw [hKe_1] at hM
   exact ⟨(out_1 ++ ([(gi l i_1)] : List T_api_Addr), i_1 + 1), ⟨F_2, v_1, rfl, rfl, rfl, rfl, rfl, hK, hS, hL_l, hM.1⟩, hM.2⟩
  ·
   replace hM := hM.2 c_2
   refine HW.exit (thenQ_exit (thenQ_exit (blockQ_exit (thenQ_normal (?_)))))
   refine HW.seq ?_
   refine HW.region ?_
   refine oM (vout_1) rfl rfl ?_
   refine oA (vout_1) rfl rfl ?_
   refine HO.nil (thenQ_normal (?_))
   refine HW.ret (?_)
   refine ⟨.inr rfl, vout_1, res1 rfl (rt rfl), ?_⟩
   exact ⟨F_2, out_1, vout_1, rfl, hK, hS, hL_l, hM⟩

def cmp_isNaN_int_W (x : Int) (Q : Bool → Prop) : Prop :=
 Q (!decide (x = x))
set_option maxHeartbeats 40000000 in
set_option maxRecDepth 100000 in
theorem cmp_isNaN_int_walk {F : Fz} {fr : List Ow} {h0 : Heap} (x : Int) (hS : St F (fr) h0)  {Q : Bool → Prop} (hM : cmp_isNaN_int_W x Q) :
  HC Try.prog 127 #[.int .i64 x] h0 fun u h' => ∃ (F' : Fz) (r_1 : Bool), u = .bool r_1 ∧ Kp F h0 F' h' ∧ St F' (fr) h' ∧ Q r_1 := by
 unfold cmp_isNaN_int_W at hM
 have hK := Kp.refl F h0
 refine HC.of_HW (n := 6) Try.func127 rfl rfl (Nat.le_of_ble_eq_true rfl) ?_
 refine HW.seq ?_
 refine HW.region ?_
 refine oA (.bool false) rfl rfl ?_
 refine HO.nil (thenQ_normal (?_))
 refine HW.seq ?_
 refine HW.region ?_
 refine oM (.int .i64 x) rfl rfl ?_
 refine oM (.int .i64 x) rfl rfl ?_
 refine oV (.bool (!decide (x = x))) (q_neq rfl rfl) rfl ?_
 refine oA (.bool (!decide (x = x))) rfl rfl ?_
 refine HO.nil (thenQ_normal (?_))
 refine HW.ret (?_)
 refine ⟨.inr rfl, .bool (!decide (x = x)), res1 rfl (rt rfl), ?_⟩
 exact ⟨F, !decide (x = x), rfl, hK, hS, hM⟩

def cmp_Compare_int_W (x : Int) (y : Int) (Q : Int → Prop) : Prop :=
 cmp_isNaN_int_W x (fun r_2 => cmp_isNaN_int_W y (fun r_3 => (r_2 = true → (r_3 = true → Q 0) ∧ (r_3 = false → Q (-1))) ∧ (r_2 = false → (r_3 = true → Q 1) ∧ (r_3 = false → (x < y → Q (-1)) ∧ (¬ (x < y) → (y < x → Q 1) ∧ (¬ (y < x) → Q 0))))))
set_option maxHeartbeats 40000000 in
set_option maxRecDepth 100000 in
theorem cmp_Compare_int_walk {F : Fz} {fr : List Ow} {h0 : Heap} (x : Int) (y : Int) (hS : St F (fr) h0)  {Q : Int → Prop} (hM : cmp_Compare_int_W x y Q) :
  HC Try.prog 106 #[.int .i64 x, .int .i64 y] h0 fun u h' => ∃ (F' : Fz) (r_1 : Int), u = .int .i64 r_1 ∧ Kp F h0 F' h' ∧ St F' (fr) h' ∧ Q r_1 := by
 unfold cmp_Compare_int_W at hM
 have hK := Kp.refl F h0
 refine HC.of_HW (n := 20) Try.func106 rfl rfl (Nat.le_of_ble_eq_true rfl) ?_
 refine HW.seq ?_
 refine HW.region ?_
 refine oA (.int .i64 0) rfl rfl ?_
 refine HO.nil (thenQ_normal (?_))
 refine HW.seq ?_
 refine HW.region ?_
 refine oM (.int .i64 x) rfl rfl ?_
 refine HO.call (want_none) rfl (ec en_127 rfl rfl) (cmp_isNaN_int_walk (fr := (fr)) x hS hM) ?_
 rintro _ h_1 ⟨F_1, r_2, rfl, hk, hS, hM⟩
 replace hK := hK.trans hk
 refine oA (.bool r_2) rfl rfl ?_
 refine HO.nil (thenQ_normal (?_))
 refine HW.seq ?_
 refine HW.region ?_
 refine oM (.int .i64 y) rfl rfl ?_
 refine HO.call (want_none) rfl (ec en_127 rfl rfl) (cmp_isNaN_int_walk (fr := (fr)) y hS hM) ?_
 rintro _ h_2 ⟨F_2, r_3, rfl, hk, hS, hM⟩
 replace hK := hK.trans hk
 refine oA (.bool r_3) rfl rfl ?_
 refine HO.nil (thenQ_normal (?_))
 refine HW.seq ?_
 refine HW.seq ?_
 refine HW.region ?_
 refine oM (.bool r_2) rfl rfl ?_
 refine HO.nil (thenQ_normal (?_))
 refine HW.cond r_2 rfl (fun c_1 => ?_) (fun c_1 => ?_)
 ·
  replace hM := hM.1 c_1
  refine HW.seq ?_
  refine HW.seq ?_
  refine HW.region ?_
  refine oM (.bool r_3) rfl rfl ?_
  refine HO.nil (thenQ_normal (?_))
  refine HW.cond r_3 rfl (fun c_2 => ?_) (fun c_2 => ?_)
  ·
   replace hM := hM.1 c_2
   refine HW.seq ?_
   refine HW.region ?_
   refine oA (.int .i64 0) rfl rfl ?_
   refine HO.nil (thenQ_normal (?_))
   refine HW.ret (thenQ_ret (thenQ_ret (?_)))
   refine ⟨.inr rfl, .int .i64 0, res1 rfl (rt rfl), ?_⟩
   exact ⟨F_2, 0, rfl, hK, hS, hM⟩
  ·
   replace hM := hM.2 c_2
   refine HW.skip (thenQ_normal (?_))
   refine HW.seq ?_
   refine HW.region ?_
   refine oA (.int .i64 (-1)) rfl rfl ?_
   refine HO.nil (thenQ_normal (?_))
   refine HW.ret (thenQ_ret (?_))
   refine ⟨.inr rfl, .int .i64 (-1), res1 rfl (rt rfl), ?_⟩
   exact ⟨F_2, (-1), rfl, hK, hS, hM⟩
 ·
  replace hM := hM.2 c_1
  refine HW.skip (thenQ_normal (?_))
  refine HW.seq ?_
  refine HW.seq ?_
  refine HW.region ?_
  refine oM (.bool r_3) rfl rfl ?_
  refine HO.nil (thenQ_normal (?_))
  refine HW.cond r_3 rfl (fun c_3 => ?_) (fun c_3 => ?_)
  ·
   replace hM := hM.1 c_3
   refine HW.seq ?_
   refine HW.region ?_
   refine oA (.int .i64 1) rfl rfl ?_
   refine HO.nil (thenQ_normal (?_))
   refine HW.ret (thenQ_ret (?_))
   refine ⟨.inr rfl, .int .i64 1, res1 rfl (rt rfl), ?_⟩
   exact ⟨F_2, 1, rfl, hK, hS, hM⟩
  ·
   replace hM := hM.2 c_3
   refine HW.skip (thenQ_normal (?_))
   refine HW.seq ?_
   refine HW.seq ?_
   refine HW.region ?_
   refine oM (.int .i64 x) rfl rfl ?_
   refine oM (.int .i64 y) rfl rfl ?_
   refine oV (.bool (decide (x < y))) (q_lss rfl rfl) rfl ?_
   refine HO.nil (thenQ_normal (?_))
   refine HW.cond (decide (x < y)) rfl (fun c_4 => ?_) (fun c_4 => ?_)
   ·
    replace hM := hM.1 (of_decide_eq_true c_4)
    refine HW.seq ?_
    refine HW.region ?_
    refine oA (.int .i64 (-1)) rfl rfl ?_
    refine HO.nil (thenQ_normal (?_))
    refine HW.ret (thenQ_ret (?_))
    refine ⟨.inr rfl, .int .i64 (-1), res1 rfl (rt rfl), ?_⟩
    exact ⟨F_2, (-1), rfl, hK, hS, hM⟩
   ·
    replace hM := hM.2 (of_decide_eq_false c_4)
    refine HW.skip (thenQ_normal (?_))
    refine HW.seq ?_
    refine HW.seq ?_
    refine HW.region ?_
    refine oM (.int .i64 x) rfl rfl ?_
    refine oM (.int .i64 y) rfl rfl ?_
    refine oV (.bool (decide (y < x))) (q_gtr rfl rfl) rfl ?_
    refine HO.nil (thenQ_normal (?_))
    refine HW.cond (decide (y < x)) rfl (fun c_5 => ?_) (fun c_5 => ?_)
    ·
     replace hM := hM.1 (of_decide_eq_true c_5)
     refine HW.seq ?_
     refine HW.region ?_
     refine oA (.int .i64 1) rfl rfl ?_
     refine HO.nil (thenQ_normal (?_))
     refine HW.ret (thenQ_ret (?_))
     refine ⟨.inr rfl, .int .i64 1, res1 rfl (rt rfl), ?_⟩
     exact ⟨F_2, 1, rfl, hK, hS, hM⟩
    ·
     replace hM := hM.2 (of_decide_eq_false c_5)
     refine HW.skip (thenQ_normal (?_))
     refine HW.seq ?_
     refine HW.region ?_
     refine oA (.int .i64 0) rfl rfl ?_
     refine HO.nil (thenQ_normal (?_))
     refine HW.ret (?_)
     refine ⟨.inr rfl, .int .i64 0, res1 rfl (rt rfl), ?_⟩
     exact ⟨F_2, 0, rfl, hK, hS, hM⟩

def cmp_isNaN_string_W (x : Str) (Q : Bool → Prop) : Prop :=
 Q (!decide ((x : Str) = x))
set_option maxHeartbeats 40000000 in
set_option maxRecDepth 100000 in
theorem cmp_isNaN_string_walk {F : Fz} {fr : List Ow} {h0 : Heap} (x : Str) (hS : St F (fr) h0)  {Q : Bool → Prop} (hM : cmp_isNaN_string_W x Q) :
  HC Try.prog 128 #[.string (bs x)] h0 fun u h' => ∃ (F' : Fz) (r_1 : Bool), u = .bool r_1 ∧ Kp F h0 F' h' ∧ St F' (fr) h' ∧ Q r_1 := by
 unfold cmp_isNaN_string_W at hM
 have hK := Kp.refl F h0
 refine HC.of_HW (n := 6) Try.func128 rfl rfl (Nat.le_of_ble_eq_true rfl) ?_
 refine HW.seq ?_
 refine HW.region ?_
 refine oA (.bool false) rfl rfl ?_
 refine HO.nil (thenQ_normal (?_))
 refine HW.seq ?_
 refine HW.region ?_
 refine oM (.string (bs x)) rfl rfl ?_
 refine oM (.string (bs x)) rfl rfl ?_
 refine oV (.bool (!decide ((x : Str) = x))) (q_neqT rfl rfl) rfl ?_
 refine oA (.bool (!decide ((x : Str) = x))) rfl rfl ?_
 refine HO.nil (thenQ_normal (?_))
 refine HW.ret (?_)
 refine ⟨.inr rfl, .bool (!decide ((x : Str) = x)), res1 rfl (rt rfl), ?_⟩
 exact ⟨F, !decide ((x : Str) = x), rfl, hK, hS, hM⟩

def cmp_Compare_string_W (x : Str) (y : Str) (Q : Int → Prop) : Prop :=
 cmp_isNaN_string_W x (fun r_2 => cmp_isNaN_string_W y (fun r_3 => (r_2 = true → (r_3 = true → Q 0) ∧ (r_3 = false → Q (-1))) ∧ (r_2 = false → (r_3 = true → Q 1) ∧ (r_3 = false → ((x : Str) < (y : Str) → Q (-1)) ∧ (¬ ((x : Str) < (y : Str)) → (¬ ((x : Str) < (y : Str) ∨ (x : Str) = (y : Str)) → Q 1) ∧ ((x : Str) < (y : Str) ∨ (x : Str) = (y : Str) → Q 0))))))
set_option maxHeartbeats 40000000 in
set_option maxRecDepth 100000 in
theorem cmp_Compare_string_walk {F : Fz} {fr : List Ow} {h0 : Heap} (x : Str) (y : Str) (hS : St F (fr) h0)  {Q : Int → Prop} (hM : cmp_Compare_string_W x y Q) :
  HC Try.prog 107 #[.string (bs x), .string (bs y)] h0 fun u h' => ∃ (F' : Fz) (r_1 : Int), u = .int .i64 r_1 ∧ Kp F h0 F' h' ∧ St F' (fr) h' ∧ Q r_1 := by
 unfold cmp_Compare_string_W at hM
 have hK := Kp.refl F h0
 refine HC.of_HW (n := 20) Try.func107 rfl rfl (Nat.le_of_ble_eq_true rfl) ?_
 refine HW.seq ?_
 refine HW.region ?_
 refine oA (.int .i64 0) rfl rfl ?_
 refine HO.nil (thenQ_normal (?_))
 refine HW.seq ?_
 refine HW.region ?_
 refine oM (.string (bs x)) rfl rfl ?_
 refine HO.call (want_none) rfl (ec en_128 rfl rfl) (cmp_isNaN_string_walk (fr := (fr)) x hS hM) ?_
 rintro _ h_1 ⟨F_1, r_2, rfl, hk, hS, hM⟩
 replace hK := hK.trans hk
 refine oA (.bool r_2) rfl rfl ?_
 refine HO.nil (thenQ_normal (?_))
 refine HW.seq ?_
 refine HW.region ?_
 refine oM (.string (bs y)) rfl rfl ?_
 refine HO.call (want_none) rfl (ec en_128 rfl rfl) (cmp_isNaN_string_walk (fr := (fr)) y hS hM) ?_
 rintro _ h_2 ⟨F_2, r_3, rfl, hk, hS, hM⟩
 replace hK := hK.trans hk
 refine oA (.bool r_3) rfl rfl ?_
 refine HO.nil (thenQ_normal (?_))
 refine HW.seq ?_
 refine HW.seq ?_
 refine HW.region ?_
 refine oM (.bool r_2) rfl rfl ?_
 refine HO.nil (thenQ_normal (?_))
 refine HW.cond r_2 rfl (fun c_1 => ?_) (fun c_1 => ?_)
 ·
  replace hM := hM.1 c_1
  refine HW.seq ?_
  refine HW.seq ?_
  refine HW.region ?_
  refine oM (.bool r_3) rfl rfl ?_
  refine HO.nil (thenQ_normal (?_))
  refine HW.cond r_3 rfl (fun c_2 => ?_) (fun c_2 => ?_)
  ·
   replace hM := hM.1 c_2
   refine HW.seq ?_
   refine HW.region ?_
   refine oA (.int .i64 0) rfl rfl ?_
   refine HO.nil (thenQ_normal (?_))
   refine HW.ret (thenQ_ret (thenQ_ret (?_)))
   refine ⟨.inr rfl, .int .i64 0, res1 rfl (rt rfl), ?_⟩
   exact ⟨F_2, 0, rfl, hK, hS, hM⟩
  ·
   replace hM := hM.2 c_2
   refine HW.skip (thenQ_normal (?_))
   refine HW.seq ?_
   refine HW.region ?_
   refine oA (.int .i64 (-1)) rfl rfl ?_
   refine HO.nil (thenQ_normal (?_))
   refine HW.ret (thenQ_ret (?_))
   refine ⟨.inr rfl, .int .i64 (-1), res1 rfl (rt rfl), ?_⟩
   exact ⟨F_2, (-1), rfl, hK, hS, hM⟩
 ·
  replace hM := hM.2 c_1
  refine HW.skip (thenQ_normal (?_))
  refine HW.seq ?_
  refine HW.seq ?_
  refine HW.region ?_
  refine oM (.bool r_3) rfl rfl ?_
  refine HO.nil (thenQ_normal (?_))
  refine HW.cond r_3 rfl (fun c_3 => ?_) (fun c_3 => ?_)
  ·
   replace hM := hM.1 c_3
   refine HW.seq ?_
   refine HW.region ?_
   refine oA (.int .i64 1) rfl rfl ?_
   refine HO.nil (thenQ_normal (?_))
   refine HW.ret (thenQ_ret (?_))
   refine ⟨.inr rfl, .int .i64 1, res1 rfl (rt rfl), ?_⟩
   exact ⟨F_2, 1, rfl, hK, hS, hM⟩
  ·
   replace hM := hM.2 c_3
   refine HW.skip (thenQ_normal (?_))
   refine HW.seq ?_
   refine HW.seq ?_
   refine HW.region ?_
   refine oM (.string (bs x)) rfl rfl ?_
   refine oM (.string (bs y)) rfl rfl ?_
   refine oV (.bool (decide ((x : Str) < (y : Str)))) (q_lssT rfl rfl) rfl ?_
   refine HO.nil (thenQ_normal (?_))
   refine HW.cond (decide ((x : Str) < (y : Str))) rfl (fun c_4 => ?_) (fun c_4 => ?_)
   ·
    replace hM := hM.1 (of_decide_eq_true c_4)
    refine HW.seq ?_
    refine HW.region ?_
    refine oA (.int .i64 (-1)) rfl rfl ?_
    refine HO.nil (thenQ_normal (?_))
    refine HW.ret (thenQ_ret (?_))
    refine ⟨.inr rfl, .int .i64 (-1), res1 rfl (rt rfl), ?_⟩
    exact ⟨F_2, (-1), rfl, hK, hS, hM⟩
   ·
    replace hM := hM.2 (of_decide_eq_false c_4)
    refine HW.skip (thenQ_normal (?_))
    refine HW.seq ?_
    refine HW.seq ?_
    refine HW.region ?_
    refine oM (.string (bs x)) rfl rfl ?_
    refine oM (.string (bs y)) rfl rfl ?_
    refine oV (.bool (!decide ((x : Str) < (y : Str) ∨ (x : Str) = (y : Str)))) (q_gtrT rfl rfl) rfl ?_
    refine HO.nil (thenQ_normal (?_))
    refine HW.cond (!decide ((x : Str) < (y : Str) ∨ (x : Str) = (y : Str))) rfl (fun c_5 => ?_) (fun c_5 => ?_)
    ·
     replace hM := hM.1 (nd_true c_5)
     refine HW.seq ?_
     refine HW.region ?_
     refine oA (.int .i64 1) rfl rfl ?_
     refine HO.nil (thenQ_normal (?_))
     refine HW.ret (thenQ_ret (?_))
     refine ⟨.inr rfl, .int .i64 1, res1 rfl (rt rfl), ?_⟩
     exact ⟨F_2, 1, rfl, hK, hS, hM⟩
    ·
     replace hM := hM.2 (nd_false c_5)
     refine HW.skip (thenQ_normal (?_))
     refine HW.seq ?_
     refine HW.region ?_
     refine oA (.int .i64 0) rfl rfl ?_
     refine HO.nil (thenQ_normal (?_))
     refine HW.ret (?_)
     refine ⟨.inr rfl, .int .i64 0, res1 rfl (rt rfl), ?_⟩
     exact ⟨F_2, 0, rfl, hK, hS, hM⟩

def cmp_Or_int_l1 (vals : List Int) (Q : Int → Prop) (K_1 : Int → Prop) (n_1 : Int) : Prop :=
 (n_1 < (vals.length : Int) → ((0 : Int) ≤ n_1 ∧ n_1 < (vals.length : Int)) ∧ ((¬ ((gi vals n_1) = 0) → Q (gi vals n_1)) ∧ ((gi vals n_1) = 0 → (I64 (n_1 + 1)) ∧ (K_1 (n_1 + 1))))) ∧ (¬ (n_1 < (vals.length : Int)) → Q 0)
def cmp_Or_int_W (vals : List Int) (Q : Int → Prop) : Prop :=
 loopW (fun (K_1 : Int → Prop) (s : Int) => cmp_Or_int_l1 vals Q K_1 s) 0
set_option maxHeartbeats 40000000 in
set_option maxRecDepth 100000 in
theorem cmp_Or_int_walk {F : Fz} {fr : List Ow} {h0 : Heap} (vals : List Int) (vvals : Value) (hS : St F (fr) h0) (hL_vals : SliceF F h0 1 encI vvals vals) {Q : Int → Prop} (hM : cmp_Or_int_W vals Q) :
  HC Try.prog 105 #[vvals] h0 fun u h' => ∃ (F' : Fz) (r_1 : Int), u = .int .i64 r_1 ∧ Kp F h0 F' h' ∧ St F' (fr) h' ∧ (SliceF F' h' 1 encI vvals vals) ∧ Q r_1 := by
 unfold cmp_Or_int_W at hM
 have hK := Kp.refl F h0
 refine HC.of_HW (n := 18) Try.func105 rfl rfl (Nat.le_of_ble_eq_true rfl) ?_
 refine HW.seq ?_
 refine HW.region ?_
 refine oA (.int .i64 0) rfl rfl ?_
 refine HO.nil (thenQ_normal (?_))
 refine HW.seq ?_
 refine HW.region ?_
 refine oA (.int .i64 0) rfl rfl ?_
 refine HO.nil (thenQ_normal (?_))
 refine HW.seq ?_
 refine HW.seq ?_
 refine HW.region ?_
 refine oM (vvals) rfl rfl ?_
 refine oV (.int .i64 (vals.length : Int)) (q_len ts_161 (shp hL_vals.is) rfl rfl) rfl ?_
 refine oM (.int .i64 0) rfl rfl ?_
 refine HO.nil (thenQ_normal (?_))
 refine HW.block ?_
 obtain ⟨I_1, m_1, hI_1, hR_1⟩ := hM
 refine HW.loop (S := Int) (fun n_1 f h => ∃ (F' : Fz), f 2 = .int .i64 0 ∧ f 3 = .int .i64 0 ∧ f 6 = vvals ∧ f 7 = .int .i64 (vals.length : Int) ∧ f 8 = .int .i64 n_1 ∧ Kp F h0 F' h ∧ St F' (fr) h ∧ (SliceF F' h 1 encI vvals vals) ∧ I_1 n_1) m_1 0 ⟨F, rfl, rfl, rfl, rfl, rfl, hK, hS, hL_vals, hI_1⟩ ?_
 rintro n_1 f_1 h_1 ⟨F_1, e2, e3, e6, e7, e8, hK, hS, hL_vals, hI0⟩
 obtain ⟨K_1, hKe_1⟩ : ∃ K : Int → Prop, K = fun n_1' => I_1 n_1' ∧ m_1 n_1' < m_1 n_1 := ⟨_, rfl⟩
 have hM : cmp_Or_int_l1 vals Q K_1 n_1 := by rw [hKe_1]; exact hR_1 n_1 hI0
 unfold cmp_Or_int_l1 at hM
 refine HW.fr [(2, .int .i64 0), (3, .int .i64 0), (6, vvals), (7, .int .i64 (vals.length : Int)), (8, .int .i64 n_1)] ⟨e2, e3, e6, e7, e8, trivial⟩ ?_
 refine HW.seq ?_
 refine HW.region ?_
 refine oV (.bool (decide (n_1 < (vals.length : Int)))) (q_lss rfl rfl) rfl ?_
 refine HO.nil (thenQ_normal (?_))
 refine HW.seq ?_
 refine HW.cond (decide (n_1 < (vals.length : Int))) rfl (fun c_1 => ?_) (fun c_1 => ?_)
 ·
  replace hM := hM.1 (of_decide_eq_true c_1)
  refine HW.skip (thenQ_normal (?_))
  refine HW.seq ?_
  refine HW.block ?_
  refine HW.seq ?_
  refine HW.region ?_
  obtain ⟨ho_1, hM⟩ := hM
  refine oV (elemPtr 1 vvals (n_1).toNat) (q_idx ts_161 hL_vals.is rfl rfl ho_1) rfl ?_
  refine oV (.int .i64 (gi vals n_1)) (q_ldElem to_3 hL_vals.is rfl ho_1 rfl) rfl ?_
  refine oA (.int .i64 (gi vals n_1)) rfl rfl ?_
  refine HO.nil (thenQ_normal (?_))
  refine HW.seq ?_
  refine HW.region ?_
  refine oM (.int .i64 (gi vals n_1)) rfl rfl ?_
  refine oM (.int .i64 0) rfl rfl ?_
  refine oV (.bool (!decide ((gi vals n_1) = 0))) (q_neq rfl rfl) rfl ?_
  refine HO.nil (thenQ_normal (?_))
  refine HW.cond (!decide ((gi vals n_1) = 0)) rfl (fun c_2 => ?_) (fun c_2 => ?_)
  ·
   replace hM := hM.1 (nd_true c_2)
   refine HW.seq ?_
   refine HW.region ?_
   refine oM (.int .i64 (gi vals n_1)) rfl rfl ?_
   refine oA (.int .i64 (gi vals n_1)) rfl rfl ?_
   refine HO.nil (thenQ_normal (?_))
   refine HW.ret (blockQ_ret (thenQ_ret (thenQ_ret (blockQ_ret (thenQ_ret (?_))))))
   refine ⟨.inr rfl, .int .i64 (gi vals n_1), res1 rfl (rt rfl), ?_⟩
   exact ⟨F_1, (gi vals n_1), rfl, hK, hS, hL_vals, hM⟩
  ·
   replace hM := hM.2 (nd_false c_2)
   refine HW.skip (blockQ_normal (thenQ_normal (?_)))
   refine HW.region ?_
   obtain ⟨ho_2, hM⟩ := hM
   refine oV (.int .i64 (n_1 + 1)) (q_addN _ rfl rfl rfl ho_2.1 ho_2.2) rfl ?_
   refine oM (.int .i64 (n_1 + 1)) rfl rfl ?_
   refine HO.nil (thenQ_normal (?_))
   rw [hKe_1] at hM
   exact ⟨n_1 + 1, ⟨F_1, rfl, rfl, rfl, rfl, rfl, hK, hS, hL_vals, hM.1⟩, hM.2⟩
 ·
  replace hM := hM.2 (of_decide_eq_false c_1)
  refine HW.exit (thenQ_exit (thenQ_exit (blockQ_exit (thenQ_normal (?_)))))
  refine HW.seq ?_
  refine HW.region ?_
  refine oM (.int .i64 0) rfl rfl ?_
  refine oA (.int .i64 0) rfl rfl ?_
  refine HO.nil (thenQ_normal (?_))
  refine HW.ret (?_)
  refine ⟨.inr rfl, .int .i64 0, res1 rfl (rt rfl), ?_⟩
  exact ⟨F_1, 0, rfl, hK, hS, hL_vals, hM⟩

def clock_Clock_before_string_W (c_at : List (Str × Int)) (a : Str) (b : Str) (Q : Int → Prop) : Prop :=
 cmp_Compare_int_W (mget0 c_at a) (mget0 c_at b) (fun r_2 => cmp_Compare_string_W a b (fun r_3 => cmp_Or_int_W ([r_2, r_3] : List Int) (fun r_4 => Q r_4)))
set_option maxHeartbeats 40000000 in
set_option maxRecDepth 100000 in
theorem clock_Clock_before_string_walk {F : Fz} {fr : List Ow} {h0 : Heap} (c_at : List (Str × Int)) (a : Str) (b : Str) (bc : Nat) (rc_at : Nat) (hS : St F (fr) h0) (hM_rc_at : RoF (Ow.map rc_at kT kI c_at) F h0) (hB_bc : RoF (Ow.box bc 110 #[.map (some rc_at)]) F h0) {Q : Int → Prop} (hM : clock_Clock_before_string_W c_at a b Q) :
  HC Try.prog 82 #[.pointer (some ⟨bc, 0, none⟩), .string (bs a), .string (bs b)] h0 fun u h' => ∃ (F' : Fz) (r_1 : Int), u = .int .i64 r_1 ∧ Kp F h0 F' h' ∧ St F' (fr) h' ∧ (RoF (Ow.map rc_at kT kI c_at) F' h') ∧ (RoF (Ow.box bc 110 #[.map (some rc_at)]) F' h') ∧ Q r_1 := by
 unfold clock_Clock_before_string_W at hM
 have hK := Kp.refl F h0
 refine HC.of_HW (n := 25) Try.func82 rfl rfl (Nat.le_of_ble_eq_true rfl) ?_
 refine HW.seq ?_
 refine HW.region ?_
 refine oA (.int .i64 0) rfl rfl ?_
 refine HO.nil (thenQ_normal (?_))
 refine HW.seq ?_
 refine HW.regionA 19 mixed (fun h => (MapIs h rc_at kT kI c_at) ∧ (Blk h bc (.cells #[.map (some rc_at)] 110 (0, 0)))) [] (by kernel_rfl) ?_
 refine HA.val (k := 0) (v := .pointer (some ⟨bc, 0, none⟩)) rfl rfl (by kernel_rfl) (by kernel_rfl) (want_none) rfl (fun _ ⟨hM_rc_at, hB_bc⟩ => q_move rfl) ?_
 refine HA.val (k := 1) (v := .pointer (some ⟨bc, 0, none⟩)) rfl rfl (by kernel_rfl) (by kernel_rfl) (want_none) rfl (fun _ ⟨hM_rc_at, hB_bc⟩ => q_nilCheck rfl) ?_
 refine HA.val (k := 2) (v := .pointer (some ⟨bc, 0, none⟩)) rfl rfl (by kernel_rfl) (by kernel_rfl) (want_none) rfl (fun _ ⟨hM_rc_at, hB_bc⟩ => q_fieldAddr fa_110_0 rfl rfl) ?_
 refine HA.val (k := 3) (v := .map (some rc_at)) rfl rfl (by kernel_rfl) (by kernel_rfl) (want_none) rfl (fun _ ⟨hM_rc_at, hB_bc⟩ => q_load to_108 rfl (Blk.cell hB_bc rfl)) ?_
 refine HA.val (k := 4) (v := .string (bs a)) rfl rfl (by kernel_rfl) (by kernel_rfl) (want_none) rfl (fun _ ⟨hM_rc_at, hB_bc⟩ => q_move rfl) ?_
 refine HA.val (k := 5) (v := .int .i64 (mget0 c_at a)) rfl rfl (by kernel_rfl) (by kernel_rfl) (want_none) rfl (fun _ ⟨hM_rc_at, hB_bc⟩ => (q_lookup (k := a) ka_9 tmk_108 hM_rc_at rfl rfl).of_eq (mval0 (z := .int .i64 0) rfl)) ?_
 refine HA.val (k := 6) (v := .pointer (some ⟨bc, 0, none⟩)) rfl rfl (by kernel_rfl) (by kernel_rfl) (want_none) rfl (fun _ ⟨hM_rc_at, hB_bc⟩ => q_move rfl) ?_
 refine HA.val (k := 7) (v := .pointer (some ⟨bc, 0, none⟩)) rfl rfl (by kernel_rfl) (by kernel_rfl) (want_none) rfl (fun _ ⟨hM_rc_at, hB_bc⟩ => q_nilCheck rfl) ?_
 refine HA.val (k := 8) (v := .pointer (some ⟨bc, 0, none⟩)) rfl rfl (by kernel_rfl) (by kernel_rfl) (want_none) rfl (fun _ ⟨hM_rc_at, hB_bc⟩ => q_fieldAddr fa_110_0 rfl rfl) ?_
 refine HA.val (k := 9) (v := .map (some rc_at)) rfl rfl (by kernel_rfl) (by kernel_rfl) (want_none) rfl (fun _ ⟨hM_rc_at, hB_bc⟩ => q_load to_108 rfl (Blk.cell hB_bc rfl)) ?_
 refine HA.val (k := 10) (v := .string (bs b)) rfl rfl (by kernel_rfl) (by kernel_rfl) (want_none) rfl (fun _ ⟨hM_rc_at, hB_bc⟩ => q_move rfl) ?_
 refine HA.val (k := 11) (v := .int .i64 (mget0 c_at b)) rfl rfl (by kernel_rfl) (by kernel_rfl) (want_none) rfl (fun _ ⟨hM_rc_at, hB_bc⟩ => (q_lookup (k := b) ka_9 tmk_108 hM_rc_at rfl rfl).of_eq (mval0 (z := .int .i64 0) rfl)) ?_
 refine HA.val (k := 13) (v := .string (bs a)) rfl rfl (by kernel_rfl) (by kernel_rfl) (want_none) rfl (fun _ ⟨hM_rc_at, hB_bc⟩ => q_move rfl) ?_
 refine HA.val (k := 14) (v := .string (bs b)) rfl rfl (by kernel_rfl) (by kernel_rfl) (want_none) rfl (fun _ ⟨hM_rc_at, hB_bc⟩ => q_move rfl) ?_
 refine HA.one (k := 12) ⟨⟨hM_rc_at.mp, hB_bc.box⟩, (Go.Wk.at_nil _ _)⟩ (by kernel_rfl) ?_
 refine HS.call rfl (want_none) rfl (ec en_106 rfl rfl) (cmp_Compare_int_walk (fr := (fr)) (mget0 c_at a) (mget0 c_at b) hS hM) ?_
 rintro _ h_1 ⟨F_1, r_2, rfl, hk, hS, hM⟩
 replace hK := hK.trans hk
 replace hM_rc_at := hM_rc_at.kp hk
 replace hB_bc := hB_bc.kp hk
 refine HA.one (k := 15) ⟨⟨hM_rc_at.mp, hB_bc.box⟩, (Go.Wk.at_nil _ _)⟩ (by kernel_rfl) ?_
 refine HS.call rfl (want_none) rfl (ec en_107 rfl rfl) (cmp_Compare_string_walk (fr := (fr)) a b hS hM) ?_
 rintro _ h_2 ⟨F_2, r_3, rfl, hk, hS, hM⟩
 replace hK := hK.trans hk
 replace hM_rc_at := hM_rc_at.kp hk
 replace hB_bc := hB_bc.kp hk
 refine HA.one (k := 16) ⟨⟨hM_rc_at.mp, hB_bc.box⟩, (Go.Wk.at_nil _ _)⟩ (by kernel_rfl) ?_
 refine HS.eff rfl (want_none) rfl (st_lit (enc := encI) (cells := #[.int .i64 r_2, .int .i64 r_3]) #[.int .i64 0, .int .i64 0] ([r_2, r_3] : List Int) hS tl_161 (by decide) (by decide) (by kernel_rfl) (by kernel_rfl) rfl (by intro x hx; rfl) rfl) ?_
 rintro _ h_3 ⟨b_1, rfl, hS, hk⟩
 replace hK := hK.trans hk
 replace hM_rc_at := hM_rc_at.kp hk
 replace hB_bc := hB_bc.kp hk
 refine HA.one (k := 17) ⟨⟨hM_rc_at.mp, hB_bc.box⟩, (Go.Wk.at_nil _ _)⟩ (by kernel_rfl) ?_
 replace hS : St F_2 (Ow.own 3 1 encI (.slice (some ⟨b_1, 0, none⟩) 2 2) ([r_2, r_3] : List Int) :: fr) h_3 := hS
 have hZ_1 := hS
 have hkz_1 := (hS.freeze).2
 replace hS := hS.freeze.1
 have hL_1 : SliceF (fun bz_ => F_2 bz_ ∨ (Ow.own 3 1 encI (.slice (some ⟨b_1, 0, none⟩) 2 2) ([r_2, r_3] : List Int)).foot bz_) h_3 1 encI (.slice (some ⟨b_1, 0, none⟩) 2 2) ([r_2, r_3] : List Int) := ⟨(hZ_1.own 0 rfl).slice, fun _ b hb => .inr hb⟩
 refine HS.call rfl (want_none) rfl (ec en_105 rfl rfl) (cmp_Or_int_walk (fr := (fr)) ([r_2, r_3] : List Int) (.slice (some ⟨b_1, 0, none⟩) 2 2) hS hL_1 hM) ?_
 rintro _ h_4 ⟨F_3, r_4, rfl, hk, hS, _, hM⟩
 obtain ⟨hS, hk⟩ := hZ_1.back hk hS
 generalize (fun bz_ => F_3 bz_ ∧ ¬ (Ow.own 3 1 encI (.slice (some ⟨b_1, 0, none⟩) 2 2) ([r_2, r_3] : List Int)).foot bz_) = F_4 at hS hk
 replace hK := hK.trans hk
 replace hM_rc_at := hM_rc_at.kp hk
 replace hB_bc := hB_bc.kp hk
 refine HA.val (k := 18) (v := .int .i64 r_4) rfl rfl (by kernel_rfl) (by kernel_rfl) (want_none) rfl (fun _ ⟨hM_rc_at, hB_bc⟩ => q_assign rfl) ?_
 refine HA.nil ⟨⟨hM_rc_at.mp, hB_bc.box⟩, (Go.Wk.at_nil _ _)⟩ (by kernel_rfl) (thenQ_normal (?_))
 refine HW.ret (?_)
 refine ⟨.inr rfl, .int .i64 r_4, res1 rfl (rt rfl), ?_⟩
 replace hS : St F_4 (fr) h_4 := hS.perm2 [] 1 rfl rfl
 exact ⟨F_4, r_4, rfl, hK, hS, hM_rc_at, hB_bc, hM⟩

def clock_Clock_Next_string_l1 (c_at : List (Str × Int)) (Q : Str → Int → Bool → (List (Str × Int)) → Prop) (K_1 : (List (Str × Int)) → Str → Bool → Prop) (rem_1 : List (Str × Int)) (out_1 : Str) (found_1 : Bool) : Prop :=
 (rem_1 = [] → Q out_1 (mget0 c_at out_1) found_1 c_at) ∧ (∀ (p_1 : Str × Int) (rem_2 : List (Str × Int)), List.Perm rem_1 (p_1 :: rem_2) → ((!found_1) = true → K_1 rem_2 p_1.1 true) ∧ ((!found_1) = false → clock_Clock_before_string_W c_at p_1.1 out_1 (fun r_1 => (r_1 < 0 → K_1 rem_2 p_1.1 true) ∧ (¬ (r_1 < 0) → K_1 rem_2 out_1 found_1))))
def clock_Clock_Next_string_W (c_at : List (Str × Int)) (Q : Str → Int → Bool → (List (Str × Int)) → Prop) : Prop :=
 loopW (fun (K_1 : ((List (Str × Int)) × Str × Bool) → Prop) (s : (List (Str × Int)) × Str × Bool) => clock_Clock_Next_string_l1 c_at Q (fun rem_1 out_1 found_1 => K_1 (rem_1, out_1, found_1)) s.1 s.2.1 s.2.2) (c_at, [], false)
set_option maxHeartbeats 40000000 in
set_option maxRecDepth 100000 in
theorem clock_Clock_Next_string_walk {F : Fz} {fr : List Ow} {h0 : Heap} (c_at : List (Str × Int)) (bc : Nat) (rc_at : Nat) (hS : St F (Ow.box bc 110 #[.map (some rc_at)] :: Ow.map rc_at kT kI c_at :: fr) h0)  {Q : Str → Int → Bool → (List (Str × Int)) → Prop} (hM : clock_Clock_Next_string_W c_at Q) :
  HC Try.prog 48 #[.pointer (some ⟨bc, 0, none⟩)] h0 fun u h' => ∃ (F' : Fz) (r0_1 : Str) (r1_1 : Int) (r2_1 : Bool) (cm_1 : List (Str × Int)), u = .tuple #[.string (bs r0_1), .int .i64 r1_1, .bool r2_1] ∧ Kp F h0 F' h' ∧ St F' (Ow.box bc 110 #[.map (some rc_at)] :: Ow.map rc_at kT kI cm_1 :: fr) h' ∧ Q r0_1 r1_1 r2_1 cm_1 := by
 unfold clock_Clock_Next_string_W at hM
 have hK := Kp.refl F h0
 refine HC.of_HW (n := 38) Try.func48 rfl rfl (Nat.le_of_ble_eq_true rfl) ?_
 refine HW.seq ?_
 refine HW.region ?_
 refine oA (.string (bs [])) rfl rfl ?_
 refine oA (.int .i64 0) rfl rfl ?_
 refine oA (.bool false) rfl rfl ?_
 refine HO.nil (thenQ_normal (?_))
 refine HW.seq ?_
 refine HW.region ?_
 refine oA (.string (bs [])) rfl rfl ?_
 refine HO.nil (thenQ_normal (?_))
 refine HW.seq ?_
 refine HW.region ?_
 refine oA (.bool false) rfl rfl ?_
 refine HO.nil (thenQ_normal (?_))
 refine HW.seq ?_
 refine HW.seq ?_
 refine HW.region ?_
 refine oM (.pointer (some ⟨bc, 0, none⟩)) rfl rfl ?_
 refine oV (.bool false) (q_eqlPnil Try.underlying69 rfl rfl rfl) rfl ?_
 refine HO.nil (thenQ_normal (?_))
 refine HW.condF rfl ?_
 refine HW.skip (thenQ_normal (?_))
 refine HW.seq ?_
 refine HW.seq ?_
 refine HW.region ?_
 refine oM (.pointer (some ⟨bc, 0, none⟩)) rfl rfl ?_
 refine oV (.pointer (some ⟨bc, 0, none⟩)) (q_nilCheck rfl) rfl ?_
 refine oV (.pointer (some ⟨bc, 0, none⟩)) (q_fieldAddr fa_110_0 rfl rfl) rfl ?_
 refine oV (.map (some rc_at)) (q_load to_108 rfl (Blk.cell (hS.box 0 rfl) rfl)) rfl ?_
 refine HO.eff (want_none) rfl (st_range hS (i := 1) rfl Try.underlying108 rfl) ?_
 rintro _ h_1 ⟨it_1, rfl, hS, hk⟩
 replace hK := hK.trans hk
 refine HO.nil (thenQ_normal (?_))
 refine HW.block ?_
 obtain ⟨I_1, m_1, hI_1, hR_1⟩ := hM
 refine HW.loop (S := (List (Str × Int)) × Str × Bool) (fun s f h => match s with | (rem_1, out_1, found_1) => ∃ (F' : Fz), f 0 = .pointer (some ⟨bc, 0, none⟩) ∧ f 2 = .string (bs []) ∧ f 3 = .int .i64 0 ∧ f 4 = .bool false ∧ f 5 = .string (bs out_1) ∧ f 6 = .bool found_1 ∧ f 15 = .pointer (some ⟨it_1, 0, none⟩) ∧ Kp F h0 F' h ∧ St F' (Ow.box bc 110 #[.map (some rc_at)] :: Ow.iter it_1 rc_at kT kI c_at rem_1 :: fr) h ∧ I_1 (rem_1, out_1, found_1)) m_1 (c_at, [], false) ⟨F, rfl, rfl, rfl, rfl, rfl, rfl, rfl, hK, hS, hI_1⟩ ?_
 rintro ⟨rem_1, out_1, found_1⟩ f_1 h_2 ⟨F_1, e0, e2, e3, e4, e5, e6, e15, hK, hS, hI0⟩
 obtain ⟨K_1, hKe_1⟩ : ∃ K : (List (Str × Int)) → Str → Bool → Prop, K = fun rem_1' out_1' found_1' => I_1 (rem_1', out_1', found_1') ∧ m_1 (rem_1', out_1', found_1') < m_1 (rem_1, out_1, found_1) := ⟨_, rfl⟩
 have hM : clock_Clock_Next_string_l1 c_at Q K_1 rem_1 out_1 found_1 := by rw [hKe_1]; exact hR_1 (rem_1, out_1, found_1) hI0
 unfold clock_Clock_Next_string_l1 at hM
 refine HW.fr [(0, .pointer (some ⟨bc, 0, none⟩)), (2, .string (bs [])), (3, .int .i64 0), (4, .bool false), (5, .string (bs out_1)), (6, .bool found_1), (15, .pointer (some ⟨it_1, 0, none⟩))] ⟨e0, e2, e3, e4, e5, e6, e15, trivial⟩ ?_
 refine HW.seq ?_
 refine HW.region ?_
 refine HO.eff (want_none) rfl (st_next hS (i := 1) rfl rfl) ?_
 rintro _ h_3 (⟨hrem, rfl, hEq⟩ | ⟨p_1, rem_2, hperm, rfl, hS, hk⟩)
 ·
  rw [hEq]
  replace hM := hM.1 hrem
  replace hS := hS.done 1 rfl
  refine oV (.bool false) (q_extract rfl rfl) rfl ?_
  refine HO.nil (thenQ_normal (?_))
  refine HW.seq ?_
  refine HW.condF rfl ?_
  refine HW.exit (thenQ_exit (thenQ_exit (blockQ_exit (thenQ_normal (?_)))))
  refine HW.seq ?_
  refine HW.regionA 11 mixed (fun h => (Blk h bc (.cells #[.map (some rc_at)] 110 (0, 0))) ∧ (MapIs h rc_at kT kI c_at)) [] (by kernel_rfl) ?_
  refine HA.val (k := 0) (v := .string (bs out_1)) rfl rfl (by kernel_rfl) (by kernel_rfl) (want_none) rfl (fun _ ⟨c307, c308⟩ => q_move rfl) ?_
  refine HA.val (k := 1) (v := .pointer (some ⟨bc, 0, none⟩)) rfl rfl (by kernel_rfl) (by kernel_rfl) (want_none) rfl (fun _ ⟨c307, c308⟩ => q_move rfl) ?_
  refine HA.val (k := 2) (v := .pointer (some ⟨bc, 0, none⟩)) rfl rfl (by kernel_rfl) (by kernel_rfl) (want_none) rfl (fun _ ⟨c307, c308⟩ => q_nilCheck rfl) ?_
  refine HA.val (k := 3) (v := .pointer (some ⟨bc, 0, none⟩)) rfl rfl (by kernel_rfl) (by kernel_rfl) (want_none) rfl (fun _ ⟨c307, c308⟩ => q_fieldAddr fa_110_0 rfl rfl) ?_
  refine HA.val (k := 4) (v := .map (some rc_at)) rfl rfl (by kernel_rfl) (by kernel_rfl) (want_none) rfl (fun _ ⟨c307, c308⟩ => q_load to_108 rfl (Blk.cell c307 rfl)) ?_
  refine HA.val (k := 5) (v := .string (bs out_1)) rfl rfl (by kernel_rfl) (by kernel_rfl) (want_none) rfl (fun _ ⟨c307, c308⟩ => q_move rfl) ?_
  refine HA.val (k := 6) (v := .int .i64 (mget0 c_at out_1)) rfl rfl (by kernel_rfl) (by kernel_rfl) (want_none) rfl (fun _ ⟨c307, c308⟩ => (q_lookup (k := out_1) ka_9 tmk_108 c308 rfl rfl).of_eq (mval0 (z := .int .i64 0) rfl)) ?_
  refine HA.val (k := 7) (v := .bool found_1) rfl rfl (by kernel_rfl) (by kernel_rfl) (want_none) rfl (fun _ ⟨c307, c308⟩ => q_move rfl) ?_
  refine HA.val (k := 8) (v := .string (bs out_1)) rfl rfl (by kernel_rfl) (by kernel_rfl) (want_none) rfl (fun _ ⟨c307, c308⟩ => q_assign rfl) ?_
  refine HA.val (k := 9) (v := .int .i64 (mget0 c_at out_1)) rfl rfl (by kernel_rfl) (by kernel_rfl) (want_none) rfl (fun _ ⟨c307, c308⟩ => q_assign rfl) ?_
  refine HA.val (k := 10) (v := .bool found_1) rfl rfl (by kernel_rfl) (by kernel_rfl) (want_none) rfl (fun _ ⟨c307, c308⟩ => q_assign rfl) ?_
  refine HA.nil ⟨⟨(hS.box 0 rfl), (hS.mp 1 rfl)⟩, (Go.Wk.at_nil _ _)⟩ (by kernel_rfl) (thenQ_normal (?_))
  refine HW.ret (?_)
  refine ⟨.inr rfl, .tuple #[.string (bs out_1), .int .i64 (mget0 c_at out_1), .bool found_1], res3 rfl (rt rfl) (rt rfl) (rt rfl), ?_⟩
  exact ⟨F_1, out_1, mget0 c_at out_1, found_1, c_at, rfl, hK, hS, hM⟩
 ·
  replace hM := hM.2 p_1 rem_2 hperm
  replace hK := hK.trans hk
  refine oV (.bool true) (q_extract rfl rfl) rfl ?_
  refine HO.nil (thenQ_normal (?_))
  refine HW.seq ?_
  refine HW.condT rfl ?_
  refine HW.skip (thenQ_normal (?_))
  refine HW.block ?_
  refine HW.seq ?_
  refine HW.region ?_
  refine oV (.tuple #[.string (bs p_1.1), .int .i64 p_1.2]) (q_entry (hS.cu 1 rfl) rfl) rfl ?_
  refine oV (.string (bs p_1.1)) (q_extract rfl rfl) rfl ?_
  refine oA (.string (bs p_1.1)) rfl rfl ?_
  refine HO.nil (thenQ_normal (?_))
  refine HW.seq ?_
  refine HW.region ?_
  refine oM (.bool found_1) rfl rfl ?_
  refine oV (.bool (!found_1)) (q_not rfl) rfl ?_
  refine oM (.bool (!found_1)) rfl rfl ?_
  rcases Bool.eq_false_or_eq_true (!found_1) with c_1 | c_1
  ·
   replace hM := hM.1 c_1
   refine HO.past (past_by rfl rfl c_1) rfl ?_
   refine HO.past (past_by rfl rfl c_1) rfl ?_
   refine HO.past (past_by rfl rfl c_1) rfl ?_
   refine HO.past (past_by rfl rfl c_1) rfl ?_
   refine HO.past (past_by rfl rfl c_1) rfl ?_
   refine oV (.bool true) (q_pickK true rfl c_1 rfl) rfl ?_
   refine HO.nil (thenQ_normal (?_))
   refine HW.condT rfl ?_
   refine HW.region ?_
   refine oM (.string (bs p_1.1)) rfl rfl ?_
   refine oA (.string (bs p_1.1)) rfl rfl ?_
   refine oA (.bool true) rfl rfl ?_
   refine HO.nil (blockQ_normal (thenQ_normal (?_)))
   replace hS := hS.again 1 rfl
   rw [hKe_1] at hM
   exact ⟨(rem_2, p_1.1, true), ⟨F_1, rfl, rfl, rfl, rfl, rfl, rfl, rfl, hK, hS, hM.1⟩, hM.2⟩
  ·
   replace hM := hM.2 c_1
   refine HO.val (v := .pointer (some ⟨bc, 0, none⟩)) (want_by rfl rfl c_1) rfl (q_move rfl) ?_
   refine HO.val (v := .string (bs p_1.1)) (want_by rfl rfl c_1) rfl (q_move rfl) ?_
   refine HO.val (v := .string (bs out_1)) (want_by rfl rfl c_1) rfl (q_move rfl) ?_
   replace hS : St F_1 (Ow.box bc 110 #[.map (some rc_at)] :: Ow.cur it_1 rc_at kT kI c_at rem_2 p_1 :: fr) h_3 := hS
   have hZ_1 := hS
   have hkz_1 := (hS.freeze).2
   replace hS := hS.freeze.1
   have hL_1 := hZ_1.lent
   replace hS : St (fun bz_ => F_1 bz_ ∨ (Ow.box bc 110 #[.map (some rc_at)]).foot bz_) (Ow.cur it_1 rc_at kT kI c_at rem_2 p_1 :: fr) h_3 := hS
   have hZ_2 := hS
   have hkz_2 := (hS.freeze).2
   replace hS := hS.freeze.1
   have hL_2 := hZ_2.lent.cur
   refine HO.call (want_by rfl rfl c_1) rfl (ec en_82 rfl rfl) (clock_Clock_before_string_walk (fr := (fr)) c_at p_1.1 out_1 bc rc_at hS hL_2 (hL_1.kp hkz_2) hM) ?_
   rintro _ h_4 ⟨F_2, r_1, rfl, hk, hS, _, _, hM⟩
   obtain ⟨hS, hk⟩ := hZ_2.back hk hS
   obtain ⟨hS, hk⟩ := hZ_1.back hk hS
   generalize (fun bz_ => (fun bz_ => F_2 bz_ ∧ ¬ (Ow.cur it_1 rc_at kT kI c_at rem_2 p_1).foot bz_) bz_ ∧ ¬ (Ow.box bc 110 #[.map (some rc_at)]).foot bz_) = F_3 at hS hk
   replace hK := hK.trans hk
   refine HO.val (v := .bool (decide (r_1 < 0))) (want_by rfl rfl c_1) rfl (q_lss rfl rfl) ?_
   refine oV (.bool (decide (r_1 < 0))) (q_pickK false rfl c_1 rfl) rfl ?_
   refine HO.nil (thenQ_normal (?_))
   refine HW.cond (decide (r_1 < 0)) rfl (fun c_2 => ?_) (fun c_2 => ?_)
   ·
    replace hM := hM.1 (of_decide_eq_true c_2)
    refine HW.region ?_
    refine oM (.string (bs p_1.1)) rfl rfl ?_
    refine oA (.string (bs p_1.1)) rfl rfl ?_
    refine oA (.bool true) rfl rfl ?_
    refine HO.nil (blockQ_normal (thenQ_normal (?_)))
    replace hS := hS.again 1 rfl
    rw [hKe_1] at hM
    exact ⟨(rem_2, p_1.1, true), ⟨F_3, rfl, rfl, rfl, rfl, rfl, rfl, rfl, hK, hS, hM.1⟩, hM.2⟩
   ·
    replace hM := hM.2 (of_decide_eq_false c_2)
    refine HW.skip (blockQ_normal (thenQ_normal (?_)))
    replace hS := hS.again 1 rfl
    rw [hKe_1] at hM
    exact ⟨(rem_2, out_1, found_1), ⟨F_3, rfl, rfl, rfl, rfl, rfl, rfl, rfl, hK, hS, hM.1⟩, hM.2⟩

def query_Queries_Next_W (q_now : Int) (q_at_at : List (Str × Int)) (q_first : Int) (q_open : List (T_api_Addr × (Nat × Nat) × T_query_left)) (Q : Int → Bool → Int → (List (Str × Int)) → Int → (List (T_api_Addr × (Nat × Nat) × T_query_left)) → Prop) : Prop :=
 clock_Clock_Next_string_W q_at_at (fun r0_2 r1_2 r2_1 cm_1 => Q r1_2 r2_1 q_now cm_1 q_first q_open)
set_option maxHeartbeats 40000000 in
set_option maxRecDepth 100000 in
theorem query_Queries_Next_walk {F : Fz} {fr : List Ow} {h0 : Heap} (q_now : Int) (q_at_at : List (Str × Int)) (q_first : Int) (q_open : List (T_api_Addr × (Nat × Nat) × T_query_left)) (bq : Nat) (bq_at : Nat) (rq_at_at : Nat) (rq_open : Nat) (hS : St F (Ow.box bq 73 #[.int .i64 q_now, .pointer (some ⟨bq_at, 0, none⟩), .int .i64 q_first, .map (some rq_open)] :: Ow.box bq_at 110 #[.map (some rq_at_at)] :: Ow.map rq_at_at kT kI q_at_at :: Ow.pm rq_open (fun (x : T_api_Addr) => .agg (e_api_Addr x).toArray) pv_query_left th_query_left q_open none :: fr) h0)  {Q : Int → Bool → Int → (List (Str × Int)) → Int → (List (T_api_Addr × (Nat × Nat) × T_query_left)) → Prop} (hM : query_Queries_Next_W q_now q_at_at q_first q_open Q) :
  HC Try.prog 17 #[.pointer (some ⟨bq, 0, none⟩)] h0 fun u h' => ∃ (F' : Fz) (r0_1 : Int) (r1_1 : Bool) (q_now_1 : Int) (qm_1 : List (Str × Int)) (q_first_1 : Int) (qm_2 : List (T_api_Addr × (Nat × Nat) × T_query_left)), u = .tuple #[.int .i64 r0_1, .bool r1_1] ∧ Kp F h0 F' h' ∧ St F' (Ow.box bq 73 #[.int .i64 q_now_1, .pointer (some ⟨bq_at, 0, none⟩), .int .i64 q_first_1, .map (some rq_open)] :: Ow.box bq_at 110 #[.map (some rq_at_at)] :: Ow.map rq_at_at kT kI qm_1 :: Ow.pm rq_open (fun (x : T_api_Addr) => .agg (e_api_Addr x).toArray) pv_query_left th_query_left qm_2 none :: fr) h' ∧ Q r0_1 r1_1 q_now_1 qm_1 q_first_1 qm_2 := by
 unfold query_Queries_Next_W at hM
 have hK := Kp.refl F h0
 refine HC.of_HW (n := 20) Try.func17 rfl rfl (Nat.le_of_ble_eq_true rfl) ?_
 refine HW.seq ?_
 refine HW.region ?_
 refine oA (.int .i64 0) rfl rfl ?_
 refine oA (.bool false) rfl rfl ?_
 refine HO.nil (thenQ_normal (?_))
 refine HW.seq ?_
 refine HW.seq ?_
 refine HW.region ?_
 refine oM (.pointer (some ⟨bq, 0, none⟩)) rfl rfl ?_
 refine oV (.bool false) (q_eqlPnil Try.underlying22 rfl rfl rfl) rfl ?_
 refine HO.nil (thenQ_normal (?_))
 refine HW.condF rfl ?_
 refine HW.skip (thenQ_normal (?_))
 refine HW.seq ?_
 refine HW.region ?_
 refine oM (.pointer (some ⟨bq, 0, none⟩)) rfl rfl ?_
 refine oV (.pointer (some ⟨bq, 0, none⟩)) (q_nilCheck rfl) rfl ?_
 refine oV (.pointer (some ⟨bq, 1, none⟩)) (q_fieldAddr fa_73_1 rfl rfl) rfl ?_
 refine oV (.pointer (some ⟨bq_at, 0, none⟩)) (q_load to_69 rfl (Blk.cell (hS.box 0 rfl) rfl)) rfl ?_
 replace hS : St F (Ow.box bq_at 110 #[.map (some rq_at_at)] :: Ow.map rq_at_at kT kI q_at_at :: Ow.box bq 73 #[.int .i64 q_now, .pointer (some ⟨bq_at, 0, none⟩), .int .i64 q_first, .map (some rq_open)] :: Ow.pm rq_open (fun (x : T_api_Addr) => .agg (e_api_Addr x).toArray) pv_query_left th_query_left q_open none :: fr) h0 := hS.perm2 [1, 2, 0, 3] 4 rfl rfl
 refine HO.call (want_none) rfl (ec en_48 rfl rfl) (clock_Clock_Next_string_walk (fr := (Ow.box bq 73 #[.int .i64 q_now, .pointer (some ⟨bq_at, 0, none⟩), .int .i64 q_first, .map (some rq_open)] :: Ow.pm rq_open (fun (x : T_api_Addr) => .agg (e_api_Addr x).toArray) pv_query_left th_query_left q_open none :: fr)) q_at_at bq_at rq_at_at hS hM) ?_
 rintro _ h_1 ⟨F_1, r0_2, r1_2, r2_1, cm_1, rfl, hk, hS, hM⟩
 replace hK := hK.trans hk
 refine oM (.tuple #[.string (bs r0_2), .int .i64 r1_2, .bool r2_1]) rfl rfl ?_
 refine oV (.string (bs r0_2)) (q_extract rfl rfl) rfl ?_
 refine oV (.int .i64 r1_2) (q_extract rfl rfl) rfl ?_
 refine oV (.bool r2_1) (q_extract rfl rfl) rfl ?_
 refine oA (.string (bs r0_2)) rfl rfl ?_
 refine oA (.int .i64 r1_2) rfl rfl ?_
 refine oA (.bool r2_1) rfl rfl ?_
 refine HO.nil (thenQ_normal (?_))
 refine HW.seq ?_
 refine HW.region ?_
 refine oM (.int .i64 r1_2) rfl rfl ?_
 refine oM (.bool r2_1) rfl rfl ?_
 refine oA (.int .i64 r1_2) rfl rfl ?_
 refine oA (.bool r2_1) rfl rfl ?_
 refine HO.nil (thenQ_normal (?_))
 refine HW.ret (?_)
 refine ⟨.inr rfl, .tuple #[.int .i64 r1_2, .bool r2_1], res2 rfl (rt rfl) (rt rfl), ?_⟩
 replace hS : St F_1 (Ow.box bq 73 #[.int .i64 q_now, .pointer (some ⟨bq_at, 0, none⟩), .int .i64 q_first, .map (some rq_open)] :: Ow.box bq_at 110 #[.map (some rq_at_at)] :: Ow.map rq_at_at kT kI cm_1 :: Ow.pm rq_open (fun (x : T_api_Addr) => .agg (e_api_Addr x).toArray) pv_query_left th_query_left q_open none :: fr) h_1 := hS.perm2 [2, 0, 1, 3] 4 rfl rfl
 exact ⟨F_1, r1_2, r2_1, q_now, cm_1, q_first, q_open, rfl, hK, hS, hM⟩

def ref03_Good_l1 (a : T_api_Addr) (Q : Bool → Prop) (K_1 : Int → Prop) (i_1 : Int) : Prop :=
 (i_1 < 16 → ((!a.1) = true → ((0 : Int) ≤ i_1 ∧ i_1 < 16) ∧ ((¬ ((b8 a.2 i_1) = 0) → Q false) ∧ ((b8 a.2 i_1) = 0 → (I64 (i_1 + 1)) ∧ (K_1 (i_1 + 1))))) ∧ ((!a.1) = false → (I64 (i_1 + 1)) ∧ (K_1 (i_1 + 1)))) ∧ (¬ (i_1 < 16) → Q true)
def ref03_Good_W (a : T_api_Addr) (Q : Bool → Prop) : Prop :=
 loopW (fun (K_1 : Int → Prop) (s : Int) => ref03_Good_l1 a Q K_1 s) 4
set_option maxHeartbeats 40000000 in
set_option maxRecDepth 100000 in
theorem ref03_Good_walk {F : Fz} {fr : List Ow} {h0 : Heap} (a : T_api_Addr) (hS : St F (fr) h0)  {Q : Bool → Prop} (hM : ref03_Good_W a Q) :
  HC Try.prog 18 #[.agg (e_api_Addr a).toArray] h0 fun u h' => ∃ (F' : Fz) (r_1 : Bool), u = .bool r_1 ∧ Kp F h0 F' h' ∧ St F' (fr) h' ∧ Q r_1 := by
 unfold ref03_Good_W at hM
 have hK := Kp.refl F h0
 refine HC.of_HW (n := 18) Try.func18 rfl rfl (Nat.le_of_ble_eq_true rfl) ?_
 refine HW.seq ?_
 refine HW.region ?_
 refine HO.eff (want_none) rfl (st_box (c := (e_api_Addr a).toArray) (k' := 17) hS rfl rfl) ?_
 rintro _ h_1 ⟨b_1, rfl, hS, hk⟩
 replace hK := hK.trans hk
 refine oA (.bool false) rfl rfl ?_
 refine HO.nil (thenQ_normal (?_))
 refine HW.seq ?_
 refine HW.seq ?_
 refine HW.region ?_
 refine oA (.int .i64 4) rfl rfl ?_
 refine HO.nil (thenQ_normal (?_))
 refine HW.block ?_
 obtain ⟨I_1, m_1, hI_1, hR_1⟩ := hM
 refine HW.loop (S := Int) (fun i_1 f h => ∃ (F' : Fz), f 1 = .pointer (some ⟨b_1, 0, none⟩) ∧ f 2 = .bool false ∧ f 3 = .int .i64 i_1 ∧ Kp F h0 F' h ∧ St F' (Ow.box b_1 30 (e_api_Addr a).toArray :: fr) h ∧ I_1 i_1) m_1 4 ⟨F, rfl, rfl, rfl, hK, hS, hI_1⟩ ?_
 rintro i_1 f_1 h_2 ⟨F_1, e1, e2, e3, hK, hS, hI0⟩
 obtain ⟨K_1, hKe_1⟩ : ∃ K : Int → Prop, K = fun i_1' => I_1 i_1' ∧ m_1 i_1' < m_1 i_1 := ⟨_, rfl⟩
 have hM : ref03_Good_l1 a Q K_1 i_1 := by rw [hKe_1]; exact hR_1 i_1 hI0
 unfold ref03_Good_l1 at hM
 refine HW.fr [(1, .pointer (some ⟨b_1, 0, none⟩)), (2, .bool false), (3, .int .i64 i_1)] ⟨e1, e2, e3, trivial⟩ ?_
 refine HW.seq ?_
 refine HW.seq ?_
 refine HW.region ?_
 refine oM (.int .i64 i_1) rfl rfl ?_
 refine oV (.bool (decide (i_1 < 16))) (q_lss rfl rfl) rfl ?_
 refine HO.nil (thenQ_normal (?_))
 refine HW.cond (decide (i_1 < 16)) rfl (fun c_1 => ?_) (fun c_1 => ?_)
 ·
  replace hM := hM.1 (of_decide_eq_true c_1)
  refine HW.skip (thenQ_normal (?_))
  refine HW.seq ?_
  refine HW.block ?_
  refine HW.seq ?_
  refine HW.region ?_
  refine oV (.pointer (some ⟨b_1, 0, none⟩)) (q_fieldAddr fa_30_0 rfl rfl) rfl ?_
  refine oV (.bool a.1) (q_load to_4 rfl (Blk.cell (hS.box 0 rfl) rfl)) rfl ?_
  refine oV (.bool (!a.1)) (q_not rfl) rfl ?_
  refine oM (.bool (!a.1)) rfl rfl ?_
  rcases Bool.eq_false_or_eq_true (!a.1) with c_2 | c_2
  ·
   replace hM := hM.1 c_2
   refine HO.val (v := .int .i64 i_1) (want_by rfl rfl c_2) rfl (q_move rfl) ?_
   refine HO.val (v := .pointer (some ⟨b_1, 1, none⟩)) (want_by rfl rfl c_2) rfl (q_fieldAddr fa_30_1 rfl rfl) ?_
   obtain ⟨ho_1, hM⟩ := hM
   refine HO.val (v := .pointer (some ⟨b_1, 1 + (i_1).toNat, none⟩)) (want_by rfl rfl c_2) rfl (q_idxA (o := 1) (t := i_1) tr_28 rfl rfl ho_1) ?_
   refine HO.val (v := .int .u8 (b8 a.2 i_1)) (want_by rfl rfl c_2) rfl (q_ldArr (o := 1) (t := i_1) (X := a.2) to_5 rfl (hS.box 0 rfl) rfl ho_1) ?_
   refine HO.val (v := .bool (!decide ((b8 a.2 i_1) = 0))) (want_by rfl rfl c_2) rfl (q_neq rfl rfl) ?_
   refine oV (.bool (!decide ((b8 a.2 i_1) = 0))) (q_pickK true rfl c_2 rfl) rfl ?_
   refine HO.nil (thenQ_normal (?_))
   refine HW.cond (!decide ((b8 a.2 i_1) = 0)) rfl (fun c_3 => ?_) (fun c_3 => ?_)
   ·
    replace hM := hM.1 (nd_true c_3)
    refine HW.seq ?_
    refine HW.region ?_
    refine oA (.bool false) rfl rfl ?_
    refine HO.nil (thenQ_normal (?_))
    refine HW.ret (blockQ_ret (thenQ_ret (thenQ_ret (blockQ_ret (thenQ_ret (?_))))))
    refine ⟨.inr rfl, .bool false, res1 rfl (rt rfl), ?_⟩
    replace hS : St F_1 (fr) h_2 := hS.perm2 [] 1 rfl rfl
    exact ⟨F_1, false, rfl, hK, hS, hM⟩
   ·
    replace hM := hM.2 (nd_false c_3)
    refine HW.skip (blockQ_normal (thenQ_normal (?_)))
    refine HW.region ?_
    refine oM (.int .i64 i_1) rfl rfl ?_
    obtain ⟨ho_2, hM⟩ := hM
    refine oV (.int .i64 (i_1 + 1)) (q_addN _ rfl rfl rfl ho_2.1 ho_2.2) rfl ?_
    refine oA (.int .i64 (i_1 + 1)) rfl rfl ?_
    refine HO.nil (thenQ_normal (?_))
    rw [hKe_1] at hM
    exact ⟨i_1 + 1, ⟨F_1, rfl, rfl, rfl, hK, hS, hM.1⟩, hM.2⟩
  ·
   replace hM := hM.2 c_2
   refine HO.past (past_by rfl rfl c_2) rfl ?_
   refine HO.past (past_by rfl rfl c_2) rfl ?_
   refine HO.past (past_by rfl rfl c_2) rfl ?_
   refine HO.past (past_by rfl rfl c_2) rfl ?_
   refine HO.past (past_by rfl rfl c_2) rfl ?_
   refine oV (.bool false) (q_pickK false rfl c_2 rfl) rfl ?_
   refine HO.nil (thenQ_normal (?_))
   refine HW.condF rfl ?_
   refine HW.skip (blockQ_normal (thenQ_normal (?_)))
   refine HW.region ?_
   refine oM (.int .i64 i_1) rfl rfl ?_
   obtain ⟨ho_3, hM⟩ := hM
   refine oV (.int .i64 (i_1 + 1)) (q_addN _ rfl rfl rfl ho_3.1 ho_3.2) rfl ?_
   refine oA (.int .i64 (i_1 + 1)) rfl rfl ?_
   refine HO.nil (thenQ_normal (?_))
   rw [hKe_1] at hM
   exact ⟨i_1 + 1, ⟨F_1, rfl, rfl, rfl, hK, hS, hM.1⟩, hM.2⟩
 ·
  replace hM := hM.2 (of_decide_eq_false c_1)
  refine HW.exit (thenQ_exit (thenQ_exit (blockQ_exit (thenQ_normal (?_)))))
  refine HW.seq ?_
  refine HW.region ?_
  refine oA (.bool true) rfl rfl ?_
  refine HO.nil (thenQ_normal (?_))
  refine HW.ret (?_)
  refine ⟨.inr rfl, .bool true, res1 rfl (rt rfl), ?_⟩
  replace hS : St F_1 (fr) h_2 := hS.perm2 [] 1 rfl rfl
  exact ⟨F_1, true, rfl, hK, hS, hM⟩

def ref03_Group_W (a : T_api_Addr) (Q : Bool → Prop) : Prop :=
 (a.1 = true → ((b8 a.2 0) = 255 → Q true) ∧ (¬ ((b8 a.2 0) = 255) → ((!a.1) = true → (224 ≤ (b8 a.2 0) → Q (decide ((b8 a.2 0) ≤ 239))) ∧ (¬ (224 ≤ (b8 a.2 0)) → Q false)) ∧ ((!a.1) = false → Q false))) ∧ (a.1 = false → ((!a.1) = true → (224 ≤ (b8 a.2 0) → Q (decide ((b8 a.2 0) ≤ 239))) ∧ (¬ (224 ≤ (b8 a.2 0)) → Q false)) ∧ ((!a.1) = false → Q false))
set_option maxHeartbeats 40000000 in
set_option maxRecDepth 100000 in
theorem ref03_Group_walk {F : Fz} {fr : List Ow} {h0 : Heap} (a : T_api_Addr) (hS : St F (fr) h0)  {Q : Bool → Prop} (hM : ref03_Group_W a Q) :
  HC Try.prog 19 #[.agg (e_api_Addr a).toArray] h0 fun u h' => ∃ (F' : Fz) (r_1 : Bool), u = .bool r_1 ∧ Kp F h0 F' h' ∧ St F' (fr) h' ∧ Q r_1 := by
 unfold ref03_Group_W at hM
 have hK := Kp.refl F h0
 refine HC.of_HW (n := 28) Try.func19 rfl rfl (Nat.le_of_ble_eq_true rfl) ?_
 refine HW.seq ?_
 refine HW.region ?_
 refine HO.eff (want_none) rfl (st_box (c := (e_api_Addr a).toArray) (k' := 17) hS rfl rfl) ?_
 rintro _ h_1 ⟨b_1, rfl, hS, hk⟩
 replace hK := hK.trans hk
 refine oA (.bool false) rfl rfl ?_
 refine HO.nil (thenQ_normal (?_))
 refine HW.seq ?_
 refine HW.region ?_
 refine oV (.pointer (some ⟨b_1, 0, none⟩)) (q_fieldAddr fa_30_0 rfl rfl) rfl ?_
 refine oV (.bool a.1) (q_load to_4 rfl (Blk.cell (hS.box 0 rfl) rfl)) rfl ?_
 refine oM (.bool a.1) rfl rfl ?_
 rcases Bool.eq_false_or_eq_true a.1 with c_1 | c_1
 ·
  replace hM := hM.1 c_1
  refine HO.val (v := .pointer (some ⟨b_1, 1, none⟩)) (want_by rfl rfl c_1) rfl (q_fieldAddr fa_30_1 rfl rfl) ?_
  refine HO.val (v := .pointer (some ⟨b_1, 1, none⟩)) (want_by rfl rfl c_1) rfl (q_idxA (o := 1) (t := 0) tr_28 rfl rfl ⟨by decide, by decide⟩) ?_
  refine HO.val (v := .int .u8 (b8 a.2 0)) (want_by rfl rfl c_1) rfl (q_load to_5 rfl (Blk.cell (hS.box 0 rfl) rfl)) ?_
  refine HO.val (v := .bool (decide ((b8 a.2 0) = 255))) (want_by rfl rfl c_1) rfl (q_eql rfl rfl) ?_
  refine oV (.bool (decide ((b8 a.2 0) = 255))) (q_pickK true rfl c_1 rfl) rfl ?_
  refine oM (.bool (decide ((b8 a.2 0) = 255))) rfl rfl ?_
  rcases Bool.eq_false_or_eq_true (decide ((b8 a.2 0) = 255)) with c_2 | c_2
  ·
   replace hM := hM.1 (of_decide_eq_true c_2)
   refine HO.past (past_by rfl rfl c_2) rfl ?_
   refine HO.past (past_by rfl rfl c_2) rfl ?_
   refine HO.past (past_by rfl rfl c_2) rfl ?_
   refine HO.past (past_by rfl rfl c_2) rfl ?_
   refine HO.past (past_undef rfl rfl) rfl ?_
   refine HO.past (past_undef rfl rfl) rfl ?_
   refine HO.past (past_undef rfl rfl) rfl ?_
   refine HO.past (past_undef rfl rfl) rfl ?_
   refine HO.past (past_by rfl rfl c_2) rfl ?_
   refine HO.past (past_by rfl rfl c_2) rfl ?_
   refine HO.past (past_undef rfl rfl) rfl ?_
   refine HO.past (past_undef rfl rfl) rfl ?_
   refine HO.past (past_undef rfl rfl) rfl ?_
   refine HO.past (past_undef rfl rfl) rfl ?_
   refine HO.past (past_by rfl rfl c_2) rfl ?_
   refine oV (.bool true) (q_pickK true rfl c_2 rfl) rfl ?_
   refine oA (.bool true) rfl rfl ?_
   refine HO.nil (thenQ_normal (?_))
   refine HW.ret (?_)
   refine ⟨.inr rfl, .bool true, res1 rfl (rt rfl), ?_⟩
   replace hS : St F (fr) h_1 := hS.perm2 [] 1 rfl rfl
   exact ⟨F, true, rfl, hK, hS, hM⟩
  ·
   replace hM := hM.2 (of_decide_eq_false c_2)
   refine HO.val (v := .pointer (some ⟨b_1, 0, none⟩)) (want_by rfl rfl c_2) rfl (q_fieldAddr fa_30_0 rfl rfl) ?_
   refine HO.val (v := .bool a.1) (want_by rfl rfl c_2) rfl (q_load to_4 rfl (Blk.cell (hS.box 0 rfl) rfl)) ?_
   refine HO.val (v := .bool (!a.1)) (want_by rfl rfl c_2) rfl (q_not rfl) ?_
   refine HO.val (v := .bool (!a.1)) (want_by rfl rfl c_2) rfl (q_move rfl) ?_
   rcases Bool.eq_false_or_eq_true (!a.1) with c_3 | c_3
   ·
    replace hM := hM.1 c_3
    refine HO.val (v := .pointer (some ⟨b_1, 1, none⟩)) (want_by rfl rfl c_3) rfl (q_fieldAddr fa_30_1 rfl rfl) ?_
    refine HO.val (v := .pointer (some ⟨b_1, 1, none⟩)) (want_by rfl rfl c_3) rfl (q_idxA (o := 1) (t := 0) tr_28 rfl rfl ⟨by decide, by decide⟩) ?_
    refine HO.val (v := .int .u8 (b8 a.2 0)) (want_by rfl rfl c_3) rfl (q_load to_5 rfl (Blk.cell (hS.box 0 rfl) rfl)) ?_
    refine HO.val (v := .bool (decide (224 ≤ (b8 a.2 0)))) (want_by rfl rfl c_3) rfl (q_geq rfl rfl) ?_
    refine HO.val (v := .bool (decide (224 ≤ (b8 a.2 0)))) (want_by rfl rfl c_2) rfl (q_pickK true rfl c_3 rfl) ?_
    refine HO.val (v := .bool (decide (224 ≤ (b8 a.2 0)))) (want_by rfl rfl c_2) rfl (q_move rfl) ?_
    rcases Bool.eq_false_or_eq_true (decide (224 ≤ (b8 a.2 0))) with c_4 | c_4
    ·
     replace hM := hM.1 (of_decide_eq_true c_4)
     refine HO.val (v := .pointer (some ⟨b_1, 1, none⟩)) (want_by rfl rfl c_4) rfl (q_fieldAddr fa_30_1 rfl rfl) ?_
     refine HO.val (v := .pointer (some ⟨b_1, 1, none⟩)) (want_by rfl rfl c_4) rfl (q_idxA (o := 1) (t := 0) tr_28 rfl rfl ⟨by decide, by decide⟩) ?_
     refine HO.val (v := .int .u8 (b8 a.2 0)) (want_by rfl rfl c_4) rfl (q_load to_5 rfl (Blk.cell (hS.box 0 rfl) rfl)) ?_
     refine HO.val (v := .bool (decide ((b8 a.2 0) ≤ 239))) (want_by rfl rfl c_4) rfl (q_leq rfl rfl) ?_
     refine HO.val (v := .bool (decide ((b8 a.2 0) ≤ 239))) (want_by rfl rfl c_2) rfl (q_pickK true rfl c_4 rfl) ?_
     refine oV (.bool (decide ((b8 a.2 0) ≤ 239))) (q_pickK false rfl c_2 rfl) rfl ?_
     refine oA (.bool (decide ((b8 a.2 0) ≤ 239))) rfl rfl ?_
     refine HO.nil (thenQ_normal (?_))
     refine HW.ret (?_)
     refine ⟨.inr rfl, .bool (decide ((b8 a.2 0) ≤ 239)), res1 rfl (rt rfl), ?_⟩
     replace hS : St F (fr) h_1 := hS.perm2 [] 1 rfl rfl
     exact ⟨F, decide ((b8 a.2 0) ≤ 239), rfl, hK, hS, hM⟩
    ·
     replace hM := hM.2 (of_decide_eq_false c_4)
     refine HO.past (past_by rfl rfl c_4) rfl ?_
     refine HO.past (past_by rfl rfl c_4) rfl ?_
     refine HO.past (past_by rfl rfl c_4) rfl ?_
     refine HO.past (past_by rfl rfl c_4) rfl ?_
     refine HO.val (v := .bool false) (want_by rfl rfl c_2) rfl (q_pickK false rfl c_4 rfl) ?_
     refine oV (.bool false) (q_pickK false rfl c_2 rfl) rfl ?_
     refine oA (.bool false) rfl rfl ?_
     refine HO.nil (thenQ_normal (?_))
     refine HW.ret (?_)
     refine ⟨.inr rfl, .bool false, res1 rfl (rt rfl), ?_⟩
     replace hS : St F (fr) h_1 := hS.perm2 [] 1 rfl rfl
     exact ⟨F, false, rfl, hK, hS, hM⟩
   ·
    replace hM := hM.2 c_3
    refine HO.past (past_by rfl rfl c_3) rfl ?_
    refine HO.past (past_by rfl rfl c_3) rfl ?_
    refine HO.past (past_by rfl rfl c_3) rfl ?_
    refine HO.past (past_by rfl rfl c_3) rfl ?_
    refine HO.val (v := .bool false) (want_by rfl rfl c_2) rfl (q_pickK false rfl c_3 rfl) ?_
    refine HO.val (v := .bool false) (want_by rfl rfl c_2) rfl (q_move rfl) ?_
    refine HO.past (past_some rfl rfl) rfl ?_
    refine HO.past (past_some rfl rfl) rfl ?_
    refine HO.past (past_some rfl rfl) rfl ?_
    refine HO.past (past_some rfl rfl) rfl ?_
    refine HO.val (v := .bool false) (want_by rfl rfl c_2) rfl (q_pick rfl rfl) ?_
    refine oV (.bool false) (q_pickK false rfl c_2 rfl) rfl ?_
    refine oA (.bool false) rfl rfl ?_
    refine HO.nil (thenQ_normal (?_))
    refine HW.ret (?_)
    refine ⟨.inr rfl, .bool false, res1 rfl (rt rfl), ?_⟩
    replace hS : St F (fr) h_1 := hS.perm2 [] 1 rfl rfl
    exact ⟨F, false, rfl, hK, hS, hM⟩
 ·
  replace hM := hM.2 c_1
  refine HO.past (past_by rfl rfl c_1) rfl ?_
  refine HO.past (past_by rfl rfl c_1) rfl ?_
  refine HO.past (past_by rfl rfl c_1) rfl ?_
  refine HO.past (past_by rfl rfl c_1) rfl ?_
  refine oV (.bool false) (q_pickK false rfl c_1 rfl) rfl ?_
  refine oM (.bool false) rfl rfl ?_
  refine HO.val (v := .pointer (some ⟨b_1, 0, none⟩)) (want_some rfl rfl) rfl (q_fieldAddr fa_30_0 rfl rfl) ?_
  refine HO.val (v := .bool a.1) (want_some rfl rfl) rfl (q_load to_4 rfl (Blk.cell (hS.box 0 rfl) rfl)) ?_
  refine HO.val (v := .bool (!a.1)) (want_some rfl rfl) rfl (q_not rfl) ?_
  refine HO.val (v := .bool (!a.1)) (want_some rfl rfl) rfl (q_move rfl) ?_
  rcases Bool.eq_false_or_eq_true (!a.1) with c_5 | c_5
  ·
   replace hM := hM.1 c_5
   refine HO.val (v := .pointer (some ⟨b_1, 1, none⟩)) (want_by rfl rfl c_5) rfl (q_fieldAddr fa_30_1 rfl rfl) ?_
   refine HO.val (v := .pointer (some ⟨b_1, 1, none⟩)) (want_by rfl rfl c_5) rfl (q_idxA (o := 1) (t := 0) tr_28 rfl rfl ⟨by decide, by decide⟩) ?_
   refine HO.val (v := .int .u8 (b8 a.2 0)) (want_by rfl rfl c_5) rfl (q_load to_5 rfl (Blk.cell (hS.box 0 rfl) rfl)) ?_
   refine HO.val (v := .bool (decide (224 ≤ (b8 a.2 0)))) (want_by rfl rfl c_5) rfl (q_geq rfl rfl) ?_
   refine HO.val (v := .bool (decide (224 ≤ (b8 a.2 0)))) (want_some rfl rfl) rfl (q_pickK true rfl c_5 rfl) ?_
   refine HO.val (v := .bool (decide (224 ≤ (b8 a.2 0)))) (want_some rfl rfl) rfl (q_move rfl) ?_
   rcases Bool.eq_false_or_eq_true (decide (224 ≤ (b8 a.2 0))) with c_6 | c_6
   ·
    replace hM := hM.1 (of_decide_eq_true c_6)
    refine HO.val (v := .pointer (some ⟨b_1, 1, none⟩)) (want_by rfl rfl c_6) rfl (q_fieldAddr fa_30_1 rfl rfl) ?_
    refine HO.val (v := .pointer (some ⟨b_1, 1, none⟩)) (want_by rfl rfl c_6) rfl (q_idxA (o := 1) (t := 0) tr_28 rfl rfl ⟨by decide, by decide⟩) ?_
    refine HO.val (v := .int .u8 (b8 a.2 0)) (want_by rfl rfl c_6) rfl (q_load to_5 rfl (Blk.cell (hS.box 0 rfl) rfl)) ?_
    refine HO.val (v := .bool (decide ((b8 a.2 0) ≤ 239))) (want_by rfl rfl c_6) rfl (q_leq rfl rfl) ?_
    refine HO.val (v := .bool (decide ((b8 a.2 0) ≤ 239))) (want_some rfl rfl) rfl (q_pickK true rfl c_6 rfl) ?_
    refine oV (.bool (decide ((b8 a.2 0) ≤ 239))) (q_pick rfl rfl) rfl ?_
    refine oA (.bool (decide ((b8 a.2 0) ≤ 239))) rfl rfl ?_
    refine HO.nil (thenQ_normal (?_))
    refine HW.ret (?_)
    refine ⟨.inr rfl, .bool (decide ((b8 a.2 0) ≤ 239)), res1 rfl (rt rfl), ?_⟩
    replace hS : St F (fr) h_1 := hS.perm2 [] 1 rfl rfl
    exact ⟨F, decide ((b8 a.2 0) ≤ 239), rfl, hK, hS, hM⟩
   ·
    replace hM := hM.2 (of_decide_eq_false c_6)
    refine HO.past (past_by rfl rfl c_6) rfl ?_
    refine HO.past (past_by rfl rfl c_6) rfl ?_
    refine HO.past (past_by rfl rfl c_6) rfl ?_
    refine HO.past (past_by rfl rfl c_6) rfl ?_
    refine HO.val (v := .bool false) (want_some rfl rfl) rfl (q_pickK false rfl c_6 rfl) ?_
    refine oV (.bool false) (q_pick rfl rfl) rfl ?_
    refine oA (.bool false) rfl rfl ?_
    refine HO.nil (thenQ_normal (?_))
    refine HW.ret (?_)
    refine ⟨.inr rfl, .bool false, res1 rfl (rt rfl), ?_⟩
    replace hS : St F (fr) h_1 := hS.perm2 [] 1 rfl rfl
    exact ⟨F, false, rfl, hK, hS, hM⟩
  ·
   replace hM := hM.2 c_5
   refine HO.past (past_by rfl rfl c_5) rfl ?_
   refine HO.past (past_by rfl rfl c_5) rfl ?_
   refine HO.past (past_by rfl rfl c_5) rfl ?_
   refine HO.past (past_by rfl rfl c_5) rfl ?_
   refine HO.val (v := .bool false) (want_some rfl rfl) rfl (q_pickK false rfl c_5 rfl) ?_
   refine HO.val (v := .bool false) (want_some rfl rfl) rfl (q_move rfl) ?_
   refine HO.past (past_some rfl rfl) rfl ?_
   refine HO.past (past_some rfl rfl) rfl ?_
   refine HO.past (past_some rfl rfl) rfl ?_
   refine HO.past (past_some rfl rfl) rfl ?_
   refine HO.val (v := .bool false) (want_some rfl rfl) rfl (q_pick rfl rfl) ?_
   refine oV (.bool false) (q_pick rfl rfl) rfl ?_
   refine oA (.bool false) rfl rfl ?_
   refine HO.nil (thenQ_normal (?_))
   refine HW.ret (?_)
   refine ⟨.inr rfl, .bool false, res1 rfl (rt rfl), ?_⟩
   replace hS : St F (fr) h_1 := hS.perm2 [] 1 rfl rfl
   exact ⟨F, false, rfl, hK, hS, hM⟩

def law22_some_l1 (l : List T_api_Addr) (Q : Bool → Prop) (K_1 : Int → Prop) (i_1 : Int) : Prop :=
 (i_1 < (l.length : Int) → ((0 : Int) ≤ i_1 ∧ i_1 < (l.length : Int)) ∧ (ref03_Good_W (gi l i_1) (fun r_2 => (r_2 = true → Q true) ∧ (r_2 = false → (I64 (i_1 + 1)) ∧ (K_1 (i_1 + 1)))))) ∧ (¬ (i_1 < (l.length : Int)) → Q false)
def law22_some_W (l : List T_api_Addr) (Q : Bool → Prop) : Prop :=
 loopW (fun (K_1 : Int → Prop) (s : Int) => law22_some_l1 l Q K_1 s) 0
set_option maxHeartbeats 40000000 in
set_option maxRecDepth 100000 in
theorem law22_some_walk {F : Fz} {fr : List Ow} {h0 : Heap} (l : List T_api_Addr) (vl : Value) (hS : St F (fr) h0) (hL_l : SliceF F h0 17 e_api_Addr vl l) {Q : Bool → Prop} (hM : law22_some_W l Q) :
  HC Try.prog 20 #[vl] h0 fun u h' => ∃ (F' : Fz) (r_1 : Bool), u = .bool r_1 ∧ Kp F h0 F' h' ∧ St F' (fr) h' ∧ (SliceF F' h' 17 e_api_Addr vl l) ∧ Q r_1 := by
 unfold law22_some_W at hM
 have hK := Kp.refl F h0
 refine HC.of_HW (n := 15) Try.func20 rfl rfl (Nat.le_of_ble_eq_true rfl) ?_
 refine HW.seq ?_
 refine HW.region ?_
 refine oA (.bool false) rfl rfl ?_
 refine HO.nil (thenQ_normal (?_))
 refine HW.seq ?_
 refine HW.seq ?_
 refine HW.region ?_
 refine oA (.int .i64 0) rfl rfl ?_
 refine HO.nil (thenQ_normal (?_))
 refine HW.block ?_
 obtain ⟨I_1, m_1, hI_1, hR_1⟩ := hM
 refine HW.loop (S := Int) (fun i_1 f h => ∃ (F' : Fz), f 0 = vl ∧ f 2 = .bool false ∧ f 3 = .int .i64 i_1 ∧ Kp F h0 F' h ∧ St F' (fr) h ∧ (SliceF F' h 17 e_api_Addr vl l) ∧ I_1 i_1) m_1 0 ⟨F, rfl, rfl, rfl, hK, hS, hL_l, hI_1⟩ ?_
 rintro i_1 f_1 h_1 ⟨F_1, e0, e2, e3, hK, hS, hL_l, hI0⟩
 obtain ⟨K_1, hKe_1⟩ : ∃ K : Int → Prop, K = fun i_1' => I_1 i_1' ∧ m_1 i_1' < m_1 i_1 := ⟨_, rfl⟩
 have hM : law22_some_l1 l Q K_1 i_1 := by rw [hKe_1]; exact hR_1 i_1 hI0
 unfold law22_some_l1 at hM
 refine HW.fr [(0, vl), (2, .bool false), (3, .int .i64 i_1)] ⟨e0, e2, e3, trivial⟩ ?_
 refine HW.seq ?_
 refine HW.seq ?_
 refine HW.region ?_
 refine oM (.int .i64 i_1) rfl rfl ?_
 refine oM (vl) rfl rfl ?_
 refine oV (.int .i64 (l.length : Int)) (q_len ts_32 (shp hL_l.is) rfl rfl) rfl ?_
 refine oV (.bool (decide (i_1 < (l.length : Int)))) (q_lss rfl rfl) rfl ?_
 refine HO.nil (thenQ_normal (?_))
 refine HW.cond (decide (i_1 < (l.length : Int))) rfl (fun c_1 => ?_) (fun c_1 => ?_)
 ·
  replace hM := hM.1 (of_decide_eq_true c_1)
  refine HW.skip (thenQ_normal (?_))
  refine HW.seq ?_
  refine HW.block ?_
  refine HW.seq ?_
  refine HW.region ?_
  refine oM (vl) rfl rfl ?_
  refine oM (.int .i64 i_1) rfl rfl ?_
  obtain ⟨ho_1, hM⟩ := hM
  refine oV (elemPtr 17 vl (i_1).toNat) (q_idx ts_32 hL_l.is rfl rfl ho_1) rfl ?_
  refine oV (.agg (e_api_Addr (gi l i_1)).toArray) (q_ldElemAgg (cs := (e_api_Addr (gi l i_1))) ta_30 hL_l.is rfl ho_1 rfl) rfl ?_
  refine HO.call (want_none) rfl (ec en_18 rfl rfl) (ref03_Good_walk (fr := (fr)) (gi l i_1) hS hM) ?_
  rintro _ h_2 ⟨F_2, r_2, rfl, hk, hS, hM⟩
  replace hK := hK.trans hk
  replace hL_l := hL_l.kp hk
  refine HO.nil (thenQ_normal (?_))
  refine HW.cond r_2 rfl (fun c_2 => ?_) (fun c_2 => ?_)
  ·
   replace hM := hM.1 c_2
   refine HW.seq ?_
   refine HW.region ?_
   refine oA (.bool true) rfl rfl ?_
   refine HO.nil (thenQ_normal (?_))
   refine HW.ret (blockQ_ret (thenQ_ret (thenQ_ret (blockQ_ret (thenQ_ret (?_))))))
   refine ⟨.inr rfl, .bool true, res1 rfl (rt rfl), ?_⟩
   exact ⟨F_2, true, rfl, hK, hS, hL_l, hM⟩
  ·
   replace hM := hM.2 c_2
   refine HW.skip (blockQ_normal (thenQ_normal (?_)))
   refine HW.region ?_
   refine oM (.int .i64 i_1) rfl rfl ?_
   obtain ⟨ho_2, hM⟩ := hM
   refine oV (.int .i64 (i_1 + 1)) (q_addN _ rfl rfl rfl ho_2.1 ho_2.2) rfl ?_
   refine oA (.int .i64 (i_1 + 1)) rfl rfl ?_
   refine HO.nil (thenQ_normal (?_))
   rw [hKe_1] at hM
   exact ⟨i_1 + 1, ⟨F_2, rfl, rfl, rfl, hK, hS, hL_l, hM.1⟩, hM.2⟩
 ·
  replace hM := hM.2 (of_decide_eq_false c_1)
  refine HW.exit (thenQ_exit (thenQ_exit (blockQ_exit (thenQ_normal (?_)))))
  refine HW.seq ?_
  refine HW.region ?_
  refine oA (.bool false) rfl rfl ?_
  refine HO.nil (thenQ_normal (?_))
  refine HW.ret (?_)
  refine ⟨.inr rfl, .bool false, res1 rfl (rt rfl), ?_⟩
  exact ⟨F_1, false, rfl, hK, hS, hL_l, hM⟩
end Go.Wk
