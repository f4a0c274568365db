/- Who is there: walks. -/
import Derived.Test.YtnemfpgfgblpbaaOps2
import Derived.Test.YtnemfpgfgblpbaaProg
import Derived.Test.YtnemfpgfgblpbaaDueI
set_option linter.unusedSimpArgs false
set_option linter.unusedVariables false
set_option linter.unusedSectionVars false
namespace Go.HL.CI
open Go.Proofs
theorem en_92 (args : Array Value) (w : World) : (callFunc 92 args).run Try.prog w = .ok (.enter 92 args) w := by kernel_rfl
theorem tp_127 : TPlaces Try.prog 127 #[(0, 1), (1, 1), (2, 1)] #[.int .i64 0, .int .i64 0, .pointer none] := tplaces Try.runUnderlying127 Try.zeroValue127 rfl (fun w => by kernel_rfl)
theorem fa_127_2 : FieldAt Try.prog 127 2 2 := fun a w => by kernel_rfl
theorem to_124 : TOne Try.prog 124 := ⟨Try.isAgg124, Try.sizeOf124⟩
theorem fa_127_0 : FieldAt Try.prog 127 0 0 := fun a w => by kernel_rfl
theorem fa_127_1 : FieldAt Try.prog 127 1 1 := fun a w => by kernel_rfl
theorem en_93 (args : Array Value) (w : World) : (callFunc 93 args).run Try.prog w = .ok (.enter 93 args) w := by kernel_rfl
theorem en_109 (args : Array Value) (w : World) : (callFunc 109 args).run Try.prog w = .ok (.enter 109 args) w := by kernel_rfl
theorem en_95 (args : Array Value) (w : World) : (callFunc 95 args).run Try.prog w = .ok (.enter 95 args) w := by kernel_rfl
theorem en_97 (args : Array Value) (w : World) : (callFunc 97 args).run Try.prog w = .ok (.enter 97 args) w := by kernel_rfl
theorem en_94 (args : Array Value) (w : World) : (callFunc 94 args).run Try.prog w = .ok (.enter 94 args) w := by kernel_rfl
/-- A watch: its struct lies at w, its clock's at c, that one's map at r. -/
structure WatchIs (h : Heap) (w c r : Nat) (beats dead : Int) (m : List (Int × Int)) : Prop where
  blk : Blk h w (.cells #[.int .i64 beats, .int .i64 dead, .pointer (some ⟨c, 0, none⟩)] 127 (0, 0))
  clk : Blk h c (.cells #[.map (some r)] 159 (0, 0))
  map : MapIs h r kI kI m
  wc : w ≠ c
  wr : w ≠ r
  cr : c ≠ r
theorem WatchIs.ext {h h' : Heap} {w c r : Nat} {beats dead : Int} {m : List (Int × Int)} (k : WatchIs h w c r beats dead m) (e : Ext h h') : WatchIs h' w c r beats dead m := ⟨k.blk.ext e, k.clk.ext e, k.map.ext e, k.wc, k.wr, k.cr⟩

set_option maxRecDepth 100000 in
theorem wnew_spec (dead : Int) (h0 : Heap) :
    HC Try.prog 15 #[.int .i64 dead] h0 fun u h' => ∃ w c r, u = .pointer (some ⟨w, 0, none⟩) ∧ WatchIs h' w c r 0 (min (max dead 1) 1000) [] ∧ Ext h0 h' ∧ h0.size ≤ w ∧ h0.size ≤ c ∧ h0.size ≤ r := by
  refine HC.of_HW (n := 9) Try.func15 rfl rfl (Nat.le_of_ble_eq_true rfl) ?_
  have hE := Ext.refl h0
  refine HW.seq ?_
  refine HW.region ?_
  refine HO.val (v := .pointer none) (want_none) rfl (q_assign rfl) ?_
  refine HO.nil (thenQ_normal (?_))
  refine HW.seq ?_
  refine HW.region ?_
  refine HO.val (v := .int .i64 dead) (want_none) rfl (q_move rfl) ?_
  refine HO.val (v := .int .i64 (max dead 1)) (want_none) rfl (q_max rfl rfl) ?_
  refine HO.val (v := .int .i64 (min (max dead 1) 1000)) (want_none) rfl (q_min rfl rfl) ?_
  refine HO.call (want_none) rfl (ec en_92 rfl rfl) (new_spec _) ?_
  rintro _ h1 ⟨c, r, rfl, hK, hx, hcg, hrg, hcr⟩
  replace hE := hE.trans hx
  have hxs := hx.size
  have hC := hK.at_
  have hM := hK.map
  have hcl := hC.lt
  have hrl := hM.lt
  refine HO.val (v := .agg #[.int .i64 0, .int .i64 (min (max dead 1) 1000), .pointer (some ⟨c, 0, none⟩)]) (want_none) rfl (q_build tp_127 rfl) ?_
  refine HO.eff (want_none) rfl (e_box (c := #[.int .i64 0, .int .i64 (min (max dead 1) 1000), .pointer (some ⟨c, 0, none⟩)]) (k' := 3) rfl rfl) ?_
  rintro _ h2 ⟨b1, rfl, hn⟩
  replace hE := hE.trans hn.ext
  replace hC := hC.ext hn.ext
  replace hM := hM.ext hn.ext
  have hb1 : Blk h2 b1 (.cells #[.int .i64 0, .int .i64 (min (max dead 1) 1000), .pointer (some ⟨c, 0, none⟩)] 127 (0, 0)) := hn.blk
  have hb1a := hn.at_; have hb1s := hn.size; clear hn
  refine HO.val (v := .pointer (some ⟨b1, 0, none⟩)) (want_none) rfl (q_assign rfl) ?_
  refine HO.nil (thenQ_normal (?_))
  refine HW.ret (?_)
  refine ⟨.inr rfl, .pointer (some ⟨b1, 0, none⟩), res_one rfl rfl, ?_⟩
  exact ⟨_, _, _, rfl, ⟨hb1, hC, hM, by omega, by omega, hcr⟩, hE, by omega, hcg, hrg⟩

set_option maxRecDepth 100000 in
theorem hear_nil (id : Int) (h0 : Heap) :
    HC Try.prog 16 #[.pointer none, .int .i64 id] h0 fun u h' => u = .bool false ∧ h' = h0 := by
  refine HC.of_HW (n := 24) Try.func16 rfl rfl (Nat.le_of_ble_eq_true rfl) ?_
  refine HW.seq ?_
  refine HW.region ?_
  refine HO.val (v := .bool false) (want_none) rfl (q_assign rfl) ?_
  refine HO.nil (thenQ_normal (?_))
  refine HW.seq ?_
  refine HW.regionD 20 mixed (fun h => True) [] [(0, true), (1, true), (2, true), (3, true), (4, true), (5, true), (6, true), (7, true), (8, true), (9, true), (10, true), (11, true), (12, true), (13, true), (14, true), (15, true), (16, true), (17, false), (18, true), (19, true)] (by kernel_rfl) ?_
  refine HM.val (v := .pointer none) rfl rfl (want_none) rfl (fun _ _ => q_move rfl) ?_
  refine HM.val (v := .bool false) rfl rfl (want_none) rfl (fun _ _ => q_neqPnil Try.underlying23 rfl rfl rfl) ?_
  refine HM.val (v := .bool false) rfl rfl (want_none) rfl (fun _ _ => q_move rfl) ?_
  refine HM.past rfl rfl (past_some rfl rfl) rfl ?_
  refine HM.past rfl rfl (past_some rfl rfl) rfl ?_
  refine HM.past rfl rfl (past_some rfl rfl) rfl ?_
  refine HM.past rfl rfl (past_some rfl rfl) rfl ?_
  refine HM.past rfl rfl (past_some rfl rfl) rfl ?_
  refine HM.past rfl rfl (past_some rfl rfl) rfl ?_
  refine HM.past rfl rfl (past_some rfl rfl) rfl ?_
  refine HM.past rfl rfl (past_some rfl rfl) rfl ?_
  refine HM.past rfl rfl (past_some rfl rfl) rfl ?_
  refine HM.past rfl rfl (past_some rfl rfl) rfl ?_
  refine HM.past rfl rfl (past_some rfl rfl) rfl ?_
  refine HM.past rfl rfl (past_some rfl rfl) rfl ?_
  refine HM.past rfl rfl (past_some rfl rfl) rfl ?_
  refine HM.past rfl rfl (past_some rfl rfl) rfl ?_
  refine HM.pastF ⟨trivial, Go.HL.at_nil _ _⟩ rfl (past_some rfl rfl) rfl ?_
  refine HM.val (v := .bool false) rfl rfl (want_none) rfl (fun _ _ => q_pick rfl rfl) ?_
  refine HM.val (v := .bool false) rfl rfl (want_none) rfl (fun _ _ => q_assign rfl) ?_
  refine HM.nil ⟨trivial, Go.HL.at_nil _ _⟩ (thenQ_normal (?_))
  refine HW.ret (?_)
  refine ⟨.inr rfl, .bool false, res_one rfl rfl, ?_⟩
  exact ⟨rfl, rfl⟩

set_option maxRecDepth 100000 in
theorem hear_spec (w c r : Nat) (beats dead : Int) (m : List (Int × Int)) (h0 : Heap) (hI : WatchIs h0 w c r beats dead m) (id : Int) (hb : 0 ≤ beats ∧ beats ≤ 1000000) (hd : 1 ≤ dead ∧ dead ≤ 1000) :
    HC Try.prog 16 #[.pointer (some ⟨w, 0, none⟩), .int .i64 id] h0 fun u h' => u = .bool (!(mget m id).isSome) ∧ WatchIs h' w c r beats dead (mset m id (beats + dead)) ∧ OnlyL [w, r] h0 h' := by
  refine HC.of_HW (n := 24) Try.func16 rfl rfl (Nat.le_of_ble_eq_true rfl) ?_
  obtain ⟨hW, hC, hM, hwc, hwr, hcr⟩ := hI
  have hX := OnlyL.refl [w, r] h0
  refine HW.seq ?_
  refine HW.region ?_
  refine HO.val (v := .bool false) (want_none) rfl (q_assign rfl) ?_
  refine HO.nil (thenQ_normal (?_))
  refine HW.seq ?_
  refine HW.regionD 20 mixed (fun h => (Blk h w (.cells #[.int .i64 beats, .int .i64 dead, .pointer (some ⟨c, 0, none⟩)] 127 (0, 0)))) [] [(0, true), (1, true), (2, true), (3, true), (4, true), (5, true), (6, true), (7, true), (8, true), (9, true), (10, true), (11, true), (12, true), (13, true), (14, true), (15, true), (16, true), (17, false), (18, true), (19, true)] (by kernel_rfl) ?_
  refine HM.val (v := .pointer (some ⟨w, 0, none⟩)) rfl rfl (want_none) rfl (fun _ hW => q_move rfl) ?_
  refine HM.val (v := .bool true) rfl rfl (want_none) rfl (fun _ hW => q_neqPnil Try.underlying23 rfl rfl rfl) ?_
  refine HM.val (v := .bool true) rfl rfl (want_none) rfl (fun _ hW => q_move rfl) ?_
  refine HM.val (v := .pointer (some ⟨w, 0, none⟩)) rfl rfl (want_some rfl rfl) rfl (fun _ hW => q_move rfl) ?_
  refine HM.val (v := .pointer (some ⟨w, 0, none⟩)) rfl rfl (want_some rfl rfl) rfl (fun _ hW => q_nilCheck rfl) ?_
  refine HM.val (v := .pointer (some ⟨w, 2, none⟩)) rfl rfl (want_some rfl rfl) rfl (fun _ hW => q_fieldAddr fa_127_2 rfl rfl) ?_
  refine HM.val (v := .pointer (some ⟨c, 0, none⟩)) rfl rfl (want_some rfl rfl) rfl (fun _ hW => q_load to_124 rfl (Blk.cell hW rfl)) ?_
  refine HM.val (v := .int .i64 id) rfl rfl (want_some rfl rfl) rfl (fun _ hW => q_move rfl) ?_
  refine HM.val (v := .pointer (some ⟨w, 0, none⟩)) rfl rfl (want_some rfl rfl) rfl (fun _ hW => q_move rfl) ?_
  refine HM.val (v := .pointer (some ⟨w, 0, none⟩)) rfl rfl (want_some rfl rfl) rfl (fun _ hW => q_nilCheck rfl) ?_
  refine HM.val (v := .pointer (some ⟨w, 0, none⟩)) rfl rfl (want_some rfl rfl) rfl (fun _ hW => q_fieldAddr fa_127_0 rfl rfl) ?_
  refine HM.val (v := .int .i64 beats) rfl rfl (want_some rfl rfl) rfl (fun _ hW => q_load to_3 rfl (Blk.cell hW rfl)) ?_
  refine HM.val (v := .pointer (some ⟨w, 0, none⟩)) rfl rfl (want_some rfl rfl) rfl (fun _ hW => q_move rfl) ?_
  refine HM.val (v := .pointer (some ⟨w, 0, none⟩)) rfl rfl (want_some rfl rfl) rfl (fun _ hW => q_nilCheck rfl) ?_
  refine HM.val (v := .pointer (some ⟨w, 1, none⟩)) rfl rfl (want_some rfl rfl) rfl (fun _ hW => q_fieldAddr fa_127_1 rfl rfl) ?_
  refine HM.val (v := .int .i64 dead) rfl rfl (want_some rfl rfl) rfl (fun _ hW => q_load to_3 rfl (Blk.cell hW rfl)) ?_
  refine HM.val (v := .int .i64 (beats + dead)) rfl rfl (want_some rfl rfl) rfl (fun _ hW => q_addN (beats + dead) rfl rfl rfl (by omega) (by omega)) ?_
  refine HM.call ⟨hW, Go.HL.at_nil _ _⟩ rfl (want_some rfl rfl) rfl (ec en_93 rfl rfl) (set_spec c r m _ hC hM id (beats + dead) hcr) ?_
  rintro _ h1 ⟨rfl, o, hu, hK⟩
  replace hW := hW.upd hu hwr
  replace hC := hC.upd hu hcr
  replace hX := hX.upd hu (by simp)
  replace hM := hK.map
  have hus := hu.size
  refine HM.val (v := .bool (!(mget m id).isSome)) rfl rfl (want_none) rfl (fun _ hW => q_pick rfl rfl) ?_
  refine HM.val (v := .bool (!(mget m id).isSome)) rfl rfl (want_none) rfl (fun _ hW => q_assign rfl) ?_
  refine HM.nil ⟨hW, Go.HL.at_nil _ _⟩ (thenQ_normal (?_))
  refine HW.ret (?_)
  refine ⟨.inr rfl, .bool (!(mget m id).isSome), res_one rfl rfl, ?_⟩
  exact ⟨rfl, ⟨hW, hC, hM, hwc, hwr, hcr⟩, hX⟩

set_option maxRecDepth 100000 in
theorem left_nil (id : Int) (h0 : Heap) :
    HC Try.prog 95 #[.pointer none, .int .i64 id] h0 fun u h' => u = .int .i64 0 ∧ h' = h0 := by
  refine HC.of_HW (n := 26) Try.func95 rfl rfl (Nat.le_of_ble_eq_true rfl) ?_
  refine HW.seq ?_
  refine HW.region ?_
  refine HO.val (v := .int .i64 0) (want_none) rfl (q_assign rfl) ?_
  refine HO.nil (thenQ_normal (?_))
  refine HW.seq ?_
  refine HW.seq ?_
  refine HW.region ?_
  refine HO.val (v := .pointer none) (want_none) rfl (q_move rfl) ?_
  refine HO.val (v := .bool true) (want_none) rfl (q_eqlPnil Try.underlying23 rfl rfl rfl) ?_
  refine HO.nil (thenQ_normal (?_))
  refine HW.condT rfl ?_
  refine HW.seq ?_
  refine HW.region ?_
  refine HO.val (v := .int .i64 0) (want_none) rfl (q_assign rfl) ?_
  refine HO.nil (thenQ_normal (?_))
  refine HW.ret (thenQ_ret (?_))
  refine ⟨.inr rfl, .int .i64 0, res_one rfl rfl, ?_⟩
  exact ⟨rfl, rfl⟩

/-- How many beats are left. -/
def wleft (m : List (Int × Int)) (beats id : Int) : Int := if (mget m id).isSome then mgetI m id - beats else 0
theorem wleft_in {m : List (Int × Int)} {beats id : Int} (h : (!(mget m id).isSome) = false) : mgetI m id - beats = wleft m beats id := by
  unfold wleft; rw [if_pos (by simpa using h)]
theorem wleft_out {m : List (Int × Int)} {beats id : Int} (h : (!(mget m id).isSome) = true) : 0 = wleft m beats id := by
  unfold wleft; rw [if_neg (by simpa using h)]
/-- All that is in it is due within a thousand beats. -/
def WOk (m : List (Int × Int)) (beats : Int) : Prop := ∀ k v, mget m k = some v → beats < v ∧ v ≤ beats + 1000
theorem WOk.bd {m : List (Int × Int)} {beats : Int} (h : WOk m beats) {id : Int} (hs : (!(mget m id).isSome) = false) : beats < mgetI m id ∧ mgetI m id ≤ beats + 1000 := by
  obtain ⟨v, hv⟩ := Option.isSome_iff_exists.1 (by simpa using hs : (mget m id).isSome = true)
  have := h _ _ hv; unfold mgetI; rw [hv]; exact this

set_option maxRecDepth 100000 in
theorem left_spec (w c r : Nat) (beats dead : Int) (m : List (Int × Int)) (h0 : Heap) (hI : WatchIs h0 w c r beats dead m) (id : Int) (hb : 0 ≤ beats ∧ beats ≤ 1000000) (hk : WOk m beats) :
    HC Try.prog 95 #[.pointer (some ⟨w, 0, none⟩), .int .i64 id] h0 fun u h' => u = .int .i64 (wleft m beats id) ∧ h' = h0 := by
  refine HC.of_HW (n := 26) Try.func95 rfl rfl (Nat.le_of_ble_eq_true rfl) ?_
  obtain ⟨hW, hC, hM, hwc, hwr, hcr⟩ := hI
  refine HW.seq ?_
  refine HW.region ?_
  refine HO.val (v := .int .i64 0) (want_none) rfl (q_assign rfl) ?_
  refine HO.nil (thenQ_normal (?_))
  refine HW.seq ?_
  refine HW.seq ?_
  refine HW.region ?_
  refine HO.val (v := .pointer (some ⟨w, 0, none⟩)) (want_none) rfl (q_move rfl) ?_
  refine HO.val (v := .bool false) (want_none) rfl (q_eqlPnil Try.underlying23 rfl rfl rfl) ?_
  refine HO.nil (thenQ_normal (?_))
  refine HW.condF rfl ?_
  refine HW.skip (thenQ_normal (?_))
  refine HW.seq ?_
  refine HW.region ?_
  refine HO.val (v := .pointer (some ⟨w, 0, none⟩)) (want_none) rfl (q_move rfl) ?_
  refine HO.val (v := .pointer (some ⟨w, 0, none⟩)) (want_none) rfl (q_nilCheck rfl) ?_
  refine HO.val (v := .pointer (some ⟨w, 2, none⟩)) (want_none) rfl (q_fieldAddr fa_127_2 rfl rfl) ?_
  refine HO.val (v := .pointer (some ⟨c, 0, none⟩)) (want_none) rfl (q_load to_124 rfl (Blk.cell hW rfl)) ?_
  refine HO.val (v := .int .i64 id) (want_none) rfl (q_move rfl) ?_
  refine HO.call (want_none) rfl (ec en_109 rfl rfl) (at_spec c r m _ hC hM id) ?_
  rintro _ _ ⟨rfl, rfl⟩
  refine HO.val (v := .tuple #[.int .i64 (mgetI m id), .bool ((mget m id).isSome)]) (want_none) rfl (q_move rfl) ?_
  refine HO.val (v := .int .i64 (mgetI m id)) (want_none) rfl (q_extract rfl rfl) ?_
  refine HO.val (v := .bool ((mget m id).isSome)) (want_none) rfl (q_extract rfl rfl) ?_
  refine HO.val (v := .int .i64 (mgetI m id)) (want_none) rfl (q_assign rfl) ?_
  refine HO.val (v := .bool ((mget m id).isSome)) (want_none) rfl (q_assign rfl) ?_
  refine HO.nil (thenQ_normal (?_))
  refine HW.seq ?_
  refine HW.seq ?_
  refine HW.region ?_
  refine HO.val (v := .bool ((mget m id).isSome)) (want_none) rfl (q_move rfl) ?_
  refine HO.val (v := .bool (!((mget m id).isSome))) (want_none) rfl (q_not rfl) ?_
  refine HO.nil (thenQ_normal (?_))
  refine HW.cond (!((mget m id).isSome)) rfl (fun c1 => ?_) (fun c1 => ?_)
  · refine HW.seq ?_
    refine HW.region ?_
    refine HO.val (v := .int .i64 0) (want_none) rfl (q_assign rfl) ?_
    refine HO.nil (thenQ_normal (?_))
    refine HW.ret (thenQ_ret (?_))
    refine ⟨.inr rfl, .int .i64 0, res_one rfl rfl, ?_⟩
    exact ⟨by rw [wleft_out c1], rfl⟩
  · have hbd := hk.bd c1
    refine HW.skip (thenQ_normal (?_))
    refine HW.seq ?_
    refine HW.region ?_
    refine HO.val (v := .int .i64 (mgetI m id)) (want_none) rfl (q_move rfl) ?_
    refine HO.val (v := .pointer (some ⟨w, 0, none⟩)) (want_none) rfl (q_move rfl) ?_
    refine HO.val (v := .pointer (some ⟨w, 0, none⟩)) (want_none) rfl (q_nilCheck rfl) ?_
    refine HO.val (v := .pointer (some ⟨w, 0, none⟩)) (want_none) rfl (q_fieldAddr fa_127_0 rfl rfl) ?_
    refine HO.val (v := .int .i64 beats) (want_none) rfl (q_load to_3 rfl (Blk.cell hW rfl)) ?_
    refine HO.val (v := .int .i64 ((mgetI m id) - beats)) (want_none) rfl (q_subN ((mgetI m id) - beats) rfl rfl rfl (by omega) (by omega)) ?_
    refine HO.val (v := .int .i64 ((mgetI m id) - beats)) (want_none) rfl (q_assign rfl) ?_
    refine HO.nil (thenQ_normal (?_))
    refine HW.ret (?_)
    refine ⟨.inr rfl, .int .i64 ((mgetI m id) - beats), res_one rfl rfl, ?_⟩
    exact ⟨by rw [← wleft_in c1], rfl⟩

set_option maxRecDepth 100000 in
theorem wleft_nil (id : Int) (h0 : Heap) :
    HC Try.prog 28 #[.pointer none, .int .i64 id] h0 fun u h' => u = .int .i64 0 ∧ h' = h0 := by
  refine HC.of_HW (n := 8) Try.func28 rfl rfl (Nat.le_of_ble_eq_true rfl) ?_
  refine HW.seq ?_
  refine HW.region ?_
  refine HO.val (v := .int .i64 0) (want_none) rfl (q_assign rfl) ?_
  refine HO.nil (thenQ_normal (?_))
  refine HW.seq ?_
  refine HW.region ?_
  refine HO.val (v := .pointer none) (want_none) rfl (q_move rfl) ?_
  refine HO.val (v := .int .i64 id) (want_none) rfl (q_move rfl) ?_
  refine HO.call (want_none) rfl (ec en_95 rfl rfl) (left_nil id _) ?_
  rintro _ _ ⟨rfl, rfl⟩
  refine HO.val (v := .int .i64 0) (want_none) rfl (q_assign rfl) ?_
  refine HO.nil (thenQ_normal (?_))
  refine HW.ret (?_)
  refine ⟨.inr rfl, .int .i64 0, res_one rfl rfl, ?_⟩
  exact ⟨rfl, rfl⟩

set_option maxRecDepth 100000 in
theorem wleft_spec (w c r : Nat) (beats dead : Int) (m : List (Int × Int)) (h0 : Heap) (hI : WatchIs h0 w c r beats dead m) (id : Int) (hb : 0 ≤ beats ∧ beats ≤ 1000000) (hk : WOk m beats) :
    HC Try.prog 28 #[.pointer (some ⟨w, 0, none⟩), .int .i64 id] h0 fun u h' => u = .int .i64 (wleft m beats id) ∧ h' = h0 := by
  refine HC.of_HW (n := 8) Try.func28 rfl rfl (Nat.le_of_ble_eq_true rfl) ?_
  refine HW.seq ?_
  refine HW.region ?_
  refine HO.val (v := .int .i64 0) (want_none) rfl (q_assign rfl) ?_
  refine HO.nil (thenQ_normal (?_))
  refine HW.seq ?_
  refine HW.region ?_
  refine HO.val (v := .pointer (some ⟨w, 0, none⟩)) (want_none) rfl (q_move rfl) ?_
  refine HO.val (v := .int .i64 id) (want_none) rfl (q_move rfl) ?_
  refine HO.call (want_none) rfl (ec en_95 rfl rfl) (left_spec w c r beats dead m _ hI id hb hk) ?_
  rintro _ _ ⟨rfl, rfl⟩
  refine HO.val (v := .int .i64 (wleft m beats id)) (want_none) rfl (q_assign rfl) ?_
  refine HO.nil (thenQ_normal (?_))
  refine HW.ret (?_)
  refine ⟨.inr rfl, .int .i64 (wleft m beats id), res_one rfl rfl, ?_⟩
  exact ⟨rfl, rfl⟩

set_option maxRecDepth 100000 in
theorem is_nil (id : Int) (h0 : Heap) :
    HC Try.prog 19 #[.pointer none, .int .i64 id] h0 fun u h' => u = .bool false ∧ h' = h0 := by
  refine HC.of_HW (n := 9) Try.func19 rfl rfl (Nat.le_of_ble_eq_true rfl) ?_
  refine HW.seq ?_
  refine HW.region ?_
  refine HO.val (v := .bool false) (want_none) rfl (q_assign rfl) ?_
  refine HO.nil (thenQ_normal (?_))
  refine HW.seq ?_
  refine HW.region ?_
  refine HO.val (v := .pointer none) (want_none) rfl (q_move rfl) ?_
  refine HO.val (v := .int .i64 id) (want_none) rfl (q_move rfl) ?_
  refine HO.call (want_none) rfl (ec en_95 rfl rfl) (left_nil id _) ?_
  rintro _ _ ⟨rfl, rfl⟩
  refine HO.val (v := .bool (decide (0 < 0))) (want_none) rfl (q_gtr rfl rfl) ?_
  refine HO.val (v := .bool (decide (0 < 0))) (want_none) rfl (q_assign rfl) ?_
  refine HO.nil (thenQ_normal (?_))
  refine HW.ret (?_)
  refine ⟨.inr rfl, .bool (decide (0 < 0)), res_one rfl rfl, ?_⟩
  exact ⟨rfl, rfl⟩

set_option maxRecDepth 100000 in
theorem is_spec (w c r : Nat) (beats dead : Int) (m : List (Int × Int)) (h0 : Heap) (hI : WatchIs h0 w c r beats dead m) (id : Int) (hb : 0 ≤ beats ∧ beats ≤ 1000000) (hk : WOk m beats) :
    HC Try.prog 19 #[.pointer (some ⟨w, 0, none⟩), .int .i64 id] h0 fun u h' => u = .bool (decide (0 < wleft m beats id)) ∧ h' = h0 := by
  refine HC.of_HW (n := 9) Try.func19 rfl rfl (Nat.le_of_ble_eq_true rfl) ?_
  refine HW.seq ?_
  refine HW.region ?_
  refine HO.val (v := .bool false) (want_none) rfl (q_assign rfl) ?_
  refine HO.nil (thenQ_normal (?_))
  refine HW.seq ?_
  refine HW.region ?_
  refine HO.val (v := .pointer (some ⟨w, 0, none⟩)) (want_none) rfl (q_move rfl) ?_
  refine HO.val (v := .int .i64 id) (want_none) rfl (q_move rfl) ?_
  refine HO.call (want_none) rfl (ec en_95 rfl rfl) (left_spec w c r beats dead m _ hI id hb hk) ?_
  rintro _ _ ⟨rfl, rfl⟩
  refine HO.val (v := .bool (decide (0 < (wleft m beats id)))) (want_none) rfl (q_gtr rfl rfl) ?_
  refine HO.val (v := .bool (decide (0 < (wleft m beats id)))) (want_none) rfl (q_assign rfl) ?_
  refine HO.nil (thenQ_normal (?_))
  refine HW.ret (?_)
  refine ⟨.inr rfl, .bool (decide (0 < (wleft m beats id))), res_one rfl rfl, ?_⟩
  exact ⟨rfl, rfl⟩

set_option maxRecDepth 100000 in
theorem wcut_nil (id : Int) (h0 : Heap) :
    HC Try.prog 25 #[.pointer none, .int .i64 id] h0 fun u h' => u = .bool false ∧ h' = h0 := by
  refine HC.of_HW (n := 15) Try.func25 rfl rfl (Nat.le_of_ble_eq_true rfl) ?_
  refine HW.seq ?_
  refine HW.region ?_
  refine HO.val (v := .bool false) (want_none) rfl (q_assign rfl) ?_
  refine HO.nil (thenQ_normal (?_))
  refine HW.seq ?_
  refine HW.region ?_
  refine HO.val (v := .pointer none) (want_none) rfl (q_move rfl) ?_
  refine HO.val (v := .bool false) (want_none) rfl (q_neqPnil Try.underlying23 rfl rfl rfl) ?_
  refine HO.val (v := .bool false) (want_none) rfl (q_move rfl) ?_
  refine HO.past (past_some rfl rfl) rfl ?_
  refine HO.past (past_some rfl rfl) rfl ?_
  refine HO.past (past_some rfl rfl) rfl ?_
  refine HO.past (past_some rfl rfl) rfl ?_
  refine HO.past (past_some rfl rfl) rfl ?_
  refine HO.past (past_some rfl rfl) rfl ?_
  refine HO.val (v := .bool false) (want_none) rfl (q_pick rfl rfl) ?_
  refine HO.val (v := .bool false) (want_none) rfl (q_assign rfl) ?_
  refine HO.nil (thenQ_normal (?_))
  refine HW.ret (?_)
  refine ⟨.inr rfl, .bool false, res_one rfl rfl, ?_⟩
  exact ⟨rfl, rfl⟩

set_option maxRecDepth 100000 in
theorem wcut_spec (w c r : Nat) (beats dead : Int) (m : List (Int × Int)) (h0 : Heap) (hI : WatchIs h0 w c r beats dead m) (id : Int) :
    HC Try.prog 25 #[.pointer (some ⟨w, 0, none⟩), .int .i64 id] h0 fun u h' => u = .bool (mget m id).isSome ∧ WatchIs h' w c r beats dead (mdel m id) ∧ OnlyL [w, r] h0 h' := by
  refine HC.of_HW (n := 15) Try.func25 rfl rfl (Nat.le_of_ble_eq_true rfl) ?_
  obtain ⟨hW, hC, hM, hwc, hwr, hcr⟩ := hI
  have hX := OnlyL.refl [w, r] h0
  refine HW.seq ?_
  refine HW.region ?_
  refine HO.val (v := .bool false) (want_none) rfl (q_assign rfl) ?_
  refine HO.nil (thenQ_normal (?_))
  refine HW.seq ?_
  refine HW.region ?_
  refine HO.val (v := .pointer (some ⟨w, 0, none⟩)) (want_none) rfl (q_move rfl) ?_
  refine HO.val (v := .bool true) (want_none) rfl (q_neqPnil Try.underlying23 rfl rfl rfl) ?_
  refine HO.val (v := .bool true) (want_none) rfl (q_move rfl) ?_
  refine HO.val (v := .pointer (some ⟨w, 0, none⟩)) (want_some rfl rfl) rfl (q_move rfl) ?_
  refine HO.val (v := .pointer (some ⟨w, 0, none⟩)) (want_some rfl rfl) rfl (q_nilCheck rfl) ?_
  refine HO.val (v := .pointer (some ⟨w, 2, none⟩)) (want_some rfl rfl) rfl (q_fieldAddr fa_127_2 rfl rfl) ?_
  refine HO.val (v := .pointer (some ⟨c, 0, none⟩)) (want_some rfl rfl) rfl (q_load to_124 rfl (Blk.cell hW rfl)) ?_
  refine HO.val (v := .int .i64 id) (want_some rfl rfl) rfl (q_move rfl) ?_
  refine HO.call (want_some rfl rfl) rfl (ec en_97 rfl rfl) (cut_spec c r m _ hC hM id hcr) ?_
  rintro _ h1 ⟨rfl, o, hu, hK⟩
  replace hW := hW.upd hu hwr
  replace hC := hC.upd hu hcr
  replace hX := hX.upd hu (by simp)
  replace hM := hK.map
  have hus := hu.size
  refine HO.val (v := .bool ((mget m id).isSome)) (want_none) rfl (q_pick rfl rfl) ?_
  refine HO.val (v := .bool ((mget m id).isSome)) (want_none) rfl (q_assign rfl) ?_
  refine HO.nil (thenQ_normal (?_))
  refine HW.ret (?_)
  refine ⟨.inr rfl, .bool ((mget m id).isSome), res_one rfl rfl, ?_⟩
  exact ⟨rfl, ⟨hW, hC, hM, hwc, hwr, hcr⟩, hX⟩

set_option maxRecDepth 100000 in
theorem beats_nil (h0 : Heap) :
    HC Try.prog 31 #[.pointer none] h0 fun u h' => u = .int .i64 0 ∧ h' = h0 := by
  refine HC.of_HW (n := 9) Try.func31 rfl rfl (Nat.le_of_ble_eq_true rfl) ?_
  refine HW.seq ?_
  refine HW.region ?_
  refine HO.val (v := .int .i64 0) (want_none) rfl (q_assign rfl) ?_
  refine HO.nil (thenQ_normal (?_))
  refine HW.seq ?_
  refine HW.seq ?_
  refine HW.region ?_
  refine HO.val (v := .pointer none) (want_none) rfl (q_move rfl) ?_
  refine HO.val (v := .bool true) (want_none) rfl (q_eqlPnil Try.underlying23 rfl rfl rfl) ?_
  refine HO.nil (thenQ_normal (?_))
  refine HW.condT rfl ?_
  refine HW.seq ?_
  refine HW.region ?_
  refine HO.val (v := .int .i64 0) (want_none) rfl (q_assign rfl) ?_
  refine HO.nil (thenQ_normal (?_))
  refine HW.ret (thenQ_ret (?_))
  refine ⟨.inr rfl, .int .i64 0, res_one rfl rfl, ?_⟩
  exact ⟨rfl, rfl⟩

set_option maxRecDepth 100000 in
theorem beats_spec (w c r : Nat) (beats dead : Int) (m : List (Int × Int)) (h0 : Heap) (hI : WatchIs h0 w c r beats dead m) :
    HC Try.prog 31 #[.pointer (some ⟨w, 0, none⟩)] h0 fun u h' => u = .int .i64 beats ∧ h' = h0 := by
  refine HC.of_HW (n := 9) Try.func31 rfl rfl (Nat.le_of_ble_eq_true rfl) ?_
  obtain ⟨hW, hC, hM, hwc, hwr, hcr⟩ := hI
  refine HW.seq ?_
  refine HW.region ?_
  refine HO.val (v := .int .i64 0) (want_none) rfl (q_assign rfl) ?_
  refine HO.nil (thenQ_normal (?_))
  refine HW.seq ?_
  refine HW.seq ?_
  refine HW.region ?_
  refine HO.val (v := .pointer (some ⟨w, 0, none⟩)) (want_none) rfl (q_move rfl) ?_
  refine HO.val (v := .bool false) (want_none) rfl (q_eqlPnil Try.underlying23 rfl rfl rfl) ?_
  refine HO.nil (thenQ_normal (?_))
  refine HW.condF rfl ?_
  refine HW.skip (thenQ_normal (?_))
  refine HW.seq ?_
  refine HW.region ?_
  refine HO.val (v := .pointer (some ⟨w, 0, none⟩)) (want_none) rfl (q_move rfl) ?_
  refine HO.val (v := .pointer (some ⟨w, 0, none⟩)) (want_none) rfl (q_nilCheck rfl) ?_
  refine HO.val (v := .pointer (some ⟨w, 0, none⟩)) (want_none) rfl (q_fieldAddr fa_127_0 rfl rfl) ?_
  refine HO.val (v := .int .i64 beats) (want_none) rfl (q_load to_3 rfl (Blk.cell hW rfl)) ?_
  refine HO.val (v := .int .i64 beats) (want_none) rfl (q_assign rfl) ?_
  refine HO.nil (thenQ_normal (?_))
  refine HW.ret (?_)
  refine ⟨.inr rfl, .int .i64 beats, res_one rfl rfl, ?_⟩
  exact ⟨rfl, rfl⟩

set_option maxRecDepth 100000 in
theorem list_nil (h0 : Heap) :
    HC Try.prog 29 #[.pointer none] h0 fun u h' => u = .slice none 0 0 ∧ h' = h0 := by
  refine HC.of_HW (n := 10) Try.func29 rfl rfl (Nat.le_of_ble_eq_true rfl) ?_
  refine HW.seq ?_
  refine HW.region ?_
  refine HO.val (v := .slice none 0 0) (want_none) rfl (q_assign rfl) ?_
  refine HO.nil (thenQ_normal (?_))
  refine HW.seq ?_
  refine HW.seq ?_
  refine HW.region ?_
  refine HO.val (v := .pointer none) (want_none) rfl (q_move rfl) ?_
  refine HO.val (v := .bool true) (want_none) rfl (q_eqlPnil Try.underlying23 rfl rfl rfl) ?_
  refine HO.nil (thenQ_normal (?_))
  refine HW.condT rfl ?_
  refine HW.seq ?_
  refine HW.region ?_
  refine HO.val (v := .slice none 0 0) (want_none) rfl (q_assign rfl) ?_
  refine HO.nil (thenQ_normal (?_))
  refine HW.ret (thenQ_ret (?_))
  refine ⟨.inr rfl, .slice none 0 0, res_one rfl rfl, ?_⟩
  exact ⟨rfl, rfl⟩

set_option maxRecDepth 100000 in
theorem beat_nil (h0 : Heap) :
    HC Try.prog 18 #[.pointer none] h0 fun u h' => u = .slice none 0 0 ∧ h' = h0 := by
  refine HC.of_HW (n := 21) Try.func18 rfl rfl (Nat.le_of_ble_eq_true rfl) ?_
  refine HW.seq ?_
  refine HW.region ?_
  refine HO.val (v := .slice none 0 0) (want_none) rfl (q_assign rfl) ?_
  refine HO.nil (thenQ_normal (?_))
  refine HW.seq ?_
  refine HW.seq ?_
  refine HW.region ?_
  refine HO.val (v := .pointer none) (want_none) rfl (q_move rfl) ?_
  refine HO.val (v := .bool true) (want_none) rfl (q_eqlPnil Try.underlying23 rfl rfl rfl) ?_
  refine HO.nil (thenQ_normal (?_))
  refine HW.condT rfl ?_
  refine HW.seq ?_
  refine HW.region ?_
  refine HO.val (v := .slice none 0 0) (want_none) rfl (q_assign rfl) ?_
  refine HO.nil (thenQ_normal (?_))
  refine HW.ret (thenQ_ret (?_))
  refine ⟨.inr rfl, .slice none 0 0, res_one rfl rfl, ?_⟩
  exact ⟨rfl, rfl⟩

set_option maxRecDepth 100000 in
theorem beat_spec (w c r : Nat) (beats dead : Int) (m : List (Int × Int)) (h0 : Heap) (hI : WatchIs h0 w c r beats dead m) (hb : 0 ≤ beats ∧ beats ≤ 1000000) (hml : m.length ≤ 1099511627776) :
    HC Try.prog 18 #[.pointer (some ⟨w, 0, none⟩)] h0 fun u h' => ∃ l, DueIs (bef m) m (beats + 1) l ∧ OwnIs h' h0.size 3 1 encI u l ∧ WatchIs h' w c r (beats + 1) dead (m.filter fun p => decide (beats + 1 < p.2)) ∧ OnlyL [w, r] h0 h' := by
  refine HC.of_HW (n := 21) Try.func18 rfl rfl (Nat.le_of_ble_eq_true rfl) ?_
  obtain ⟨hW, hC, hM, hwc, hwr, hcr⟩ := hI
  have hX := OnlyL.refl [w, r] h0
  refine HW.seq ?_
  refine HW.region ?_
  refine HO.val (v := .slice none 0 0) (want_none) rfl (q_assign rfl) ?_
  refine HO.nil (thenQ_normal (?_))
  refine HW.seq ?_
  refine HW.seq ?_
  refine HW.region ?_
  refine HO.val (v := .pointer (some ⟨w, 0, none⟩)) (want_none) rfl (q_move rfl) ?_
  refine HO.val (v := .bool false) (want_none) rfl (q_eqlPnil Try.underlying23 rfl rfl rfl) ?_
  refine HO.nil (thenQ_normal (?_))
  refine HW.condF rfl ?_
  refine HW.skip (thenQ_normal (?_))
  refine HW.seq ?_
  refine HW.region ?_
  refine HO.val (v := .pointer (some ⟨w, 0, none⟩)) (want_none) rfl (q_move rfl) ?_
  refine HO.val (v := .pointer (some ⟨w, 0, none⟩)) (want_none) rfl (q_nilCheck rfl) ?_
  refine HO.val (v := .pointer (some ⟨w, 0, none⟩)) (want_none) rfl (q_fieldAddr fa_127_0 rfl rfl) ?_
  refine HO.val (v := .int .i64 beats) (want_none) rfl (q_load to_3 rfl (Blk.cell hW rfl)) ?_
  refine HO.val (v := .int .i64 (beats + 1)) (want_none) rfl (q_addN (beats + 1) rfl rfl rfl (by omega) (by omega)) ?_
  refine HO.val (v := .pointer (some ⟨w, 0, none⟩)) (want_none) rfl (q_nilCheck rfl) ?_
  refine HO.val (v := .pointer (some ⟨w, 0, none⟩)) (want_none) rfl (q_fieldAddr fa_127_0 rfl rfl) ?_
  refine HO.sto (want_none) rfl (s_store (c' := #[.int .i64 (beats + 1), .int .i64 dead, .pointer (some ⟨c, 0, none⟩)]) to_3 hW rfl rfl rfl rfl (Nat.le_of_ble_eq_true rfl) rfl) ?_
  rintro h1 hu
  replace hC := hC.upd hu hwc.symm
  replace hM := hM.upd hu hwr.symm
  replace hX := hX.upd hu (by simp)
  replace hW : Blk h1 w (.cells #[.int .i64 (beats + 1), .int .i64 dead, .pointer (some ⟨c, 0, none⟩)] 127 (0, 0)) := hu.blk rfl
  have hus := hu.size; clear hu
  refine HO.nil (thenQ_normal (?_))
  refine HW.seq ?_
  refine HW.regionD 10 mixed (fun h => (Blk h w (.cells #[.int .i64 (beats + 1), .int .i64 dead, .pointer (some ⟨c, 0, none⟩)] 127 (0, 0)))) [] [(0, true), (1, true), (2, true), (3, true), (4, true), (5, true), (6, true), (7, true), (8, false), (9, true)] (by kernel_rfl) ?_
  refine HM.val (v := .pointer (some ⟨w, 0, none⟩)) rfl rfl (want_none) rfl (fun _ hW => q_move rfl) ?_
  refine HM.val (v := .pointer (some ⟨w, 0, none⟩)) rfl rfl (want_none) rfl (fun _ hW => q_nilCheck rfl) ?_
  refine HM.val (v := .pointer (some ⟨w, 2, none⟩)) rfl rfl (want_none) rfl (fun _ hW => q_fieldAddr fa_127_2 rfl rfl) ?_
  refine HM.val (v := .pointer (some ⟨c, 0, none⟩)) rfl rfl (want_none) rfl (fun _ hW => q_load to_124 rfl (Blk.cell hW rfl)) ?_
  refine HM.val (v := .pointer (some ⟨w, 0, none⟩)) rfl rfl (want_none) rfl (fun _ hW => q_move rfl) ?_
  refine HM.val (v := .pointer (some ⟨w, 0, none⟩)) rfl rfl (want_none) rfl (fun _ hW => q_nilCheck rfl) ?_
  refine HM.val (v := .pointer (some ⟨w, 0, none⟩)) rfl rfl (want_none) rfl (fun _ hW => q_fieldAddr fa_127_0 rfl rfl) ?_
  refine HM.val (v := .int .i64 (beats + 1)) rfl rfl (want_none) rfl (fun _ hW => q_load to_3 rfl (Blk.cell hW rfl)) ?_
  refine HM.call ⟨hW, Go.HL.at_nil _ _⟩ rfl (want_none) rfl (ec en_94 rfl rfl) (pop_spec c r m _ hC hM (beats + 1) hcr hml) ?_
  rintro v h2 ⟨l, hd, hO, hK, hx⟩
  replace hX := hX.only hx (by simp)
  replace hW := hW.only hx hwr
  replace hC := hK.at_
  replace hM := hK.map
  refine HM.val (v := v) rfl rfl (want_none) rfl (fun _ hW => q_assign rfl) ?_
  refine HM.nil ⟨hW, Go.HL.at_nil _ _⟩ (thenQ_normal (?_))
  refine HW.ret (?_)
  refine ⟨.inr rfl, v, res_one rfl rfl, ?_⟩
  exact ⟨l, hd, hO.mono (by omega), ⟨hW, hC, hM, hwc, hwr, hcr⟩, hX⟩
end Go.HL.CI
