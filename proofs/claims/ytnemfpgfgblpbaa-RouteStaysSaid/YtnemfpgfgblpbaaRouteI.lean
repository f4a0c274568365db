/- Where routers are: walks. -/
import Derived.Test.YtnemfpgfgblpbaaOps2
import Derived.Test.YtnemfpgfgblpbaaProg
import Derived.Test.YtnemfpgfgblpbaaDueI
import Derived.Test.YtnemfpgfgblpbaaOps3
set_option linter.unusedSimpArgs false
set_option linter.unusedVariables false
set_option linter.unusedSectionVars false
namespace Go.HL.CI
open Go.Proofs
theorem en_92 (args : Array Value) (w : World) : (callFunc 92 args).run Try.prog w = .ok (.enter 92 args) w := by kernel_rfl
theorem tz_4 : TZero Try.prog 4 (.bool false) := Try.zeroValue4
theorem te_142 : TElem Try.prog 142 4 1 1 := ⟨Try.underlying142, ⟨Try.t4, .bool false, by kernel_rfl, by kernel_rfl, by kernel_rfl, by kernel_rfl, by kernel_rfl⟩, by decide⟩
theorem tp_144 : TPlaces Try.prog 144 #[(0, 1), (1, 1), (2, 1)] #[.int .i64 0, .pointer none, .slice none 0 0] := tplaces Try.runUnderlying144 Try.zeroValue144 rfl (fun w => by kernel_rfl)
theorem fa_144_2 : FieldAt Try.prog 144 2 2 := fun a w => by kernel_rfl
theorem to_142 : TOne Try.prog 142 := ⟨Try.isAgg142, Try.sizeOf142⟩
theorem ts_142 : TSlice Try.prog 142 4 1 := ⟨Try.underlying142, Try.sizeOf4⟩
theorem fa_144_0 : FieldAt Try.prog 144 0 0 := fun a w => by kernel_rfl
theorem fa_144_1 : FieldAt Try.prog 144 1 1 := fun a w => by kernel_rfl
theorem to_124 : TOne Try.prog 124 := ⟨Try.isAgg124, Try.sizeOf124⟩
theorem en_94 (args : Array Value) (w : World) : (callFunc 94 args).run Try.prog w = .ok (.enter 94 args) w := by kernel_rfl
theorem en_109 (args : Array Value) (w : World) : (callFunc 109 args).run Try.prog w = .ok (.enter 109 args) w := by kernel_rfl
theorem to_4 : TOne Try.prog 4 := ⟨Try.isAgg4, Try.sizeOf4⟩
theorem en_106 (args : Array Value) (w : World) : (callFunc 106 args).run Try.prog w = .ok (.enter 106 args) w := by kernel_rfl
theorem en_107 (args : Array Value) (w : World) : (callFunc 107 args).run Try.prog w = .ok (.enter 107 args) w := by kernel_rfl
theorem en_108 (args : Array Value) (w : World) : (callFunc 108 args).run Try.prog w = .ok (.enter 108 args) w := by kernel_rfl
theorem fa_71_0 : FieldAt Try.prog 71 0 0 := fun a w => by kernel_rfl
theorem fa_71_1 : FieldAt Try.prog 71 1 1 := fun a w => by kernel_rfl
theorem fa_71_2 : FieldAt Try.prog 71 2 2 := fun a w => by kernel_rfl
theorem ta_71 : TAgg Try.prog 71 5 := ⟨Try.isAgg71, Try.sizeOf71⟩
theorem en_110 (args : Array Value) (w : World) : (callFunc 110 args).run Try.prog w = .ok (.enter 110 args) w := by kernel_rfl
theorem en_93 (args : Array Value) (w : World) : (callFunc 93 args).run Try.prog w = .ok (.enter 93 args) w := by kernel_rfl
theorem tz_71 : TZero Try.prog 71 (.agg #[.int .i64 0, .int .i64 0, .int .i64 0, .int .i64 0, .int .i64 0]) := Try.zeroValue71
theorem tp_71 : TPlaces Try.prog 71 #[(0, 1), (1, 1), (2, 1), (3, 1), (4, 1)] #[.int .i64 0, .int .i64 0, .int .i64 0, .int .i64 0, .int .i64 0] := tplaces Try.runUnderlying71 Try.zeroValue71 rfl (fun w => by kernel_rfl)
/-- Ports: their struct lies at b, its clock's at c, that one's map at r; where routers always are: a slice. -/
structure RoutesIs (h : Heap) (b c r : Nat) (rn : Int) (fv : Value) (fl : List Bool) (m : List (Int × Int)) : Prop where
  blk : Blk h b (.cells #[.int .i64 rn, .pointer (some ⟨c, 0, none⟩), fv] 144 (0, 0))
  clk : Blk h c (.cells #[.map (some r)] 159 (0, 0))
  map : MapIs h r kI kI m
  own : OwnIs h 0 4 1 encB fv fl
  bc : b ≠ c
  br : b ≠ r
  cr : c ≠ r
  fb : blockOf fv ≠ some b
  fc : blockOf fv ≠ some c
  fr : blockOf fv ≠ some r
theorem RoutesIs.ext {h h' : Heap} {b c r : Nat} {rn : Int} {fv : Value} {fl : List Bool} {m : List (Int × Int)} (k : RoutesIs h b c r rn fv fl m) (e : Ext h h') : RoutesIs h' b c r rn fv fl m := ⟨k.blk.ext e, k.clk.ext e, k.map.ext e, k.own.ext e, k.bc, k.br, k.cr, k.fb, k.fc, k.fr⟩
/-- The latest time. -/
def snow (rn now : Int) : Int := max rn (min now 1000000000000)
/-- What is not due yet. -/
def live (m : List (Int × Int)) (t : Int) : List (Int × Int) := m.filter fun p => decide (t < p.2)
theorem due_le (m : List (Int × Int)) (t : Int) : ((m.filter fun p => decide (p.2 ≤ t)).map Prod.fst).length ≤ m.length := by rw [List.length_map]; exact List.length_filter_le _ _
theorem live_le (m : List (Int × Int)) (t : Int) : (live m t).length ≤ m.length := List.length_filter_le _ _

set_option maxRecDepth 100000 in
theorem rnew_spec (n : Int) (h0 : Heap) :
    HC Try.prog 54 #[.int .i64 n] h0 fun u h' => ∃ b c r fv, u = .pointer (some ⟨b, 0, none⟩) ∧ RoutesIs h' b c r 0 fv (List.replicate (min (max n 0) 32).toNat false) [] ∧ Ext h0 h' ∧ h0.size ≤ b ∧ h0.size ≤ c ∧ h0.size ≤ r ∧ (∀ g, blockOf fv = some g → h0.size ≤ g) := by
  refine HC.of_HW (n := 10) Try.func54 rfl rfl (Nat.le_of_ble_eq_true rfl) ?_
  have hE := Ext.refl h0
  refine HW.seq ?_
  refine HW.region ?_
  refine HO.val (v := .pointer none) (want_none) rfl (q_assign rfl) ?_
  refine HO.nil (thenQ_normal (?_))
  refine HW.seq ?_
  refine HW.regionA 8 mixed (fun h => (Ext h0 h)) [] (by kernel_rfl) ?_
  refine HA.val (k := 1) (v := .int .i64 n) rfl rfl (by kernel_rfl) (by kernel_rfl) (want_none) rfl (fun _ hE => q_move rfl) ?_
  refine HA.val (k := 2) (v := .int .i64 (max n 0)) rfl rfl (by kernel_rfl) (by kernel_rfl) (want_none) rfl (fun _ hE => q_max rfl rfl) ?_
  refine HA.val (k := 3) (v := .int .i64 (min (max n 0) 32)) rfl rfl (by kernel_rfl) (by kernel_rfl) (want_none) rfl (fun _ hE => q_min rfl rfl) ?_
  refine HA.two (k := 0) (k' := 4) ⟨hE, Go.HL.at_nil _ _⟩ (by kernel_rfl) ?_ ?_
  · refine HS.call rfl (want_none) rfl (ec en_92 rfl rfl) (new_spec _) ?_
    rintro _ h1 ⟨c, r, rfl, hK, hx, hcg, hrg, hcr⟩
    replace hE := hE.trans hx
    have hxs := hx.size
    have hC := hK.at_
    have hM := hK.map
    have hcl := hC.lt
    have hrl := hM.lt
    refine HA.one (k := 4) ⟨hE, Go.HL.at_nil _ _⟩ (by kernel_rfl) ?_
    refine HS.eff rfl (want_none) rfl (e_makeSlice (base := 0) (enc := encB) ((min (max n 0) 32).toNat) false te_142 tz_4 rfl rfl (by omega) (by omega) (by omega) (Nat.zero_le _)) ?_
    rintro _ h2 ⟨b1, _, rfl, hn, hOb1⟩
    replace hE := hE.trans hn.ext
    replace hC := hC.ext hn.ext
    replace hM := hM.ext hn.ext
    have hb1a := hn.at_; have hb1s := hn.size; clear hn
    refine HA.val (k := 5) (v := .agg #[.int .i64 0, .pointer (some ⟨c, 0, none⟩), .slice (some ⟨b1, 0, none⟩) ((min (max n 0) 32).toNat) ((min (max n 0) 32).toNat)]) rfl rfl (by kernel_rfl) (by kernel_rfl) (want_none) rfl (fun _ hE => q_build tp_144 rfl) ?_
    refine HA.one (k := 6) ⟨hE, Go.HL.at_nil _ _⟩ (by kernel_rfl) ?_
    refine HS.eff rfl (want_none) rfl (e_box (c := #[.int .i64 0, .pointer (some ⟨c, 0, none⟩), .slice (some ⟨b1, 0, none⟩) ((min (max n 0) 32).toNat) ((min (max n 0) 32).toNat)]) (k' := 3) rfl rfl) ?_
    rintro _ h3 ⟨b2, rfl, hn⟩
    have hnehOb1_b2 := hOb1.ne_ge (Nat.le_of_eq hn.at_.symm)
    replace hE := hE.trans hn.ext
    replace hC := hC.ext hn.ext
    replace hM := hM.ext hn.ext
    replace hOb1 := hOb1.ext hn.ext
    have hb2 : Blk h3 b2 (.cells #[.int .i64 0, .pointer (some ⟨c, 0, none⟩), .slice (some ⟨b1, 0, none⟩) ((min (max n 0) 32).toNat) ((min (max n 0) 32).toNat)] 144 (0, 0)) := hn.blk
    have hb2a := hn.at_; have hb2s := hn.size; clear hn
    refine HA.val (k := 7) (v := .pointer (some ⟨b2, 0, none⟩)) rfl rfl (by kernel_rfl) (by kernel_rfl) (want_none) rfl (fun _ hE => q_assign rfl) ?_
    refine HA.nil ⟨hE, Go.HL.at_nil _ _⟩ (by kernel_rfl) (thenQ_normal (?_))
    refine HW.ret (?_)
    refine ⟨.inr rfl, .pointer (some ⟨b2, 0, none⟩), res_one rfl rfl, ?_⟩
    exact ⟨_, _, _, _, rfl, ⟨hb2, hC, hM, hOb1, by omega, by omega, hcr, by simp [blockOf]; omega, by simp [blockOf]; omega, by simp [blockOf]; omega⟩, hE, by omega, by omega, by omega, by simp [blockOf]; omega⟩
  · refine HS.eff rfl (want_none) rfl (e_makeSlice (base := 0) (enc := encB) ((min (max n 0) 32).toNat) false te_142 tz_4 rfl rfl (by omega) (by omega) (by omega) (Nat.zero_le _)) ?_
    rintro _ h4 ⟨b3, _, rfl, hn, hOb3⟩
    replace hE := hE.trans hn.ext
    have hb3a := hn.at_; have hb3s := hn.size; clear hn
    refine HA.one (k := 0) ⟨hE, Go.HL.at_nil _ _⟩ (by kernel_rfl) ?_
    refine HS.call rfl (want_none) rfl (ec en_92 rfl rfl) (new_spec _) ?_
    rintro _ h5 ⟨c, r, rfl, hK, hx, hcg, hrg, hcr⟩
    replace hE := hE.trans hx
    replace hOb3 := hOb3.ext hx
    have hxs := hx.size
    have hC := hK.at_
    have hM := hK.map
    have hcl := hC.lt
    have hrl := hM.lt
    refine HA.val (k := 5) (v := .agg #[.int .i64 0, .pointer (some ⟨c, 0, none⟩), .slice (some ⟨b3, 0, none⟩) ((min (max n 0) 32).toNat) ((min (max n 0) 32).toNat)]) rfl rfl (by kernel_rfl) (by kernel_rfl) (want_none) rfl (fun _ hE => q_build tp_144 rfl) ?_
    refine HA.one (k := 6) ⟨hE, Go.HL.at_nil _ _⟩ (by kernel_rfl) ?_
    refine HS.eff rfl (want_none) rfl (e_box (c := #[.int .i64 0, .pointer (some ⟨c, 0, none⟩), .slice (some ⟨b3, 0, none⟩) ((min (max n 0) 32).toNat) ((min (max n 0) 32).toNat)]) (k' := 3) rfl rfl) ?_
    rintro _ h6 ⟨b4, rfl, hn⟩
    have hnehOb3_b4 := hOb3.ne_ge (Nat.le_of_eq hn.at_.symm)
    replace hE := hE.trans hn.ext
    replace hOb3 := hOb3.ext hn.ext
    replace hC := hC.ext hn.ext
    replace hM := hM.ext hn.ext
    have hb4 : Blk h6 b4 (.cells #[.int .i64 0, .pointer (some ⟨c, 0, none⟩), .slice (some ⟨b3, 0, none⟩) ((min (max n 0) 32).toNat) ((min (max n 0) 32).toNat)] 144 (0, 0)) := hn.blk
    have hb4a := hn.at_; have hb4s := hn.size; clear hn
    refine HA.val (k := 7) (v := .pointer (some ⟨b4, 0, none⟩)) rfl rfl (by kernel_rfl) (by kernel_rfl) (want_none) rfl (fun _ hE => q_assign rfl) ?_
    refine HA.nil ⟨hE, Go.HL.at_nil _ _⟩ (by kernel_rfl) (thenQ_normal (?_))
    refine HW.ret (?_)
    refine ⟨.inr rfl, .pointer (some ⟨b4, 0, none⟩), res_one rfl rfl, ?_⟩
    exact ⟨_, _, _, _, rfl, ⟨hb4, hC, hM, hOb3, by omega, by omega, hcr, by simp [blockOf]; omega, by simp [blockOf]; omega, by simp [blockOf]; omega⟩, hE, by omega, by omega, by omega, by simp [blockOf]; omega⟩

set_option maxRecDepth 100000 in
theorem in_nil (port : Int) (h0 : Heap) :
    HC Try.prog 106 #[.pointer none, .int .i64 port] h0 fun u h' => u = .bool false ∧ h' = h0 := by
  refine HC.of_HW (n := 20) Try.func106 rfl rfl (Nat.le_of_ble_eq_true rfl) ?_
  refine HW.seq ?_
  refine HW.region ?_
  refine HO.val (v := .bool false) (want_none) rfl (q_assign rfl) ?_
  refine HO.nil (thenQ_normal (?_))
  refine HW.seq ?_
  refine HW.region ?_
  refine HO.val (v := .pointer none) (want_none) rfl (q_move rfl) ?_
  refine HO.val (v := .bool false) (want_none) rfl (q_neqPnil Try.underlying75 rfl rfl rfl) ?_
  refine HO.val (v := .bool false) (want_none) rfl (q_move rfl) ?_
  refine HO.past (past_some rfl rfl) rfl ?_
  refine HO.past (past_some rfl rfl) rfl ?_
  refine HO.val (v := .bool false) (want_none) rfl (q_pick rfl rfl) ?_
  refine HO.val (v := .bool false) (want_none) rfl (q_move rfl) ?_
  refine HO.past (past_some rfl rfl) rfl ?_
  refine HO.past (past_some rfl rfl) rfl ?_
  refine HO.past (past_some rfl rfl) rfl ?_
  refine HO.past (past_some rfl rfl) rfl ?_
  refine HO.past (past_some rfl rfl) rfl ?_
  refine HO.past (past_some rfl rfl) rfl ?_
  refine HO.past (past_some rfl rfl) rfl ?_
  refine HO.val (v := .bool false) (want_none) rfl (q_pick rfl rfl) ?_
  refine HO.val (v := .bool false) (want_none) rfl (q_assign rfl) ?_
  refine HO.nil (thenQ_normal (?_))
  refine HW.ret (?_)
  refine ⟨.inr rfl, .bool false, res_one rfl rfl, ?_⟩
  exact ⟨rfl, rfl⟩

set_option maxRecDepth 100000 in
theorem in_spec (b c r : Nat) (rn : Int) (fv : Value) (fl : List Bool) (m : List (Int × Int)) (h0 : Heap) (hI : RoutesIs h0 b c r rn fv fl m) (port : Int) :
    HC Try.prog 106 #[.pointer (some ⟨b, 0, none⟩), .int .i64 port] h0 fun u h' => u = .bool (decide (0 ≤ port ∧ port < (fl.length : Int))) ∧ h' = h0 := by
  refine HC.of_HW (n := 20) Try.func106 rfl rfl (Nat.le_of_ble_eq_true rfl) ?_
  obtain ⟨hR, hC, hM, hF, hbc, hbr, hcr, hfb, hfc, hfr⟩ := hI
  refine HW.seq ?_
  refine HW.region ?_
  refine HO.val (v := .bool false) (want_none) rfl (q_assign rfl) ?_
  refine HO.nil (thenQ_normal (?_))
  refine HW.seq ?_
  refine HW.region ?_
  refine HO.val (v := .pointer (some ⟨b, 0, none⟩)) (want_none) rfl (q_move rfl) ?_
  refine HO.val (v := .bool true) (want_none) rfl (q_neqPnil Try.underlying75 rfl rfl rfl) ?_
  refine HO.val (v := .bool true) (want_none) rfl (q_move rfl) ?_
  refine HO.val (v := .int .i64 port) (want_some rfl rfl) rfl (q_move rfl) ?_
  refine HO.val (v := .bool (decide (0 ≤ port))) (want_some rfl rfl) rfl (q_geq rfl rfl) ?_
  refine HO.val (v := .bool (decide (0 ≤ port))) (want_none) rfl (q_pick rfl rfl) ?_
  refine HO.val (v := .bool (decide (0 ≤ port))) (want_none) rfl (q_move rfl) ?_
  rcases Bool.eq_false_or_eq_true (decide (0 ≤ port)) with g1 | g1
  · have g1p := of_decide_eq_true g1
    refine HO.val (v := .int .i64 port) (want_by rfl rfl g1) rfl (q_move rfl) ?_
    refine HO.val (v := .pointer (some ⟨b, 0, none⟩)) (want_by rfl rfl g1) rfl (q_move rfl) ?_
    refine HO.val (v := .pointer (some ⟨b, 0, none⟩)) (want_by rfl rfl g1) rfl (q_nilCheck rfl) ?_
    refine HO.val (v := .pointer (some ⟨b, 2, none⟩)) (want_by rfl rfl g1) rfl (q_fieldAddr fa_144_2 rfl rfl) ?_
    refine HO.val (v := fv) (want_by rfl rfl g1) rfl (q_load to_142 rfl (Blk.cell hR rfl)) ?_
    refine HO.val (v := .int .i64 ((fl.length : Nat) : Int)) (want_by rfl rfl g1) rfl (q_len ts_142 hF.slice rfl rfl) ?_
    refine HO.val (v := .bool (decide (port < ((fl.length : Nat) : Int)))) (want_by rfl rfl g1) rfl (q_lss rfl rfl) ?_
    refine HO.val (v := .bool (decide (port < ((fl.length : Nat) : Int)))) (want_none) rfl (q_pickK true rfl g1 rfl) ?_
    refine HO.val (v := .bool (decide (port < ((fl.length : Nat) : Int)))) (want_none) rfl (q_assign rfl) ?_
    refine HO.nil (thenQ_normal (?_))
    refine HW.ret (?_)
    refine ⟨.inr rfl, .bool (decide (port < ((fl.length : Nat) : Int))), res_one rfl rfl, ?_⟩
    exact ⟨by congr 1; rw [Bool.eq_iff_iff]; simp; omega, rfl⟩
  · have g1p := of_decide_eq_false g1
    refine HO.past (past_by rfl rfl g1) rfl ?_
    refine HO.past (past_by rfl rfl g1) rfl ?_
    refine HO.past (past_by rfl rfl g1) rfl ?_
    refine HO.past (past_by rfl rfl g1) rfl ?_
    refine HO.past (past_by rfl rfl g1) rfl ?_
    refine HO.past (past_by rfl rfl g1) rfl ?_
    refine HO.past (past_by rfl rfl g1) rfl ?_
    refine HO.val (v := .bool false) (want_none) rfl (q_pickK false rfl g1 rfl) ?_
    refine HO.val (v := .bool false) (want_none) rfl (q_assign rfl) ?_
    refine HO.nil (thenQ_normal (?_))
    refine HW.ret (?_)
    refine ⟨.inr rfl, .bool false, res_one rfl rfl, ?_⟩
    exact ⟨by congr 1; rw [Bool.eq_iff_iff]; simp; omega, rfl⟩

set_option maxRecDepth 100000 in
theorem settle_spec (b c r : Nat) (rn : Int) (fv : Value) (fl : List Bool) (m : List (Int × Int)) (h0 : Heap) (hI : RoutesIs h0 b c r rn fv fl m) (now : Int) (hml : m.length ≤ 12) :
    HC Try.prog 107 #[.pointer (some ⟨b, 0, none⟩), .int .i64 now] h0 fun u h' => u = .int .i64 (snow rn now) ∧ RoutesIs h' b c r (snow rn now) fv fl (live m (snow rn now)) ∧ OnlyL [b, r] h0 h' := by
  refine HC.of_HW (n := 28) Try.func107 rfl rfl (Nat.le_of_ble_eq_true rfl) ?_
  obtain ⟨hR, hC, hM, hF, hbc, hbr, hcr, hfb, hfc, hfr⟩ := hI
  have hX := OnlyL.refl [b, r] h0
  refine HW.seq ?_
  refine HW.region ?_
  refine HO.val (v := .int .i64 0) (want_none) rfl (q_assign rfl) ?_
  refine HO.nil (thenQ_normal (?_))
  refine HW.seq ?_
  refine HW.region ?_
  refine HO.val (v := .pointer (some ⟨b, 0, none⟩)) (want_none) rfl (q_move rfl) ?_
  refine HO.val (v := .pointer (some ⟨b, 0, none⟩)) (want_none) rfl (q_move rfl) ?_
  refine HO.val (v := .pointer (some ⟨b, 0, none⟩)) (want_none) rfl (q_nilCheck rfl) ?_
  refine HO.val (v := .pointer (some ⟨b, 0, none⟩)) (want_none) rfl (q_fieldAddr fa_144_0 rfl rfl) ?_
  refine HO.val (v := .int .i64 rn) (want_none) rfl (q_load to_3 rfl (Blk.cell hR rfl)) ?_
  refine HO.val (v := .int .i64 now) (want_none) rfl (q_move rfl) ?_
  refine HO.val (v := .int .i64 (min now 1000000000000)) (want_none) rfl (q_min rfl rfl) ?_
  refine HO.val (v := .int .i64 (max rn (min now 1000000000000))) (want_none) rfl (q_max rfl rfl) ?_
  refine HO.val (v := .pointer (some ⟨b, 0, none⟩)) (want_none) rfl (q_nilCheck rfl) ?_
  refine HO.val (v := .pointer (some ⟨b, 0, none⟩)) (want_none) rfl (q_fieldAddr fa_144_0 rfl rfl) ?_
  refine HO.sto (want_none) rfl (s_store (c' := #[.int .i64 (max rn (min now 1000000000000)), .pointer (some ⟨c, 0, none⟩), fv]) to_3 hR rfl rfl rfl rfl (Nat.le_of_ble_eq_true rfl) rfl) ?_
  rintro h1 hu
  replace hC := hC.upd hu hbc.symm
  replace hM := hM.upd hu hbr.symm
  replace hF := hF.upd hu hfb
  replace hX := hX.upd hu (by simp)
  replace hR : Blk h1 b (.cells #[.int .i64 (max rn (min now 1000000000000)), .pointer (some ⟨c, 0, none⟩), fv] 144 (0, 0)) := hu.blk rfl
  have hus := hu.size; clear hu
  refine HO.nil (thenQ_normal (?_))
  refine HW.seq ?_
  refine HW.regionD 9 mixed (fun h => (Blk h b (.cells #[.int .i64 (max rn (min now 1000000000000)), .pointer (some ⟨c, 0, none⟩), fv] 144 (0, 0)))) [] [(0, true), (1, true), (2, true), (3, true), (4, true), (5, true), (6, true), (7, true), (8, false)] (by kernel_rfl) ?_
  refine HM.val (v := .pointer (some ⟨b, 0, none⟩)) rfl rfl (want_none) rfl (fun _ hR => q_move rfl) ?_
  refine HM.val (v := .pointer (some ⟨b, 0, none⟩)) rfl rfl (want_none) rfl (fun _ hR => q_nilCheck rfl) ?_
  refine HM.val (v := .pointer (some ⟨b, 1, none⟩)) rfl rfl (want_none) rfl (fun _ hR => q_fieldAddr fa_144_1 rfl rfl) ?_
  refine HM.val (v := .pointer (some ⟨c, 0, none⟩)) rfl rfl (want_none) rfl (fun _ hR => q_load to_124 rfl (Blk.cell hR rfl)) ?_
  refine HM.val (v := .pointer (some ⟨b, 0, none⟩)) rfl rfl (want_none) rfl (fun _ hR => q_move rfl) ?_
  refine HM.val (v := .pointer (some ⟨b, 0, none⟩)) rfl rfl (want_none) rfl (fun _ hR => q_nilCheck rfl) ?_
  refine HM.val (v := .pointer (some ⟨b, 0, none⟩)) rfl rfl (want_none) rfl (fun _ hR => q_fieldAddr fa_144_0 rfl rfl) ?_
  refine HM.val (v := .int .i64 (max rn (min now 1000000000000))) rfl rfl (want_none) rfl (fun _ hR => q_load to_3 rfl (Blk.cell hR rfl)) ?_
  refine HM.call ⟨hR, Go.HL.at_nil _ _⟩ rfl (want_none) rfl (ec en_94 rfl rfl) (pop_spec c r m _ hC hM (max rn (min now 1000000000000)) hcr (by omega) (Nat.le_trans (due_le _ _) (by omega))) ?_
  rintro v h2 ⟨l, hd, hO, hK, hx⟩
  replace hF := hF.only hx hfr
  replace hX := hX.only hx (by simp)
  replace hR := hR.only hx hbr
  replace hC := hK.at_
  replace hM := hK.map
  refine HM.nil ⟨hR, Go.HL.at_nil _ _⟩ (thenQ_normal (?_))
  refine HW.seq ?_
  refine HW.region ?_
  refine HO.val (v := .pointer (some ⟨b, 0, none⟩)) (want_none) rfl (q_move rfl) ?_
  refine HO.val (v := .pointer (some ⟨b, 0, none⟩)) (want_none) rfl (q_nilCheck rfl) ?_
  refine HO.val (v := .pointer (some ⟨b, 0, none⟩)) (want_none) rfl (q_fieldAddr fa_144_0 rfl rfl) ?_
  refine HO.val (v := .int .i64 (max rn (min now 1000000000000))) (want_none) rfl (q_load to_3 rfl (Blk.cell hR rfl)) ?_
  refine HO.val (v := .int .i64 (max rn (min now 1000000000000))) (want_none) rfl (q_assign rfl) ?_
  refine HO.nil (thenQ_normal (?_))
  refine HW.ret (?_)
  refine ⟨.inr rfl, .int .i64 (max rn (min now 1000000000000)), res_one rfl rfl, ?_⟩
  exact ⟨rfl, ⟨hR, hC, hM, hF, hbc, hbr, hcr, hfb, hfc, hfr⟩, hX⟩

set_option maxRecDepth 100000 in
theorem isin_spec (b c r : Nat) (rn : Int) (fv : Value) (fl : List Bool) (m : List (Int × Int)) (h0 : Heap) (hI : RoutesIs h0 b c r rn fv fl m) (i : Nat) (hi : i < fl.length) :
    HC Try.prog 108 #[.pointer (some ⟨b, 0, none⟩), .int .i64 ((i : Nat) : Int)] h0 fun u h' => u = .bool ((mget m ((i : Nat) : Int)).isSome || fl[i]) ∧ h' = h0 := by
  refine HC.of_HW (n := 26) Try.func108 rfl rfl (Nat.le_of_ble_eq_true rfl) ?_
  obtain ⟨hR, hC, hM, hF, hbc, hbr, hcr, hfb, hfc, hfr⟩ := hI
  refine HW.seq ?_
  refine HW.region ?_
  refine HO.val (v := .bool false) (want_none) rfl (q_assign rfl) ?_
  refine HO.nil (thenQ_normal (?_))
  refine HW.seq ?_
  refine HW.region ?_
  refine HO.val (v := .pointer (some ⟨b, 0, none⟩)) (want_none) rfl (q_move rfl) ?_
  refine HO.val (v := .pointer (some ⟨b, 0, none⟩)) (want_none) rfl (q_nilCheck rfl) ?_
  refine HO.val (v := .pointer (some ⟨b, 1, none⟩)) (want_none) rfl (q_fieldAddr fa_144_1 rfl rfl) ?_
  refine HO.val (v := .pointer (some ⟨c, 0, none⟩)) (want_none) rfl (q_load to_124 rfl (Blk.cell hR rfl)) ?_
  refine HO.val (v := .int .i64 ((i : Nat) : Int)) (want_none) rfl (q_move rfl) ?_
  refine HO.call (want_none) rfl (ec en_109 rfl rfl) (at_spec c r m _ hC hM ((i : Nat) : Int)) ?_
  rintro _ _ ⟨rfl, rfl⟩
  refine HO.val (v := .tuple #[.int .i64 (mgetI m ((i : Nat) : Int)), .bool ((mget m ((i : Nat) : Int)).isSome)]) (want_none) rfl (q_move rfl) ?_
  refine HO.val (v := .int .i64 (mgetI m ((i : Nat) : Int))) (want_none) rfl (q_extract rfl rfl) ?_
  refine HO.val (v := .bool ((mget m ((i : Nat) : Int)).isSome)) (want_none) rfl (q_extract rfl rfl) ?_
  refine HO.val (v := .int .i64 (mgetI m ((i : Nat) : Int))) (want_none) rfl (q_assign rfl) ?_
  refine HO.val (v := .bool ((mget m ((i : Nat) : Int)).isSome)) (want_none) rfl (q_assign rfl) ?_
  refine HO.nil (thenQ_normal (?_))
  refine HW.seq ?_
  refine HW.region ?_
  refine HO.val (v := .bool ((mget m ((i : Nat) : Int)).isSome)) (want_none) rfl (q_move rfl) ?_
  refine HO.val (v := .bool ((mget m ((i : Nat) : Int)).isSome)) (want_none) rfl (q_move rfl) ?_
  rcases Bool.eq_false_or_eq_true ((mget m ((i : Nat) : Int)).isSome) with g1 | g1
  · refine HO.past (past_by rfl rfl g1) rfl ?_
    refine HO.past (past_by rfl rfl g1) rfl ?_
    refine HO.past (past_by rfl rfl g1) rfl ?_
    refine HO.past (past_by rfl rfl g1) rfl ?_
    refine HO.past (past_by rfl rfl g1) rfl ?_
    refine HO.past (past_by rfl rfl g1) rfl ?_
    refine HO.past (past_by rfl rfl g1) rfl ?_
    refine HO.val (v := .bool true) (want_none) rfl (q_pickK true rfl g1 rfl) ?_
    refine HO.val (v := .bool true) (want_none) rfl (q_assign rfl) ?_
    refine HO.nil (thenQ_normal (?_))
    refine HW.ret (?_)
    refine ⟨.inr rfl, .bool true, res_one rfl rfl, ?_⟩
    exact ⟨by simp [g1], rfl⟩
  · refine HO.val (v := .pointer (some ⟨b, 0, none⟩)) (want_by rfl rfl g1) rfl (q_move rfl) ?_
    refine HO.val (v := .pointer (some ⟨b, 0, none⟩)) (want_by rfl rfl g1) rfl (q_nilCheck rfl) ?_
    refine HO.val (v := .pointer (some ⟨b, 2, none⟩)) (want_by rfl rfl g1) rfl (q_fieldAddr fa_144_2 rfl rfl) ?_
    refine HO.val (v := fv) (want_by rfl rfl g1) rfl (q_load to_142 rfl (Blk.cell hR rfl)) ?_
    refine HO.val (v := .int .i64 ((i : Nat) : Int)) (want_by rfl rfl g1) rfl (q_move rfl) ?_
    refine HO.val (v := elemPtr 1 fv i) (want_by rfl rfl g1) rfl (q_indexAddr (i := i) ts_142 hF.slice rfl rfl (by omega)) ?_
    refine HO.val (v := .bool (fl[i])) (want_by rfl rfl g1) rfl (q_loadElem to_4 hF.slice rfl (by omega) rfl) ?_
    refine HO.val (v := .bool (fl[i])) (want_none) rfl (q_pickK false rfl g1 rfl) ?_
    refine HO.val (v := .bool (fl[i])) (want_none) rfl (q_assign rfl) ?_
    refine HO.nil (thenQ_normal (?_))
    refine HW.ret (?_)
    refine ⟨.inr rfl, .bool (fl[i]), res_one rfl rfl, ?_⟩
    exact ⟨by simp [g1], rfl⟩

set_option maxRecDepth 100000 in
theorem ris_nil (now port : Int) (h0 : Heap) :
    HC Try.prog 55 #[.pointer none, .int .i64 now, .int .i64 port] h0 fun u h' => u = .bool false ∧ h' = h0 := by
  refine HC.of_HW (n := 17) Try.func55 rfl rfl (Nat.le_of_ble_eq_true rfl) ?_
  refine HW.seq ?_
  refine HW.region ?_
  refine HO.val (v := .bool false) (want_none) rfl (q_assign rfl) ?_
  refine HO.nil (thenQ_normal (?_))
  refine HW.seq ?_
  refine HW.seq ?_
  refine HW.region ?_
  refine HO.val (v := .pointer none) (want_none) rfl (q_move rfl) ?_
  refine HO.val (v := .int .i64 port) (want_none) rfl (q_move rfl) ?_
  refine HO.call (want_none) rfl (ec en_106 rfl rfl) (in_nil port _) ?_
  rintro _ _ ⟨rfl, rfl⟩
  refine HO.val (v := .bool true) (want_none) rfl (q_not (b := false) rfl) ?_
  refine HO.nil (thenQ_normal (?_))
  refine HW.condT rfl ?_
  refine HW.seq ?_
  refine HW.region ?_
  refine HO.val (v := .bool false) (want_none) rfl (q_assign rfl) ?_
  refine HO.nil (thenQ_normal (?_))
  refine HW.ret (thenQ_ret (?_))
  refine ⟨.inr rfl, .bool false, res_one rfl rfl, ?_⟩
  exact ⟨rfl, rfl⟩

set_option maxRecDepth 100000 in
theorem ris_spec (b c r : Nat) (rn : Int) (fv : Value) (fl : List Bool) (m : List (Int × Int)) (h0 : Heap) (hI : RoutesIs h0 b c r rn fv fl m) (now : Int) (hml : m.length ≤ 12) (i : Nat) (hi : i < fl.length) :
    HC Try.prog 55 #[.pointer (some ⟨b, 0, none⟩), .int .i64 now, .int .i64 ((i : Nat) : Int)] h0 fun u h' => u = .bool ((mget (live m (snow rn now)) ((i : Nat) : Int)).isSome || fl[i]) ∧ RoutesIs h' b c r (snow rn now) fv fl (live m (snow rn now)) ∧ OnlyL [b, r] h0 h' := by
  refine HC.of_HW (n := 17) Try.func55 rfl rfl (Nat.le_of_ble_eq_true rfl) ?_
  obtain ⟨hR, hC, hM, hF, hbc, hbr, hcr, hfb, hfc, hfr⟩ := hI
  have hX := OnlyL.refl [b, r] h0
  refine HW.seq ?_
  refine HW.region ?_
  refine HO.val (v := .bool false) (want_none) rfl (q_assign rfl) ?_
  refine HO.nil (thenQ_normal (?_))
  refine HW.seq ?_
  refine HW.seq ?_
  refine HW.region ?_
  refine HO.val (v := .pointer (some ⟨b, 0, none⟩)) (want_none) rfl (q_move rfl) ?_
  refine HO.val (v := .int .i64 ((i : Nat) : Int)) (want_none) rfl (q_move rfl) ?_
  refine HO.call (want_none) rfl (ec en_106 rfl rfl) (in_spec b c r _ fv fl _ _ ⟨hR, hC, hM, hF, hbc, hbr, hcr, hfb, hfc, hfr⟩ ((i : Nat) : Int)) ?_
  rintro _ _ ⟨rfl, rfl⟩
  refine HO.val (v := .bool (!(decide (0 ≤ ((i : Nat) : Int) ∧ ((i : Nat) : Int) < (fl.length : Int))))) (want_none) rfl (q_not rfl) ?_
  refine HO.nil (thenQ_normal (?_))
  have k1 : (decide (0 ≤ ((i : Nat) : Int) ∧ ((i : Nat) : Int) < (fl.length : Int))) = true := by rw [decide_eq_true_eq]; omega
  refine HW.condK false rfl (by rw [k1]; rfl) ?_
  refine HW.skip (thenQ_normal (?_))
  refine HW.seq ?_
  refine HW.region ?_
  refine HO.val (v := .pointer (some ⟨b, 0, none⟩)) (want_none) rfl (q_move rfl) ?_
  refine HO.val (v := .int .i64 now) (want_none) rfl (q_move rfl) ?_
  refine HO.call (want_none) rfl (ec en_107 rfl rfl) (settle_spec b c r rn fv fl m _ ⟨hR, hC, hM, hF, hbc, hbr, hcr, hfb, hfc, hfr⟩ now hml) ?_
  rintro _ h1 ⟨rfl, hI', hx⟩
  replace hX := hX.trans hx
  obtain ⟨hR, hC, hM, hF, hbc, hbr, hcr, hfb, hfc, hfr⟩ := hI'
  have hxs := hx.size
  refine HO.nil (thenQ_normal (?_))
  refine HW.seq ?_
  refine HW.region ?_
  refine HO.val (v := .pointer (some ⟨b, 0, none⟩)) (want_none) rfl (q_move rfl) ?_
  refine HO.val (v := .int .i64 ((i : Nat) : Int)) (want_none) rfl (q_move rfl) ?_
  refine HO.call (want_none) rfl (ec en_108 rfl rfl) (isin_spec b c r _ fv fl _ _ (⟨hR, hC, hM, hF, hbc, hbr, hcr, hfb, hfc, hfr⟩) i hi) ?_
  rintro _ _ ⟨rfl, rfl⟩
  refine HO.val (v := .bool ((mget (live m (snow rn now)) ((i : Nat) : Int)).isSome || fl[i])) (want_none) rfl (q_assign rfl) ?_
  refine HO.nil (thenQ_normal (?_))
  refine HW.ret (?_)
  refine ⟨.inr rfl, .bool ((mget (live m (snow rn now)) ((i : Nat) : Int)).isSome || fl[i]), res_one rfl rfl, ?_⟩
  exact ⟨rfl, ⟨hR, hC, hM, hF, hbc, hbr, hcr, hfb, hfc, hfr⟩, hX⟩

set_option maxRecDepth 100000 in
theorem ris_out (b c r : Nat) (rn : Int) (fv : Value) (fl : List Bool) (m : List (Int × Int)) (h0 : Heap) (hI : RoutesIs h0 b c r rn fv fl m) (now port : Int) (hp : ¬ (0 ≤ port ∧ port < (fl.length : Int))) :
    HC Try.prog 55 #[.pointer (some ⟨b, 0, none⟩), .int .i64 now, .int .i64 port] h0 fun u h' => u = .bool false ∧ h' = h0 := by
  refine HC.of_HW (n := 17) Try.func55 rfl rfl (Nat.le_of_ble_eq_true rfl) ?_
  obtain ⟨hR, hC, hM, hF, hbc, hbr, hcr, hfb, hfc, hfr⟩ := hI
  have hX := OnlyL.refl [b, r] h0
  refine HW.seq ?_
  refine HW.region ?_
  refine HO.val (v := .bool false) (want_none) rfl (q_assign rfl) ?_
  refine HO.nil (thenQ_normal (?_))
  refine HW.seq ?_
  refine HW.seq ?_
  refine HW.region ?_
  refine HO.val (v := .pointer (some ⟨b, 0, none⟩)) (want_none) rfl (q_move rfl) ?_
  refine HO.val (v := .int .i64 port) (want_none) rfl (q_move rfl) ?_
  refine HO.call (want_none) rfl (ec en_106 rfl rfl) (in_spec b c r _ fv fl _ _ ⟨hR, hC, hM, hF, hbc, hbr, hcr, hfb, hfc, hfr⟩ port) ?_
  rintro _ _ ⟨rfl, rfl⟩
  refine HO.val (v := .bool (!(decide (0 ≤ port ∧ port < (fl.length : Int))))) (want_none) rfl (q_not rfl) ?_
  refine HO.nil (thenQ_normal (?_))
  have k1 : (decide (0 ≤ port ∧ port < (fl.length : Int))) = false := by rw [decide_eq_false_iff_not]; omega
  refine HW.condK true rfl (by rw [k1]; rfl) ?_
  refine HW.seq ?_
  refine HW.region ?_
  refine HO.val (v := .bool false) (want_none) rfl (q_assign rfl) ?_
  refine HO.nil (thenQ_normal (?_))
  refine HW.ret (thenQ_ret (?_))
  refine ⟨.inr rfl, .bool false, res_one rfl rfl, ?_⟩
  exact ⟨rfl, rfl⟩

/-- How long another querier is there. -/
def other (t0 t1 t2 : Int) : Int := t0 * t1 + t2.tdiv 2
theorem other_bd {t0 t1 t2 : Int} (ht : 1 ≤ t0 ∧ t0 ≤ 7 ∧ 1 ≤ t1 ∧ t1 ≤ 317440 ∧ 1 ≤ t2 ∧ t2 ≤ 31744) : 1 ≤ other t0 t1 t2 ∧ other t0 t1 t2 ≤ 2300000 := by
  obtain ⟨h1, h2, h3, h4, h5, h6⟩ := ht
  unfold other
  have h7 : 1 * 1 ≤ t0 * t1 := Int.mul_le_mul h1 h3 (by omega) (by omega)
  have h8 : t0 * t1 ≤ 7 * 317440 := Int.mul_le_mul h2 h4 (by omega) (by omega)
  rw [Int.tdiv_eq_ediv_of_nonneg (by omega)]
  omega
theorem mul_bd {t0 t1 : Int} {a : Prop} (ht : 1 ≤ t0 ∧ t0 ≤ 7 ∧ 1 ≤ t1 ∧ t1 ≤ 317440 ∧ a) : 1 ≤ t0 * t1 ∧ t0 * t1 ≤ 2222080 := by
  obtain ⟨h1, h2, h3, h4, _⟩ := ht
  have h7 : 1 * 1 ≤ t0 * t1 := Int.mul_le_mul h1 h3 (by omega) (by omega)
  have h8 : t0 * t1 ≤ 7 * 317440 := Int.mul_le_mul h2 h4 (by omega) (by omega)
  omega

set_option maxRecDepth 100000 in
theorem tother_spec (t0 t1 t2 t3 t4 : Int) (h0 : Heap) (ht : 1 ≤ t0 ∧ t0 ≤ 7 ∧ 1 ≤ t1 ∧ t1 ≤ 317440 ∧ 1 ≤ t2 ∧ t2 ≤ 31744) :
    HC Try.prog 110 #[.agg #[.int .i64 t0, .int .i64 t1, .int .i64 t2, .int .i64 t3, .int .i64 t4]] h0 fun u h' => u = .int .i64 (other t0 t1 t2) ∧ Ext h0 h' := by
  refine HC.of_HW (n := 12) Try.func110 rfl rfl (Nat.le_of_ble_eq_true rfl) ?_
  have hE := Ext.refl h0
  refine HW.seq ?_
  refine HW.region ?_
  refine HO.eff (want_none) rfl (e_box (c := #[.int .i64 t0, .int .i64 t1, .int .i64 t2, .int .i64 t3, .int .i64 t4]) (k' := 5) rfl rfl) ?_
  rintro _ h1 ⟨b1, rfl, hn⟩
  replace hE := hE.trans hn.ext
  have hb1 : Blk h1 b1 (.cells #[.int .i64 t0, .int .i64 t1, .int .i64 t2, .int .i64 t3, .int .i64 t4] 71 (0, 0)) := hn.blk
  have hb1a := hn.at_; have hb1s := hn.size; clear hn
  refine HO.val (v := .int .i64 0) (want_none) rfl (q_assign rfl) ?_
  refine HO.nil (thenQ_normal (?_))
  refine HW.seq ?_
  refine HW.region ?_
  refine HO.val (v := .pointer (some ⟨b1, 0, none⟩)) (want_none) rfl (q_fieldAddr fa_71_0 rfl rfl) ?_
  refine HO.val (v := .int .i64 t0) (want_none) rfl (q_load to_3 rfl (Blk.cell hb1 rfl)) ?_
  refine HO.val (v := .pointer (some ⟨b1, 1, none⟩)) (want_none) rfl (q_fieldAddr fa_71_1 rfl rfl) ?_
  refine HO.val (v := .int .i64 t1) (want_none) rfl (q_load to_3 rfl (Blk.cell hb1 rfl)) ?_
  refine HO.val (v := .int .i64 (t0 * t1)) (want_none) rfl (q_mulN (t0 * t1) rfl rfl rfl (by have := mul_bd ht; omega) (by have := mul_bd ht; omega)) ?_
  refine HO.val (v := .pointer (some ⟨b1, 2, none⟩)) (want_none) rfl (q_fieldAddr fa_71_2 rfl rfl) ?_
  refine HO.val (v := .int .i64 t2) (want_none) rfl (q_load to_3 rfl (Blk.cell hb1 rfl)) ?_
  refine HO.val (v := .int .i64 (t2.tdiv 2)) (want_none) rfl (q_quoN _ rfl rfl (by decide) rfl (by rw [Int.tdiv_eq_ediv_of_nonneg (by omega)]; omega) (by rw [Int.tdiv_eq_ediv_of_nonneg (by omega)]; omega)) ?_
  refine HO.val (v := .int .i64 ((t0 * t1) + (t2.tdiv 2))) (want_none) rfl (q_addN ((t0 * t1) + (t2.tdiv 2)) rfl rfl rfl (by have := other_bd ht; unfold other at this; omega) (by have := other_bd ht; unfold other at this; omega)) ?_
  refine HO.val (v := .int .i64 ((t0 * t1) + (t2.tdiv 2))) (want_none) rfl (q_assign rfl) ?_
  refine HO.nil (thenQ_normal (?_))
  refine HW.ret (?_)
  refine ⟨.inr rfl, .int .i64 ((t0 * t1) + (t2.tdiv 2)), res_one rfl rfl, ?_⟩
  exact ⟨rfl, hE⟩

set_option maxRecDepth 100000 in
theorem rother_spec (t0 t1 t2 t3 t4 : Int) (h0 : Heap) (ht : 1 ≤ t0 ∧ t0 ≤ 7 ∧ 1 ≤ t1 ∧ t1 ≤ 317440 ∧ 1 ≤ t2 ∧ t2 ≤ 31744) :
    HC Try.prog 53 #[.agg #[.int .i64 t0, .int .i64 t1, .int .i64 t2, .int .i64 t3, .int .i64 t4]] h0 fun u h' => u = .int .i64 (other t0 t1 t2) ∧ Ext h0 h' := by
  refine HC.of_HW (n := 12) Try.func53 rfl rfl (Nat.le_of_ble_eq_true rfl) ?_
  have hE := Ext.refl h0
  refine HW.seq ?_
  refine HW.region ?_
  refine HO.eff (want_none) rfl (e_box (c := #[.int .i64 t0, .int .i64 t1, .int .i64 t2, .int .i64 t3, .int .i64 t4]) (k' := 5) rfl rfl) ?_
  rintro _ h1 ⟨b1, rfl, hn⟩
  replace hE := hE.trans hn.ext
  have hb1 : Blk h1 b1 (.cells #[.int .i64 t0, .int .i64 t1, .int .i64 t2, .int .i64 t3, .int .i64 t4] 71 (0, 0)) := hn.blk
  have hb1a := hn.at_; have hb1s := hn.size; clear hn
  refine HO.val (v := .int .i64 0) (want_none) rfl (q_assign rfl) ?_
  refine HO.nil (thenQ_normal (?_))
  refine HW.seq ?_
  refine HW.region ?_
  refine HO.val (v := .pointer (some ⟨b1, 0, none⟩)) (want_none) rfl (q_fieldAddr fa_71_0 rfl rfl) ?_
  refine HO.val (v := .int .i64 t0) (want_none) rfl (q_load to_3 rfl (Blk.cell hb1 rfl)) ?_
  refine HO.val (v := .pointer (some ⟨b1, 1, none⟩)) (want_none) rfl (q_fieldAddr fa_71_1 rfl rfl) ?_
  refine HO.val (v := .int .i64 t1) (want_none) rfl (q_load to_3 rfl (Blk.cell hb1 rfl)) ?_
  refine HO.val (v := .int .i64 (t0 * t1)) (want_none) rfl (q_mulN (t0 * t1) rfl rfl rfl (by have := mul_bd ht; omega) (by have := mul_bd ht; omega)) ?_
  refine HO.val (v := .pointer (some ⟨b1, 2, none⟩)) (want_none) rfl (q_fieldAddr fa_71_2 rfl rfl) ?_
  refine HO.val (v := .int .i64 t2) (want_none) rfl (q_load to_3 rfl (Blk.cell hb1 rfl)) ?_
  refine HO.val (v := .int .i64 (t2.tdiv 2)) (want_none) rfl (q_quoN _ rfl rfl (by decide) rfl (by rw [Int.tdiv_eq_ediv_of_nonneg (by omega)]; omega) (by rw [Int.tdiv_eq_ediv_of_nonneg (by omega)]; omega)) ?_
  refine HO.val (v := .int .i64 ((t0 * t1) + (t2.tdiv 2))) (want_none) rfl (q_addN ((t0 * t1) + (t2.tdiv 2)) rfl rfl rfl (by have := other_bd ht; unfold other at this; omega) (by have := other_bd ht; unfold other at this; omega)) ?_
  refine HO.val (v := .int .i64 ((t0 * t1) + (t2.tdiv 2))) (want_none) rfl (q_assign rfl) ?_
  refine HO.nil (thenQ_normal (?_))
  refine HW.ret (?_)
  refine ⟨.inr rfl, .int .i64 ((t0 * t1) + (t2.tdiv 2)), res_one rfl rfl, ?_⟩
  exact ⟨rfl, hE⟩

set_option maxRecDepth 100000 in
theorem rhear_nil (now port t0 t1 t2 t3 t4 : Int) (h0 : Heap) :
    HC Try.prog 56 #[.pointer none, .int .i64 now, .agg #[.int .i64 t0, .int .i64 t1, .int .i64 t2, .int .i64 t3, .int .i64 t4], .int .i64 port] h0 fun u h' => u = .bool false ∧ Ext h0 h' := by
  refine HC.of_HW (n := 39) Try.func56 rfl rfl (Nat.le_of_ble_eq_true rfl) ?_
  have hE := Ext.refl h0
  refine HW.seq ?_
  refine HW.region ?_
  refine HO.eff (want_none) rfl (e_box (c := #[.int .i64 t0, .int .i64 t1, .int .i64 t2, .int .i64 t3, .int .i64 t4]) (k' := 5) rfl rfl) ?_
  rintro _ h1 ⟨b1, rfl, hn⟩
  replace hE := hE.trans hn.ext
  have hb1 : Blk h1 b1 (.cells #[.int .i64 t0, .int .i64 t1, .int .i64 t2, .int .i64 t3, .int .i64 t4] 71 (0, 0)) := hn.blk
  have hb1a := hn.at_; have hb1s := hn.size; clear hn
  refine HO.val (v := .bool false) (want_none) rfl (q_assign rfl) ?_
  refine HO.nil (thenQ_normal (?_))
  refine HW.seq ?_
  refine HW.seq ?_
  refine HW.region ?_
  refine HO.val (v := .pointer none) (want_none) rfl (q_move rfl) ?_
  refine HO.val (v := .int .i64 port) (want_none) rfl (q_move rfl) ?_
  refine HO.call (want_none) rfl (ec en_106 rfl rfl) (in_nil port _) ?_
  rintro _ _ ⟨rfl, rfl⟩
  refine HO.val (v := .bool true) (want_none) rfl (q_not (b := false) rfl) ?_
  refine HO.nil (thenQ_normal (?_))
  refine HW.condT rfl ?_
  refine HW.seq ?_
  refine HW.region ?_
  refine HO.val (v := .bool false) (want_none) rfl (q_assign rfl) ?_
  refine HO.nil (thenQ_normal (?_))
  refine HW.ret (thenQ_ret (?_))
  refine ⟨.inr rfl, .bool false, res_one rfl rfl, ?_⟩
  exact ⟨rfl, hE⟩

set_option maxRecDepth 100000 in
theorem rhear_spec (b c r : Nat) (rn : Int) (fv : Value) (fl : List Bool) (m : List (Int × Int)) (h0 : Heap) (hI : RoutesIs h0 b c r rn fv fl m) (now t0 t1 t2 t3 t4 : Int) (hml : m.length ≤ 12) (i : Nat) (hi : i < fl.length) (hn : 0 ≤ rn ∧ rn ≤ 1000000000000) (ht : 1 ≤ t0 ∧ t0 ≤ 7 ∧ 1 ≤ t1 ∧ t1 ≤ 317440 ∧ 1 ≤ t2 ∧ t2 ≤ 31744) :
    HC Try.prog 56 #[.pointer (some ⟨b, 0, none⟩), .int .i64 now, .agg #[.int .i64 t0, .int .i64 t1, .int .i64 t2, .int .i64 t3, .int .i64 t4], .int .i64 ((i : Nat) : Int)] h0 fun u h' => u = .bool true ∧ RoutesIs h' b c r (snow rn now) fv fl (mset (live m (snow rn now)) ((i : Nat) : Int) (max (mgetI (live m (snow rn now)) ((i : Nat) : Int)) (snow rn now + other t0 t1 t2))) ∧ OnlyL [b, r] h0 h' := by
  refine HC.of_HW (n := 39) Try.func56 rfl rfl (Nat.le_of_ble_eq_true rfl) ?_
  obtain ⟨hR, hC, hM, hF, hbc, hbr, hcr, hfb, hfc, hfr⟩ := hI
  have hX := OnlyL.refl [b, r] h0
  have hbl := hR.lt
  have hrl := hM.lt
  refine HW.seq ?_
  refine HW.region ?_
  refine HO.eff (want_none) rfl (e_box (c := #[.int .i64 t0, .int .i64 t1, .int .i64 t2, .int .i64 t3, .int .i64 t4]) (k' := 5) rfl rfl) ?_
  rintro _ h1 ⟨b1, rfl, hn⟩
  replace hR := hR.ext hn.ext
  replace hC := hC.ext hn.ext
  replace hM := hM.ext hn.ext
  replace hF := hF.ext hn.ext
  replace hX := hX.ext hn.ext
  have hb1 : Blk h1 b1 (.cells #[.int .i64 t0, .int .i64 t1, .int .i64 t2, .int .i64 t3, .int .i64 t4] 71 (0, 0)) := hn.blk
  have hb1a := hn.at_; have hb1s := hn.size; clear hn
  refine HO.val (v := .bool false) (want_none) rfl (q_assign rfl) ?_
  refine HO.nil (thenQ_normal (?_))
  refine HW.seq ?_
  refine HW.seq ?_
  refine HW.region ?_
  refine HO.val (v := .pointer (some ⟨b, 0, none⟩)) (want_none) rfl (q_move rfl) ?_
  refine HO.val (v := .int .i64 ((i : Nat) : Int)) (want_none) rfl (q_move rfl) ?_
  refine HO.call (want_none) rfl (ec en_106 rfl rfl) (in_spec b c r _ fv fl _ _ ⟨hR, hC, hM, hF, hbc, hbr, hcr, hfb, hfc, hfr⟩ ((i : Nat) : Int)) ?_
  rintro _ _ ⟨rfl, rfl⟩
  refine HO.val (v := .bool (!(decide (0 ≤ ((i : Nat) : Int) ∧ ((i : Nat) : Int) < (fl.length : Int))))) (want_none) rfl (q_not rfl) ?_
  refine HO.nil (thenQ_normal (?_))
  have k2 : (decide (0 ≤ ((i : Nat) : Int) ∧ ((i : Nat) : Int) < (fl.length : Int))) = true := by rw [decide_eq_true_eq]; omega
  refine HW.condK false rfl (by rw [k2]; rfl) ?_
  refine HW.skip (thenQ_normal (?_))
  refine HW.seq ?_
  refine HW.region ?_
  refine HO.val (v := .pointer (some ⟨b, 0, none⟩)) (want_none) rfl (q_move rfl) ?_
  refine HO.val (v := .int .i64 now) (want_none) rfl (q_move rfl) ?_
  refine HO.call (want_none) rfl (ec en_107 rfl rfl) (settle_spec b c r rn fv fl m _ ⟨hR, hC, hM, hF, hbc, hbr, hcr, hfb, hfc, hfr⟩ now hml) ?_
  rintro _ h2 ⟨rfl, hI', hx⟩
  replace hX := hX.trans hx
  replace hb1 := hb1.onlyL hx (by simp; omega)
  obtain ⟨hR, hC, hM, hF, hbc, hbr, hcr, hfb, hfc, hfr⟩ := hI'
  have hxs := hx.size
  refine HO.val (v := .int .i64 (snow rn now)) (want_none) rfl (q_assign rfl) ?_
  refine HO.nil (thenQ_normal (?_))
  refine HW.seq ?_
  refine HW.region ?_
  refine HO.val (v := .pointer (some ⟨b, 0, none⟩)) (want_none) rfl (q_move rfl) ?_
  refine HO.val (v := .pointer (some ⟨b, 0, none⟩)) (want_none) rfl (q_nilCheck rfl) ?_
  refine HO.val (v := .pointer (some ⟨b, 1, none⟩)) (want_none) rfl (q_fieldAddr fa_144_1 rfl rfl) ?_
  refine HO.val (v := .pointer (some ⟨c, 0, none⟩)) (want_none) rfl (q_load to_124 rfl (Blk.cell hR rfl)) ?_
  refine HO.val (v := .int .i64 ((i : Nat) : Int)) (want_none) rfl (q_move rfl) ?_
  refine HO.call (want_none) rfl (ec en_109 rfl rfl) (at_spec c r (live m (snow rn now)) _ hC hM ((i : Nat) : Int)) ?_
  rintro _ _ ⟨rfl, rfl⟩
  refine HO.val (v := .tuple #[.int .i64 (mgetI (live m (snow rn now)) ((i : Nat) : Int)), .bool ((mget (live m (snow rn now)) ((i : Nat) : Int)).isSome)]) (want_none) rfl (q_move rfl) ?_
  refine HO.val (v := .int .i64 (mgetI (live m (snow rn now)) ((i : Nat) : Int))) (want_none) rfl (q_extract rfl rfl) ?_
  refine HO.val (v := .bool ((mget (live m (snow rn now)) ((i : Nat) : Int)).isSome)) (want_none) rfl (q_extract rfl rfl) ?_
  refine HO.val (v := .int .i64 (mgetI (live m (snow rn now)) ((i : Nat) : Int))) (want_none) rfl (q_assign rfl) ?_
  refine HO.val (v := .bool ((mget (live m (snow rn now)) ((i : Nat) : Int)).isSome)) (want_none) rfl (q_assign rfl) ?_
  refine HO.nil (thenQ_normal (?_))
  refine HW.seq ?_
  refine HW.regionD 12 mixed (fun h => (Blk h b1 (.cells #[.int .i64 t0, .int .i64 t1, .int .i64 t2, .int .i64 t3, .int .i64 t4] 71 (0, 0))) ∧ (Blk h b (.cells #[.int .i64 (snow rn now), .pointer (some ⟨c, 0, none⟩), fv] 144 (0, 0)))) [] [(0, true), (1, true), (2, true), (3, true), (4, true), (5, true), (6, true), (7, true), (8, false), (9, true), (10, true), (11, false)] (by kernel_rfl) ?_
  refine HM.val (v := .pointer (some ⟨b, 0, none⟩)) rfl rfl (want_none) rfl (fun _ ⟨hb1, hR⟩ => q_move rfl) ?_
  refine HM.val (v := .pointer (some ⟨b, 0, none⟩)) rfl rfl (want_none) rfl (fun _ ⟨hb1, hR⟩ => q_nilCheck rfl) ?_
  refine HM.val (v := .pointer (some ⟨b, 1, none⟩)) rfl rfl (want_none) rfl (fun _ ⟨hb1, hR⟩ => q_fieldAddr fa_144_1 rfl rfl) ?_
  refine HM.val (v := .pointer (some ⟨c, 0, none⟩)) rfl rfl (want_none) rfl (fun _ ⟨hb1, hR⟩ => q_load to_124 rfl (Blk.cell hR rfl)) ?_
  refine HM.val (v := .int .i64 ((i : Nat) : Int)) rfl rfl (want_none) rfl (fun _ ⟨hb1, hR⟩ => q_move rfl) ?_
  refine HM.val (v := .int .i64 (mgetI (live m (snow rn now)) ((i : Nat) : Int))) rfl rfl (want_none) rfl (fun _ ⟨hb1, hR⟩ => q_move rfl) ?_
  refine HM.val (v := .int .i64 (snow rn now)) rfl rfl (want_none) rfl (fun _ ⟨hb1, hR⟩ => q_move rfl) ?_
  refine HM.val (v := .agg #[.int .i64 t0, .int .i64 t1, .int .i64 t2, .int .i64 t3, .int .i64 t4]) rfl rfl (want_none) rfl (fun _ ⟨hb1, hR⟩ => q_loadAgg (cs := [.int .i64 t0, .int .i64 t1, .int .i64 t2, .int .i64 t3, .int .i64 t4]) ta_71 rfl rfl (Blk.cells (k := 5) hb1 rfl)) ?_
  refine HM.call ⟨⟨hb1, hR⟩, Go.HL.at_nil _ _⟩ rfl (want_none) rfl (ec en_110 rfl rfl) (tother_spec t0 t1 t2 t3 t4 _ ht) ?_
  rintro _ h3 ⟨rfl, hx⟩
  replace hC := hC.ext hx
  replace hF := hF.ext hx
  replace hX := hX.ext hx
  replace hb1 := hb1.ext hx
  replace hR := hR.ext hx
  replace hM := hM.ext hx
  have hxs := hx.size
  refine HM.val (v := .int .i64 ((snow rn now) + (other t0 t1 t2))) rfl rfl (want_none) rfl (fun _ ⟨hb1, hR⟩ => q_addN ((snow rn now) + (other t0 t1 t2)) rfl rfl rfl (by have := other_bd ht; unfold snow; omega) (by have := other_bd ht; unfold snow; omega)) ?_
  refine HM.val (v := .int .i64 (max (mgetI (live m (snow rn now)) ((i : Nat) : Int)) ((snow rn now) + (other t0 t1 t2)))) rfl rfl (want_none) rfl (fun _ ⟨hb1, hR⟩ => q_max rfl rfl) ?_
  refine HM.call ⟨⟨hb1, hR⟩, Go.HL.at_nil _ _⟩ rfl (want_none) rfl (ec en_93 rfl rfl) (set_spec c r (live m (snow rn now)) _ hC hM ((i : Nat) : Int) (max (mgetI (live m (snow rn now)) ((i : Nat) : Int)) ((snow rn now) + (other t0 t1 t2))) hcr) ?_
  rintro _ h4 ⟨rfl, o, hu, hK⟩
  replace hC := hC.upd hu hcr
  replace hF := hF.upd hu hfr
  replace hX := hX.upd hu (by simp)
  replace hb1 := hb1.upd hu (by omega)
  replace hR := hR.upd hu hbr
  replace hM := hK.map
  have hus := hu.size
  refine HM.nil ⟨⟨hb1, hR⟩, Go.HL.at_nil _ _⟩ (thenQ_normal (?_))
  refine HW.seq ?_
  refine HW.region ?_
  refine HO.val (v := .bool true) (want_none) rfl (q_assign rfl) ?_
  refine HO.nil (thenQ_normal (?_))
  refine HW.ret (?_)
  refine ⟨.inr rfl, .bool true, res_one rfl rfl, ?_⟩
  exact ⟨rfl, ⟨hR, hC, hM, hF, hbc, hbr, hcr, hfb, hfc, hfr⟩, hX⟩

set_option maxRecDepth 100000 in
theorem rhear_out (b c r : Nat) (rn : Int) (fv : Value) (fl : List Bool) (m : List (Int × Int)) (h0 : Heap) (hI : RoutesIs h0 b c r rn fv fl m) (now port t0 t1 t2 t3 t4 : Int) (hp : ¬ (0 ≤ port ∧ port < (fl.length : Int))) :
    HC Try.prog 56 #[.pointer (some ⟨b, 0, none⟩), .int .i64 now, .agg #[.int .i64 t0, .int .i64 t1, .int .i64 t2, .int .i64 t3, .int .i64 t4], .int .i64 port] h0 fun u h' => u = .bool false ∧ Ext h0 h' := by
  refine HC.of_HW (n := 39) Try.func56 rfl rfl (Nat.le_of_ble_eq_true rfl) ?_
  obtain ⟨hR, hC, hM, hF, hbc, hbr, hcr, hfb, hfc, hfr⟩ := hI
  have hE := Ext.refl h0
  refine HW.seq ?_
  refine HW.region ?_
  refine HO.eff (want_none) rfl (e_box (c := #[.int .i64 t0, .int .i64 t1, .int .i64 t2, .int .i64 t3, .int .i64 t4]) (k' := 5) rfl rfl) ?_
  rintro _ h1 ⟨b1, rfl, hn⟩
  replace hR := hR.ext hn.ext
  replace hC := hC.ext hn.ext
  replace hM := hM.ext hn.ext
  replace hF := hF.ext hn.ext
  replace hE := hE.trans hn.ext
  have hb1 : Blk h1 b1 (.cells #[.int .i64 t0, .int .i64 t1, .int .i64 t2, .int .i64 t3, .int .i64 t4] 71 (0, 0)) := hn.blk
  have hb1a := hn.at_; have hb1s := hn.size; clear hn
  refine HO.val (v := .bool false) (want_none) rfl (q_assign rfl) ?_
  refine HO.nil (thenQ_normal (?_))
  refine HW.seq ?_
  refine HW.seq ?_
  refine HW.region ?_
  refine HO.val (v := .pointer (some ⟨b, 0, none⟩)) (want_none) rfl (q_move rfl) ?_
  refine HO.val (v := .int .i64 port) (want_none) rfl (q_move rfl) ?_
  refine HO.call (want_none) rfl (ec en_106 rfl rfl) (in_spec b c r _ fv fl _ _ ⟨hR, hC, hM, hF, hbc, hbr, hcr, hfb, hfc, hfr⟩ port) ?_
  rintro _ _ ⟨rfl, rfl⟩
  refine HO.val (v := .bool (!(decide (0 ≤ port ∧ port < (fl.length : Int))))) (want_none) rfl (q_not rfl) ?_
  refine HO.nil (thenQ_normal (?_))
  have k2 : (decide (0 ≤ port ∧ port < (fl.length : Int))) = false := by rw [decide_eq_false_iff_not]; omega
  refine HW.condK true rfl (by rw [k2]; rfl) ?_
  refine HW.seq ?_
  refine HW.region ?_
  refine HO.val (v := .bool false) (want_none) rfl (q_assign rfl) ?_
  refine HO.nil (thenQ_normal (?_))
  refine HW.ret (thenQ_ret (?_))
  refine ⟨.inr rfl, .bool false, res_one rfl rfl, ?_⟩
  exact ⟨rfl, hE⟩

set_option maxRecDepth 100000 in
theorem rfix_nil (port : Int) (is : Bool) (h0 : Heap) :
    HC Try.prog 60 #[.pointer none, .int .i64 port, .bool is] h0 fun u h' => u = .bool false ∧ h' = h0 := by
  refine HC.of_HW (n := 27) Try.func60 rfl rfl (Nat.le_of_ble_eq_true rfl) ?_
  refine HW.seq ?_
  refine HW.region ?_
  refine HO.val (v := .bool false) (want_none) rfl (q_assign rfl) ?_
  refine HO.nil (thenQ_normal (?_))
  refine HW.seq ?_
  refine HW.seq ?_
  refine HW.region ?_
  refine HO.val (v := .pointer none) (want_none) rfl (q_move rfl) ?_
  refine HO.val (v := .int .i64 port) (want_none) rfl (q_move rfl) ?_
  refine HO.call (want_none) rfl (ec en_106 rfl rfl) (in_nil port _) ?_
  rintro _ _ ⟨rfl, rfl⟩
  refine HO.val (v := .bool true) (want_none) rfl (q_not (b := false) rfl) ?_
  refine HO.nil (thenQ_normal (?_))
  refine HW.condT rfl ?_
  refine HW.seq ?_
  refine HW.region ?_
  refine HO.val (v := .bool false) (want_none) rfl (q_assign rfl) ?_
  refine HO.nil (thenQ_normal (?_))
  refine HW.ret (thenQ_ret (?_))
  refine ⟨.inr rfl, .bool false, res_one rfl rfl, ?_⟩
  exact ⟨rfl, rfl⟩

set_option maxRecDepth 100000 in
theorem rleft_nil (now port : Int) (h0 : Heap) :
    HC Try.prog 68 #[.pointer none, .int .i64 now, .int .i64 port] h0 fun u h' => u = .int .i64 0 ∧ h' = h0 := by
  refine HC.of_HW (n := 30) Try.func68 rfl rfl (Nat.le_of_ble_eq_true rfl) ?_
  refine HW.seq ?_
  refine HW.region ?_
  refine HO.val (v := .int .i64 0) (want_none) rfl (q_assign rfl) ?_
  refine HO.nil (thenQ_normal (?_))
  refine HW.seq ?_
  refine HW.seq ?_
  refine HW.region ?_
  refine HO.val (v := .pointer none) (want_none) rfl (q_move rfl) ?_
  refine HO.val (v := .int .i64 port) (want_none) rfl (q_move rfl) ?_
  refine HO.call (want_none) rfl (ec en_106 rfl rfl) (in_nil port _) ?_
  rintro _ _ ⟨rfl, rfl⟩
  refine HO.val (v := .bool true) (want_none) rfl (q_not (b := false) rfl) ?_
  refine HO.nil (thenQ_normal (?_))
  refine HW.condT rfl ?_
  refine HW.seq ?_
  refine HW.region ?_
  refine HO.val (v := .int .i64 0) (want_none) rfl (q_assign rfl) ?_
  refine HO.nil (thenQ_normal (?_))
  refine HW.ret (thenQ_ret (?_))
  refine ⟨.inr rfl, .int .i64 0, res_one rfl rfl, ?_⟩
  exact ⟨rfl, rfl⟩

set_option maxRecDepth 100000 in
theorem rports_nil (now : Int) (h0 : Heap) :
    HC Try.prog 65 #[.pointer none, .int .i64 now] h0 fun u h' => u = .slice none 0 0 ∧ h' = h0 := by
  refine HC.of_HW (n := 29) Try.func65 rfl rfl (Nat.le_of_ble_eq_true rfl) ?_
  refine HW.seq ?_
  refine HW.region ?_
  refine HO.val (v := .slice none 0 0) (want_none) rfl (q_assign rfl) ?_
  refine HO.nil (thenQ_normal (?_))
  refine HW.seq ?_
  refine HW.region ?_
  refine HO.val (v := .slice none 0 0) (want_none) rfl (q_assign rfl) ?_
  refine HO.nil (thenQ_normal (?_))
  refine HW.seq ?_
  refine HW.seq ?_
  refine HW.region ?_
  refine HO.val (v := .pointer none) (want_none) rfl (q_move rfl) ?_
  refine HO.val (v := .bool true) (want_none) rfl (q_eqlPnil Try.underlying75 rfl rfl rfl) ?_
  refine HO.nil (thenQ_normal (?_))
  refine HW.condT rfl ?_
  refine HW.seq ?_
  refine HW.region ?_
  refine HO.val (v := .slice none 0 0) (want_none) rfl (q_assign rfl) ?_
  refine HO.nil (thenQ_normal (?_))
  refine HW.ret (thenQ_ret (?_))
  refine ⟨.inr rfl, .slice none 0 0, res_one rfl rfl, ?_⟩
  exact ⟨rfl, rfl⟩

set_option maxRecDepth 100000 in
theorem rnext_nil (now : Int) (h0 : Heap) :
    HC Try.prog 63 #[.pointer none, .int .i64 now] h0 fun u h' => u = .tuple #[.int .i64 0, .bool false] ∧ h' = h0 := by
  refine HC.of_HW (n := 25) Try.func63 rfl rfl (Nat.le_of_ble_eq_true rfl) ?_
  refine HW.seq ?_
  refine HW.region ?_
  refine HO.val (v := .int .i64 0) (want_none) rfl (q_assign rfl) ?_
  refine HO.val (v := .bool false) (want_none) rfl (q_assign rfl) ?_
  refine HO.nil (thenQ_normal (?_))
  refine HW.seq ?_
  refine HW.seq ?_
  refine HW.region ?_
  refine HO.val (v := .pointer none) (want_none) rfl (q_move rfl) ?_
  refine HO.val (v := .bool true) (want_none) rfl (q_eqlPnil Try.underlying75 rfl rfl rfl) ?_
  refine HO.nil (thenQ_normal (?_))
  refine HW.condT rfl ?_
  refine HW.seq ?_
  refine HW.region ?_
  refine HO.val (v := .int .i64 0) (want_none) rfl (q_assign rfl) ?_
  refine HO.val (v := .bool false) (want_none) rfl (q_assign rfl) ?_
  refine HO.nil (thenQ_normal (?_))
  refine HW.ret (thenQ_ret (?_))
  refine ⟨.inr rfl, .tuple #[.int .i64 0, .bool false], res_two rfl rfl rfl, ?_⟩
  exact ⟨rfl, rfl⟩

set_option maxRecDepth 100000 in
theorem rlen_nil (h0 : Heap) :
    HC Try.prog 58 #[.pointer none] h0 fun u h' => u = .int .i64 0 ∧ h' = h0 := by
  refine HC.of_HW (n := 10) Try.func58 rfl rfl (Nat.le_of_ble_eq_true rfl) ?_
  refine HW.seq ?_
  refine HW.region ?_
  refine HO.val (v := .int .i64 0) (want_none) rfl (q_assign rfl) ?_
  refine HO.nil (thenQ_normal (?_))
  refine HW.seq ?_
  refine HW.seq ?_
  refine HW.region ?_
  refine HO.val (v := .pointer none) (want_none) rfl (q_move rfl) ?_
  refine HO.val (v := .bool true) (want_none) rfl (q_eqlPnil Try.underlying75 rfl rfl rfl) ?_
  refine HO.nil (thenQ_normal (?_))
  refine HW.condT rfl ?_
  refine HW.seq ?_
  refine HW.region ?_
  refine HO.val (v := .int .i64 0) (want_none) rfl (q_assign rfl) ?_
  refine HO.nil (thenQ_normal (?_))
  refine HW.ret (thenQ_ret (?_))
  refine ⟨.inr rfl, .int .i64 0, res_one rfl rfl, ?_⟩
  exact ⟨rfl, rfl⟩

set_option maxRecDepth 100000 in
theorem rlen_spec (b c r : Nat) (rn : Int) (fv : Value) (fl : List Bool) (m : List (Int × Int)) (h0 : Heap) (hI : RoutesIs h0 b c r rn fv fl m) :
    HC Try.prog 58 #[.pointer (some ⟨b, 0, none⟩)] h0 fun u h' => u = .int .i64 (fl.length : Int) ∧ h' = h0 := by
  refine HC.of_HW (n := 10) Try.func58 rfl rfl (Nat.le_of_ble_eq_true rfl) ?_
  obtain ⟨hR, hC, hM, hF, hbc, hbr, hcr, hfb, hfc, hfr⟩ := hI
  refine HW.seq ?_
  refine HW.region ?_
  refine HO.val (v := .int .i64 0) (want_none) rfl (q_assign rfl) ?_
  refine HO.nil (thenQ_normal (?_))
  refine HW.seq ?_
  refine HW.seq ?_
  refine HW.region ?_
  refine HO.val (v := .pointer (some ⟨b, 0, none⟩)) (want_none) rfl (q_move rfl) ?_
  refine HO.val (v := .bool false) (want_none) rfl (q_eqlPnil Try.underlying75 rfl rfl rfl) ?_
  refine HO.nil (thenQ_normal (?_))
  refine HW.condF rfl ?_
  refine HW.skip (thenQ_normal (?_))
  refine HW.seq ?_
  refine HW.region ?_
  refine HO.val (v := .pointer (some ⟨b, 0, none⟩)) (want_none) rfl (q_move rfl) ?_
  refine HO.val (v := .pointer (some ⟨b, 0, none⟩)) (want_none) rfl (q_nilCheck rfl) ?_
  refine HO.val (v := .pointer (some ⟨b, 2, none⟩)) (want_none) rfl (q_fieldAddr fa_144_2 rfl rfl) ?_
  refine HO.val (v := fv) (want_none) rfl (q_load to_142 rfl (Blk.cell hR rfl)) ?_
  refine HO.val (v := .int .i64 ((fl.length : Nat) : Int)) (want_none) rfl (q_len ts_142 hF.slice rfl rfl) ?_
  refine HO.val (v := .int .i64 ((fl.length : Nat) : Int)) (want_none) rfl (q_assign rfl) ?_
  refine HO.nil (thenQ_normal (?_))
  refine HW.ret (?_)
  refine ⟨.inr rfl, .int .i64 ((fl.length : Nat) : Int), res_one rfl rfl, ?_⟩
  exact ⟨rfl, rfl⟩

set_option maxRecDepth 100000 in
theorem usual_spec (h0 : Heap) :
    HC Try.prog 70 #[] h0 fun u h' => u = .agg #[.int .i64 2, .int .i64 12, .int .i64 2, .int .i64 2, .int .i64 2] ∧ Ext h0 h' := by
  refine HC.of_HW (n := 2) Try.func70 rfl rfl (Nat.le_of_ble_eq_true rfl) ?_
  have hE := Ext.refl h0
  refine HW.seq ?_
  refine HW.region ?_
  refine HO.eff (want_none) rfl (e_alloc tz_71 rfl) ?_
  rintro _ h1 ⟨b1, rfl, hn⟩
  replace hE := hE.trans hn.ext
  have hb1 : Blk h1 b1 (.cells #[.int .i64 0, .int .i64 0, .int .i64 0, .int .i64 0, .int .i64 0] 71 (0, 0)) := hn.blk
  have hb1a := hn.at_; have hb1s := hn.size; clear hn
  refine HO.nil (thenQ_normal (?_))
  refine HW.seq ?_
  refine HW.region ?_
  refine HO.val (v := .agg #[.int .i64 2, .int .i64 12, .int .i64 2, .int .i64 2, .int .i64 2]) (want_none) rfl (q_build tp_71 rfl) ?_
  refine HO.sto (want_none) rfl (s_storeAgg (c' := #[.int .i64 2, .int .i64 12, .int .i64 2, .int .i64 2, .int .i64 2]) ta_71 hb1 rfl rfl rfl (by simp [Value.oneCell']) (Nat.le_of_ble_eq_true rfl) rfl) ?_
  rintro h2 hu
  replace hE := hE.upd hu (by omega)
  replace hb1 : Blk h2 b1 (.cells #[.int .i64 2, .int .i64 12, .int .i64 2, .int .i64 2, .int .i64 2] 71 (0, 0)) := hu.blk rfl
  have hus := hu.size; clear hu
  refine HO.nil (thenQ_normal (?_))
  refine HW.ret (?_)
  refine ⟨.inr rfl, .agg #[.int .i64 2, .int .i64 12, .int .i64 2, .int .i64 2, .int .i64 2], res1 rfl (rca (cs := [.int .i64 2, .int .i64 12, .int .i64 2, .int .i64 2, .int .i64 2]) ta_71 rfl rfl (Blk.cells (k := 5) hb1 rfl)), ?_⟩
  exact ⟨rfl, hE⟩
end Go.HL.CI
