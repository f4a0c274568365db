/- The functions of a clock of integers: walks. -/
import Derived.Test.YtnemfpgfgblpbaaOps2
import Derived.Test.YtnemfpgfgblpbaaProg
import Derived.Test.YtnemfpgfgblpbaaClockDef
set_option linter.unusedSimpArgs false
set_option linter.unusedVariables false
set_option linter.unusedSectionVars false
namespace Go.HL.CI
open Go.Proofs
theorem tp_159 : TPlaces Try.prog 159 #[(0, 1)] #[.map none] := tplaces Try.runUnderlying159 Try.zeroValue159 rfl (fun w => by kernel_rfl)
theorem fa_159_0 : FieldAt Try.prog 159 0 0 := fun a w => by kernel_rfl
theorem to_157 : TOne Try.prog 157 := ⟨Try.isAgg157, Try.sizeOf157⟩
theorem tz_3 : TZero Try.prog 3 (.int .i64 0) := Try.zeroValue3
theorem tm_157 : TMap Try.prog 157 3 3 (.int .i64) (.int .i64 0) := ⟨Try.underlying157, Try.underlying3, tz_3⟩
theorem en_141 (args : Array Value) (w : World) : (callFunc 141 args).run Try.prog w = .ok (.enter 141 args) w := by kernel_rfl
set_option maxRecDepth 100000 in
theorem new_spec (h0 : Heap) :
    HC Try.prog 92 #[] h0 fun u h' => ∃ c r, u = .pointer (some ⟨c, 0, none⟩) ∧ ClockIs h' 159 c r kI ([] : List (Int × Int)) ∧ Ext h0 h' ∧ h0.size ≤ c ∧ h0.size ≤ r ∧ c ≠ r := by
  refine HC.of_HW (n := 4) Try.func92 rfl rfl (Nat.le_of_ble_eq_true rfl) ?_
  have hE := Ext.refl h0
  refine HW.seq ?_
  refine HW.region ?_
  refine HO.val (v := .pointer none) (want_none) rfl (q_assign rfl) ?_
  refine HO.nil (thenQ_normal (?_))
  refine HW.seq ?_
  refine HW.region ?_
  refine HO.eff (want_none) rfl e_makeMap ?_
  rintro _ h1 ⟨r1, rfl, hn⟩
  replace hE := hE.trans hn.ext
  have hr1 : MapIs h1 r1 kI kI ([] : List (Int × Int)) := MapIs.empty hn
  have hr1a := hn.at_; have hr1s := hn.size; clear hn
  refine HO.val (v := .agg #[.map (some r1)]) (want_none) rfl (q_build tp_159 rfl) ?_
  refine HO.eff (want_none) rfl (e_box (c := #[.map (some r1)]) (k' := 1) rfl rfl) ?_
  rintro _ h2 ⟨b2, rfl, hn⟩
  replace hE := hE.trans hn.ext
  replace hr1 := hr1.ext hn.ext
  have hb2 : Blk h2 b2 (.cells #[.map (some r1)] 159 (0, 0)) := hn.blk
  have hb2a := hn.at_; have hb2s := hn.size; clear hn
  refine HO.val (v := .pointer (some ⟨b2, 0, none⟩)) (want_none) rfl (q_assign rfl) ?_
  refine HO.nil (thenQ_normal (?_))
  refine HW.ret (?_)
  refine ⟨.inr rfl, .pointer (some ⟨b2, 0, none⟩), res_one rfl rfl, ?_⟩
  exact ⟨_, _, rfl, ⟨hb2, hr1⟩, hE, by omega, by omega, by omega⟩

set_option maxRecDepth 100000 in
theorem set_nil (k t : Int) (h0 : Heap) :
    HC Try.prog 93 #[.pointer none, .int .i64 k, .int .i64 t] h0 fun u h' => u = .bool false ∧ h' = h0 := by
  refine HC.of_HW (n := 28) Try.func93 rfl rfl (Nat.le_of_ble_eq_true rfl) ?_
  refine HW.seq ?_
  refine HW.region ?_
  refine HO.val (v := .bool false) (want_none) rfl (q_assign rfl) ?_
  refine HO.nil (thenQ_normal (?_))
  refine HW.seq ?_
  refine HW.seq ?_
  refine HW.region ?_
  refine HO.val (v := .pointer none) (want_none) rfl (q_move rfl) ?_
  refine HO.val (v := .bool true) (want_none) rfl (q_eqlPnil Try.underlying124 rfl rfl rfl) ?_
  refine HO.nil (thenQ_normal (?_))
  refine HW.condT rfl ?_
  refine HW.seq ?_
  refine HW.region ?_
  refine HO.val (v := .bool false) (want_none) rfl (q_assign rfl) ?_
  refine HO.nil (thenQ_normal (?_))
  refine HW.ret (thenQ_ret (?_))
  refine ⟨.inr rfl, .bool false, res_one rfl rfl, ?_⟩
  exact ⟨rfl, rfl⟩

set_option maxRecDepth 100000 in
theorem set_spec (c r : Nat) (m : List (Int × Int)) (h0 : Heap) (hC : Blk h0 c (.cells #[.map (some r)] 159 (0, 0))) (hM : MapIs h0 r kI kI m) (k t : Int) (hcr : c ≠ r) :
    HC Try.prog 93 #[.pointer (some ⟨c, 0, none⟩), .int .i64 k, .int .i64 t] h0 fun u h' => u = .bool (!(mget m k).isSome) ∧ ∃ o, Upd h0 r o h' ∧ ClockIs h' 159 c r kI (mset m k t) := by
  refine HC.of_HW (n := 28) Try.func93 rfl rfl (Nat.le_of_ble_eq_true rfl) ?_
  refine HW.seq ?_
  refine HW.region ?_
  refine HO.val (v := .bool false) (want_none) rfl (q_assign rfl) ?_
  refine HO.nil (thenQ_normal (?_))
  refine HW.seq ?_
  refine HW.seq ?_
  refine HW.region ?_
  refine HO.val (v := .pointer (some ⟨c, 0, none⟩)) (want_none) rfl (q_move rfl) ?_
  refine HO.val (v := .bool false) (want_none) rfl (q_eqlPnil Try.underlying124 rfl rfl rfl) ?_
  refine HO.nil (thenQ_normal (?_))
  refine HW.condF rfl ?_
  refine HW.skip (thenQ_normal (?_))
  refine HW.seq ?_
  refine HW.region ?_
  refine HO.val (v := .pointer (some ⟨c, 0, none⟩)) (want_none) rfl (q_move rfl) ?_
  refine HO.val (v := .pointer (some ⟨c, 0, none⟩)) (want_none) rfl (q_nilCheck rfl) ?_
  refine HO.val (v := .pointer (some ⟨c, 0, none⟩)) (want_none) rfl (q_fieldAddr fa_159_0 rfl rfl) ?_
  refine HO.val (v := .map (some r)) (want_none) rfl (q_load to_157 rfl (Blk.cell hC rfl)) ?_
  refine HO.val (v := .int .i64 k) (want_none) rfl (q_move rfl) ?_
  refine HO.val (v := .tuple #[.int .i64 (mgetI m k), .bool ((mget m k).isSome)]) (want_none) rfl ((q_lookupOk (k := k) keyOk_int tm_157 hM rfl rfl).of_eq (by rw [mval_kI])) ?_
  refine HO.val (v := .tuple #[.int .i64 (mgetI m k), .bool ((mget m k).isSome)]) (want_none) rfl (q_move rfl) ?_
  refine HO.val (v := .int .i64 (mgetI m k)) (want_none) rfl (q_extract rfl rfl) ?_
  refine HO.val (v := .bool ((mget m k).isSome)) (want_none) rfl (q_extract rfl rfl) ?_
  refine HO.val (v := .int .i64 (mgetI m k)) (want_none) rfl (q_assign rfl) ?_
  refine HO.val (v := .bool ((mget m k).isSome)) (want_none) rfl (q_assign rfl) ?_
  refine HO.nil (thenQ_normal (?_))
  refine HW.seq ?_
  refine HW.region ?_
  refine HO.val (v := .pointer (some ⟨c, 0, none⟩)) (want_none) rfl (q_move rfl) ?_
  refine HO.val (v := .pointer (some ⟨c, 0, none⟩)) (want_none) rfl (q_nilCheck rfl) ?_
  refine HO.val (v := .pointer (some ⟨c, 0, none⟩)) (want_none) rfl (q_fieldAddr fa_159_0 rfl rfl) ?_
  refine HO.val (v := .map (some r)) (want_none) rfl (q_load to_157 rfl (Blk.cell hC rfl)) ?_
  refine HO.val (v := .int .i64 k) (want_none) rfl (q_move rfl) ?_
  refine HO.val (v := .int .i64 t) (want_none) rfl (q_move rfl) ?_
  refine HO.sto (want_none) rfl (s_mapUpdate (k := k) (v := t) keyOk_int tm_157 hM rfl rfl rfl) ?_
  rintro h1 ⟨_, hu, hm⟩
  replace hC := hC.upd hu hcr
  replace hM := hm
  have hus := hu.size; clear hm
  refine HO.nil (thenQ_normal (?_))
  refine HW.seq ?_
  refine HW.region ?_
  refine HO.val (v := .bool ((mget m k).isSome)) (want_none) rfl (q_move rfl) ?_
  refine HO.val (v := .bool (!((mget m k).isSome))) (want_none) rfl (q_not rfl) ?_
  refine HO.val (v := .bool (!((mget m k).isSome))) (want_none) rfl (q_assign rfl) ?_
  refine HO.nil (thenQ_normal (?_))
  refine HW.ret (?_)
  refine ⟨.inr rfl, .bool (!((mget m k).isSome)), res_one rfl rfl, ?_⟩
  exact ⟨rfl, _, hu, hC, hM⟩

set_option maxRecDepth 100000 in
theorem cut_nil (k : Int) (h0 : Heap) :
    HC Try.prog 97 #[.pointer none, .int .i64 k] h0 fun u h' => u = .bool false ∧ h' = h0 := by
  refine HC.of_HW (n := 24) Try.func97 rfl rfl (Nat.le_of_ble_eq_true rfl) ?_
  refine HW.seq ?_
  refine HW.region ?_
  refine HO.val (v := .bool false) (want_none) rfl (q_assign rfl) ?_
  refine HO.nil (thenQ_normal (?_))
  refine HW.seq ?_
  refine HW.seq ?_
  refine HW.region ?_
  refine HO.val (v := .pointer none) (want_none) rfl (q_move rfl) ?_
  refine HO.val (v := .bool true) (want_none) rfl (q_eqlPnil Try.underlying124 rfl rfl rfl) ?_
  refine HO.nil (thenQ_normal (?_))
  refine HW.condT rfl ?_
  refine HW.seq ?_
  refine HW.region ?_
  refine HO.val (v := .bool false) (want_none) rfl (q_assign rfl) ?_
  refine HO.nil (thenQ_normal (?_))
  refine HW.ret (thenQ_ret (?_))
  refine ⟨.inr rfl, .bool false, res_one rfl rfl, ?_⟩
  exact ⟨rfl, rfl⟩

set_option maxRecDepth 100000 in
theorem cut_spec (c r : Nat) (m : List (Int × Int)) (h0 : Heap) (hC : Blk h0 c (.cells #[.map (some r)] 159 (0, 0))) (hM : MapIs h0 r kI kI m) (k : Int) (hcr : c ≠ r) :
    HC Try.prog 97 #[.pointer (some ⟨c, 0, none⟩), .int .i64 k] h0 fun u h' => u = .bool (mget m k).isSome ∧ ∃ o, Upd h0 r o h' ∧ ClockIs h' 159 c r kI (mdel m k) := by
  refine HC.of_HW (n := 24) Try.func97 rfl rfl (Nat.le_of_ble_eq_true rfl) ?_
  refine HW.seq ?_
  refine HW.region ?_
  refine HO.val (v := .bool false) (want_none) rfl (q_assign rfl) ?_
  refine HO.nil (thenQ_normal (?_))
  refine HW.seq ?_
  refine HW.seq ?_
  refine HW.region ?_
  refine HO.val (v := .pointer (some ⟨c, 0, none⟩)) (want_none) rfl (q_move rfl) ?_
  refine HO.val (v := .bool false) (want_none) rfl (q_eqlPnil Try.underlying124 rfl rfl rfl) ?_
  refine HO.nil (thenQ_normal (?_))
  refine HW.condF rfl ?_
  refine HW.skip (thenQ_normal (?_))
  refine HW.seq ?_
  refine HW.region ?_
  refine HO.val (v := .pointer (some ⟨c, 0, none⟩)) (want_none) rfl (q_move rfl) ?_
  refine HO.val (v := .pointer (some ⟨c, 0, none⟩)) (want_none) rfl (q_nilCheck rfl) ?_
  refine HO.val (v := .pointer (some ⟨c, 0, none⟩)) (want_none) rfl (q_fieldAddr fa_159_0 rfl rfl) ?_
  refine HO.val (v := .map (some r)) (want_none) rfl (q_load to_157 rfl (Blk.cell hC rfl)) ?_
  refine HO.val (v := .int .i64 k) (want_none) rfl (q_move rfl) ?_
  refine HO.val (v := .tuple #[.int .i64 (mgetI m k), .bool ((mget m k).isSome)]) (want_none) rfl ((q_lookupOk (k := k) keyOk_int tm_157 hM rfl rfl).of_eq (by rw [mval_kI])) ?_
  refine HO.val (v := .tuple #[.int .i64 (mgetI m k), .bool ((mget m k).isSome)]) (want_none) rfl (q_move rfl) ?_
  refine HO.val (v := .int .i64 (mgetI m k)) (want_none) rfl (q_extract rfl rfl) ?_
  refine HO.val (v := .bool ((mget m k).isSome)) (want_none) rfl (q_extract rfl rfl) ?_
  refine HO.val (v := .int .i64 (mgetI m k)) (want_none) rfl (q_assign rfl) ?_
  refine HO.val (v := .bool ((mget m k).isSome)) (want_none) rfl (q_assign rfl) ?_
  refine HO.nil (thenQ_normal (?_))
  refine HW.seq ?_
  refine HW.region ?_
  refine HO.val (v := .pointer (some ⟨c, 0, none⟩)) (want_none) rfl (q_move rfl) ?_
  refine HO.val (v := .pointer (some ⟨c, 0, none⟩)) (want_none) rfl (q_nilCheck rfl) ?_
  refine HO.val (v := .pointer (some ⟨c, 0, none⟩)) (want_none) rfl (q_fieldAddr fa_159_0 rfl rfl) ?_
  refine HO.val (v := .map (some r)) (want_none) rfl (q_load to_157 rfl (Blk.cell hC rfl)) ?_
  refine HO.val (v := .int .i64 k) (want_none) rfl (q_move rfl) ?_
  refine HO.eff (want_none) rfl (e_delete (k := k) keyOk_int tm_157 hM rfl rfl rfl) ?_
  rintro _ h1 ⟨rfl, _, hu, hm⟩
  replace hC := hC.upd hu hcr
  replace hM := hm
  have hus := hu.size; clear hm
  refine HO.nil (thenQ_normal (?_))
  refine HW.seq ?_
  refine HW.region ?_
  refine HO.val (v := .bool ((mget m k).isSome)) (want_none) rfl (q_move rfl) ?_
  refine HO.val (v := .bool ((mget m k).isSome)) (want_none) rfl (q_assign rfl) ?_
  refine HO.nil (thenQ_normal (?_))
  refine HW.ret (?_)
  refine ⟨.inr rfl, .bool ((mget m k).isSome), res_one rfl rfl, ?_⟩
  exact ⟨rfl, _, hu, hC, hM⟩

set_option maxRecDepth 100000 in
theorem at_nil (k : Int) (h0 : Heap) :
    HC Try.prog 109 #[.pointer none, .int .i64 k] h0 fun u h' => u = .tuple #[.int .i64 0, .bool false] ∧ h' = h0 := by
  refine HC.of_HW (n := 21) Try.func109 rfl rfl (Nat.le_of_ble_eq_true rfl) ?_
  refine HW.seq ?_
  refine HW.region ?_
  refine HO.val (v := .int .i64 0) (want_none) rfl (q_assign rfl) ?_
  refine HO.val (v := .bool false) (want_none) rfl (q_assign rfl) ?_
  refine HO.nil (thenQ_normal (?_))
  refine HW.seq ?_
  refine HW.seq ?_
  refine HW.region ?_
  refine HO.val (v := .pointer none) (want_none) rfl (q_move rfl) ?_
  refine HO.val (v := .bool true) (want_none) rfl (q_eqlPnil Try.underlying124 rfl rfl rfl) ?_
  refine HO.nil (thenQ_normal (?_))
  refine HW.condT rfl ?_
  refine HW.seq ?_
  refine HW.region ?_
  refine HO.val (v := .int .i64 0) (want_none) rfl (q_assign rfl) ?_
  refine HO.val (v := .bool false) (want_none) rfl (q_assign rfl) ?_
  refine HO.nil (thenQ_normal (?_))
  refine HW.ret (thenQ_ret (?_))
  refine ⟨.inr rfl, .tuple #[.int .i64 0, .bool false], res_two rfl rfl rfl, ?_⟩
  exact ⟨rfl, rfl⟩

set_option maxRecDepth 100000 in
theorem at_spec (c r : Nat) (m : List (Int × Int)) (h0 : Heap) (hC : Blk h0 c (.cells #[.map (some r)] 159 (0, 0))) (hM : MapIs h0 r kI kI m) (k : Int) :
    HC Try.prog 109 #[.pointer (some ⟨c, 0, none⟩), .int .i64 k] h0 fun u h' => u = .tuple #[.int .i64 (mgetI m k), .bool (mget m k).isSome] ∧ h' = h0 := by
  refine HC.of_HW (n := 21) Try.func109 rfl rfl (Nat.le_of_ble_eq_true rfl) ?_
  refine HW.seq ?_
  refine HW.region ?_
  refine HO.val (v := .int .i64 0) (want_none) rfl (q_assign rfl) ?_
  refine HO.val (v := .bool false) (want_none) rfl (q_assign rfl) ?_
  refine HO.nil (thenQ_normal (?_))
  refine HW.seq ?_
  refine HW.seq ?_
  refine HW.region ?_
  refine HO.val (v := .pointer (some ⟨c, 0, none⟩)) (want_none) rfl (q_move rfl) ?_
  refine HO.val (v := .bool false) (want_none) rfl (q_eqlPnil Try.underlying124 rfl rfl rfl) ?_
  refine HO.nil (thenQ_normal (?_))
  refine HW.condF rfl ?_
  refine HW.skip (thenQ_normal (?_))
  refine HW.seq ?_
  refine HW.region ?_
  refine HO.val (v := .pointer (some ⟨c, 0, none⟩)) (want_none) rfl (q_move rfl) ?_
  refine HO.val (v := .pointer (some ⟨c, 0, none⟩)) (want_none) rfl (q_nilCheck rfl) ?_
  refine HO.val (v := .pointer (some ⟨c, 0, none⟩)) (want_none) rfl (q_fieldAddr fa_159_0 rfl rfl) ?_
  refine HO.val (v := .map (some r)) (want_none) rfl (q_load to_157 rfl (Blk.cell hC rfl)) ?_
  refine HO.val (v := .int .i64 k) (want_none) rfl (q_move rfl) ?_
  refine HO.val (v := .tuple #[.int .i64 (mgetI m k), .bool ((mget m k).isSome)]) (want_none) rfl ((q_lookupOk (k := k) keyOk_int tm_157 hM rfl rfl).of_eq (by rw [mval_kI])) ?_
  refine HO.val (v := .tuple #[.int .i64 (mgetI m k), .bool ((mget m k).isSome)]) (want_none) rfl (q_move rfl) ?_
  refine HO.val (v := .int .i64 (mgetI m k)) (want_none) rfl (q_extract rfl rfl) ?_
  refine HO.val (v := .bool ((mget m k).isSome)) (want_none) rfl (q_extract rfl rfl) ?_
  refine HO.val (v := .int .i64 (mgetI m k)) (want_none) rfl (q_assign rfl) ?_
  refine HO.val (v := .bool ((mget m k).isSome)) (want_none) rfl (q_assign rfl) ?_
  refine HO.nil (thenQ_normal (?_))
  refine HW.seq ?_
  refine HW.region ?_
  refine HO.val (v := .int .i64 (mgetI m k)) (want_none) rfl (q_move rfl) ?_
  refine HO.val (v := .bool ((mget m k).isSome)) (want_none) rfl (q_move rfl) ?_
  refine HO.val (v := .int .i64 (mgetI m k)) (want_none) rfl (q_assign rfl) ?_
  refine HO.val (v := .bool ((mget m k).isSome)) (want_none) rfl (q_assign rfl) ?_
  refine HO.nil (thenQ_normal (?_))
  refine HW.ret (?_)
  refine ⟨.inr rfl, .tuple #[.int .i64 (mgetI m k), .bool ((mget m k).isSome)], res_two rfl rfl rfl, ?_⟩
  exact ⟨rfl, rfl⟩

set_option maxRecDepth 100000 in
theorem isNaN_spec (x : Int) (h0 : Heap) :
    HC Try.prog 141 #[.int .i64 x] h0 fun u h' => u = .bool false ∧ h' = h0 := by
  refine HC.of_HW (n := 6) Try.func141 rfl rfl (Nat.le_of_ble_eq_true rfl) ?_
  refine HW.seq ?_
  refine HW.region ?_
  refine HO.val (v := .bool false) (want_none) rfl (q_assign rfl) ?_
  refine HO.nil (thenQ_normal (?_))
  refine HW.seq ?_
  refine HW.region ?_
  refine HO.val (v := .int .i64 x) (want_none) rfl (q_move rfl) ?_
  refine HO.val (v := .int .i64 x) (want_none) rfl (q_move rfl) ?_
  refine HO.val (v := .bool (!decide (x = x))) (want_none) rfl (q_neq rfl rfl) ?_
  refine HO.val (v := .bool (!decide (x = x))) (want_none) rfl (q_assign rfl) ?_
  refine HO.nil (thenQ_normal (?_))
  refine HW.ret (?_)
  refine ⟨.inr rfl, .bool (!decide (x = x)), res_one rfl rfl, ?_⟩
  exact ⟨by simp, rfl⟩

set_option maxRecDepth 100000 in
theorem compare_spec (x y : Int) (h0 : Heap) :
    HC Try.prog 125 #[.int .i64 x, .int .i64 y] h0 fun u h' => u = .int .i64 (cmpI x y) ∧ h' = h0 := by
  refine HC.of_HW (n := 20) Try.func125 rfl rfl (Nat.le_of_ble_eq_true rfl) ?_
  refine HW.seq ?_
  refine HW.region ?_
  refine HO.val (v := .int .i64 0) (want_none) rfl (q_assign rfl) ?_
  refine HO.nil (thenQ_normal (?_))
  refine HW.seq ?_
  refine HW.region ?_
  refine HO.val (v := .int .i64 x) (want_none) rfl (q_move rfl) ?_
  refine HO.call (want_none) rfl (ec en_141 rfl rfl) (isNaN_spec x _) ?_
  rintro _ _ ⟨rfl, rfl⟩
  refine HO.val (v := .bool false) (want_none) rfl (q_assign rfl) ?_
  refine HO.nil (thenQ_normal (?_))
  refine HW.seq ?_
  refine HW.region ?_
  refine HO.val (v := .int .i64 y) (want_none) rfl (q_move rfl) ?_
  refine HO.call (want_none) rfl (ec en_141 rfl rfl) (isNaN_spec y _) ?_
  rintro _ _ ⟨rfl, rfl⟩
  refine HO.val (v := .bool false) (want_none) rfl (q_assign rfl) ?_
  refine HO.nil (thenQ_normal (?_))
  refine HW.seq ?_
  refine HW.seq ?_
  refine HW.region ?_
  refine HO.val (v := .bool false) (want_none) rfl (q_move rfl) ?_
  refine HO.nil (thenQ_normal (?_))
  refine HW.condF rfl ?_
  refine HW.skip (thenQ_normal (?_))
  refine HW.seq ?_
  refine HW.seq ?_
  refine HW.region ?_
  refine HO.val (v := .bool false) (want_none) rfl (q_move rfl) ?_
  refine HO.nil (thenQ_normal (?_))
  refine HW.condF rfl ?_
  refine HW.skip (thenQ_normal (?_))
  refine HW.seq ?_
  refine HW.seq ?_
  refine HW.region ?_
  refine HO.val (v := .int .i64 x) (want_none) rfl (q_move rfl) ?_
  refine HO.val (v := .int .i64 y) (want_none) rfl (q_move rfl) ?_
  refine HO.val (v := .bool (decide (x < y))) (want_none) rfl (q_lss rfl rfl) ?_
  refine HO.nil (thenQ_normal (?_))
  refine HW.cond (decide (x < y)) rfl (fun c1 => ?_) (fun c1 => ?_)
  · have c1p := of_decide_eq_true c1
    refine HW.seq ?_
    refine HW.region ?_
    refine HO.val (v := .int .i64 (-1)) (want_none) rfl (q_assign rfl) ?_
    refine HO.nil (thenQ_normal (?_))
    refine HW.ret (thenQ_ret (?_))
    refine ⟨.inr rfl, .int .i64 (-1), res_one rfl rfl, ?_⟩
    exact ⟨by congr 1; unfold cmpI; first | (rw [if_pos (by omega)]) | (rw [if_neg (by omega), if_pos (by omega)]) | (rw [if_neg (by omega), if_neg (by omega)]), rfl⟩
  · have c1p := of_decide_eq_false c1
    refine HW.skip (thenQ_normal (?_))
    refine HW.seq ?_
    refine HW.seq ?_
    refine HW.region ?_
    refine HO.val (v := .int .i64 x) (want_none) rfl (q_move rfl) ?_
    refine HO.val (v := .int .i64 y) (want_none) rfl (q_move rfl) ?_
    refine HO.val (v := .bool (decide (y < x))) (want_none) rfl (q_gtr rfl rfl) ?_
    refine HO.nil (thenQ_normal (?_))
    refine HW.cond (decide (y < x)) rfl (fun c2 => ?_) (fun c2 => ?_)
    · have c2p := of_decide_eq_true c2
      refine HW.seq ?_
      refine HW.region ?_
      refine HO.val (v := .int .i64 1) (want_none) rfl (q_assign rfl) ?_
      refine HO.nil (thenQ_normal (?_))
      refine HW.ret (thenQ_ret (?_))
      refine ⟨.inr rfl, .int .i64 1, res_one rfl rfl, ?_⟩
      exact ⟨by congr 1; unfold cmpI; first | (rw [if_pos (by omega)]) | (rw [if_neg (by omega), if_pos (by omega)]) | (rw [if_neg (by omega), if_neg (by omega)]), rfl⟩
    · have c2p := of_decide_eq_false c2
      refine HW.skip (thenQ_normal (?_))
      refine HW.seq ?_
      refine HW.region ?_
      refine HO.val (v := .int .i64 0) (want_none) rfl (q_assign rfl) ?_
      refine HO.nil (thenQ_normal (?_))
      refine HW.ret (?_)
      refine ⟨.inr rfl, .int .i64 0, res_one rfl rfl, ?_⟩
      exact ⟨by congr 1; unfold cmpI; first | (rw [if_pos (by omega)]) | (rw [if_neg (by omega), if_pos (by omega)]) | (rw [if_neg (by omega), if_neg (by omega)]), rfl⟩
end Go.HL.CI
