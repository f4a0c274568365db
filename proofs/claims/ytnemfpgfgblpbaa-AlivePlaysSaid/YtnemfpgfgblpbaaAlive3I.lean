/- Who is there: the small living call, and nobody. -/
import Derived.Test.YtnemfpgfgblpbaaOps2
import Derived.Test.YtnemfpgfgblpbaaProg
import Derived.Test.YtnemfpgfgblpbaaAlive2I
set_option linter.unusedSimpArgs false
set_option linter.unusedVariables false
set_option linter.unusedSectionVars false
namespace Go.HL.CI
open Go.Proofs
theorem en_15 (args : Array Value) (w : World) : (callFunc 15 args).run Try.prog w = .ok (.enter 15 args) w := by kernel_rfl
theorem en_16 (args : Array Value) (w : World) : (callFunc 16 args).run Try.prog w = .ok (.enter 16 args) w := by kernel_rfl
theorem en_18 (args : Array Value) (w : World) : (callFunc 18 args).run Try.prog w = .ok (.enter 18 args) w := by kernel_rfl
theorem en_23 (args : Array Value) (w : World) : (callFunc 23 args).run Try.prog w = .ok (.enter 23 args) w := by kernel_rfl
theorem en_19 (args : Array Value) (w : World) : (callFunc 19 args).run Try.prog w = .ok (.enter 19 args) w := by kernel_rfl
theorem en_31 (args : Array Value) (w : World) : (callFunc 31 args).run Try.prog w = .ok (.enter 31 args) w := by kernel_rfl
theorem en_28 (args : Array Value) (w : World) : (callFunc 28 args).run Try.prog w = .ok (.enter 28 args) w := by kernel_rfl
theorem en_25 (args : Array Value) (w : World) : (callFunc 25 args).run Try.prog w = .ok (.enter 25 args) w := by kernel_rfl
theorem en_29 (args : Array Value) (w : World) : (callFunc 29 args).run Try.prog w = .ok (.enter 29 args) w := by kernel_rfl
theorem en_20 (args : Array Value) (w : World) : (callFunc 20 args).run Try.prog w = .ok (.enter 20 args) w := by kernel_rfl
set_option maxRecDepth 100000 in
theorem lives_spec (h0 : Heap) :
    HC Try.prog 20 #[] h0 fun u h' => u = .bool true ∧ Ext h0 h' := by
  refine HC.of_HW (n := 33) Try.func20 rfl rfl (Nat.le_of_ble_eq_true rfl) ?_
  have hE := Ext.refl h0
  refine HW.seq ?_
  refine HW.region ?_
  refine HO.val (v := .bool false) (want_none) rfl (q_assign rfl) ?_
  refine HO.nil (thenQ_normal (?_))
  refine HW.seq ?_
  refine HW.region ?_
  refine HO.call (want_none) rfl (ec en_15 rfl rfl) (wnew_spec 2 _) ?_
  rintro _ h1 ⟨w, c, r, rfl, hI, hx, hwg, hcg, hrg⟩
  replace hE := hE.trans hx
  have hxs := hx.size
  have hwl := hI.blk.lt
  have hcl := hI.clk.lt
  have hrl := hI.map.lt
  replace hI : WatchIs h1 w c r 0 2 ([] : List (Int × Int)) := by have e : min (max (2 : Int) 1) 1000 = 2 := (by decide); rw [e] at hI; exact hI
  refine HO.val (v := .pointer (some ⟨w, 0, none⟩)) (want_none) rfl (q_assign rfl) ?_
  refine HO.nil (thenQ_normal (?_))
  refine HW.seq ?_
  refine HW.region ?_
  refine HO.val (v := .pointer (some ⟨w, 0, none⟩)) (want_none) rfl (q_move rfl) ?_
  refine HO.call (want_none) rfl (ec en_16 rfl rfl) (hear_spec w c r 0 2 ([] : List (Int × Int)) _ hI 5 (by omega) (by omega)) ?_
  rintro _ h2 ⟨rfl, hI', hx⟩
  replace hE := hE.onlyL hx (by simp; omega)
  replace hI : WatchIs h2 w c r 0 2 [(5, 2)] := by simpa [mset] using hI'
  have hxs := hx.size
  refine HO.val (v := .bool (!(mget ([] : List (Int × Int)) 5).isSome)) (want_none) rfl (q_assign rfl) ?_
  refine HO.nil (thenQ_normal (?_))
  refine HW.seq ?_
  refine HW.region ?_
  refine HO.val (v := .pointer (some ⟨w, 0, none⟩)) (want_none) rfl (q_move rfl) ?_
  refine HO.call (want_none) rfl (ec en_18 rfl rfl) (beat_spec w c r 0 2 [(5, 2)] _ hI (by omega) (by simp)) ?_
  rintro vl1 h3 ⟨l1, hdl1, hOl1, hI', hx⟩
  replace hE := hE.onlyL hx (by simp; omega)
  replace hI : WatchIs h3 w c r 1 2 [(5, 2)] := by simpa using hI'
  have hxs := hx.size
  have el1 : l1 = [] := by have := hdl1.perm; exact List.perm_nil.1 (this.trans (by decide))
  subst el1
  refine HO.val (v := .pointer (some ⟨w, 0, none⟩)) (want_none) rfl (q_move rfl) ?_
  refine HO.call (want_none) rfl (ec en_18 rfl rfl) (beat_spec w c r 1 2 [(5, 2)] _ hI (by omega) (by simp)) ?_
  rintro vl2 h4 ⟨l2, hdl2, hOl2, hI', hx⟩
  replace hE := hE.onlyL hx (by simp; omega)
  replace hOl1 := hOl1.onlyL hx (hOl1.notin (by simp; omega))
  replace hI : WatchIs h4 w c r 2 2 ([] : List (Int × Int)) := by simpa using hI'
  have hxs := hx.size
  have el2 : l2 = [5] := by have := hdl2.perm; exact List.perm_singleton.1 (this.trans (by decide))
  subst el2
  refine HO.val (v := vl1) (want_none) rfl (q_assign rfl) ?_
  refine HO.val (v := vl2) (want_none) rfl (q_assign rfl) ?_
  refine HO.nil (thenQ_normal (?_))
  refine HW.seq ?_
  refine HW.region ?_
  refine HO.val (v := .bool (!(mget ([] : List (Int × Int)) 5).isSome)) (want_none) rfl (q_move rfl) ?_
  refine HO.val (v := .bool (!(mget ([] : List (Int × Int)) 5).isSome)) (want_none) rfl (q_move rfl) ?_
  have k3 : ((mget ([] : List (Int × Int)) 5).isSome) = false := by decide
  refine HO.val (v := vl1) (want_by rfl rfl (by rw [k3]; rfl)) rfl (q_move rfl) ?_
  refine HO.val (v := .int .i64 0) (want_by rfl rfl (by rw [k3]; rfl)) rfl (q_len ts_22 hOl1.slice rfl rfl) ?_
  refine HO.val (v := .bool (decide (0 = 0))) (want_by rfl rfl (by rw [k3]; rfl)) rfl (q_eql rfl rfl) ?_
  refine HO.val (v := .bool (decide (0 = 0))) (want_none) rfl (q_pickK true rfl (by rw [k3]; rfl) rfl) ?_
  refine HO.val (v := .bool (decide (0 = 0))) (want_none) rfl (q_move rfl) ?_
  have k4 : (decide (0 = 0)) = true := by decide
  refine HO.val (v := vl2) (want_by rfl rfl k4) rfl (q_move rfl) ?_
  refine HO.eff (want_by rfl rfl k4) rfl (e_lit (cells := #[.int .i64 5]) #[.int .i64 0] tl_22 (by decide) (by decide) (by kernel_rfl) rfl) ?_
  rintro _ h5 ⟨b5, rfl, hn⟩
  replace hE := hE.trans hn.ext
  replace hOl1 := hOl1.ext hn.ext
  replace hI := hI.ext hn.ext
  replace hOl2 := hOl2.ext hn.ext
  have hb5 : Blk h5 b5 (.cells #[.int .i64 5] 3 (0, 0)) := hn.blk
  have hb5a := hn.at_; have hb5s := hn.size; clear hn
  have hS1 : SliceIs h5 1 encI (.slice (some ⟨b5, 0, none⟩) 1 1) [5] := (OwnIs.lit (base := 0) (E := 3) (l := [5]) hb5 (Nat.zero_le _) (by simp [maxLen]) (by simp [encI]) rfl).slice
  refine HO.call (want_by rfl rfl k4) rfl (ec en_23 rfl rfl) (same_spec _ _ ([5] : List Int) [5] _ hOl2.slice hS1) ?_
  rintro _ _ ⟨rfl, rfl⟩
  refine HO.val (v := .bool (decide (([5] : List Int) = [5]))) (want_none) rfl (q_pickK true rfl k4 rfl) ?_
  refine HO.val (v := .bool (decide (([5] : List Int) = [5]))) (want_none) rfl (q_move rfl) ?_
  have k6 : (decide (([5] : List Int) = [5])) = true := by decide
  refine HO.val (v := .pointer (some ⟨w, 0, none⟩)) (want_by rfl rfl k6) rfl (q_move rfl) ?_
  refine HO.call (want_by rfl rfl k6) rfl (ec en_19 rfl rfl) (is_spec w c r 2 2 ([] : List (Int × Int)) _ hI 5 (by omega) (by intro k v h; simp [mget] at h)) ?_
  rintro _ _ ⟨rfl, rfl⟩
  refine HO.val (v := .bool (!(decide (0 < wleft ([] : List (Int × Int)) 2 5)))) (want_by rfl rfl k6) rfl (q_not rfl) ?_
  refine HO.val (v := .bool (!(decide (0 < wleft ([] : List (Int × Int)) 2 5)))) (want_none) rfl (q_pickK true rfl k6 rfl) ?_
  refine HO.val (v := .bool (!(decide (0 < wleft ([] : List (Int × Int)) 2 5)))) (want_none) rfl (q_move rfl) ?_
  have k7 : (decide (0 < wleft ([] : List (Int × Int)) 2 5)) = false := by decide
  refine HO.val (v := .pointer (some ⟨w, 0, none⟩)) (want_by rfl rfl (by rw [k7]; rfl)) rfl (q_move rfl) ?_
  refine HO.call (want_by rfl rfl (by rw [k7]; rfl)) rfl (ec en_31 rfl rfl) (beats_spec w c r 2 2 ([] : List (Int × Int)) _ hI  ) ?_
  rintro _ _ ⟨rfl, rfl⟩
  refine HO.val (v := .bool (decide (2 = 2))) (want_by rfl rfl (by rw [k7]; rfl)) rfl (q_eql rfl rfl) ?_
  refine HO.val (v := .bool (decide (2 = 2))) (want_none) rfl (q_pickK true rfl (by rw [k7]; rfl) rfl) ?_
  refine HO.val (v := .bool (decide (2 = 2))) (want_none) rfl (q_assign rfl) ?_
  refine HO.nil (thenQ_normal (?_))
  refine HW.ret (?_)
  refine ⟨.inr rfl, .bool (decide (2 = 2)), res_one rfl rfl, ?_⟩
  exact ⟨by simp, hE⟩

set_option maxRecDepth 100000 in
theorem alive_nil (id : Int) (h0 : Heap) :
    HC Try.prog 5 #[.int .i64 id] h0 fun u h' => u = .bool true ∧ Ext h0 h' := by
  refine HC.of_HW (n := 46) Try.func5 rfl rfl (Nat.le_of_ble_eq_true rfl) ?_
  have hE := Ext.refl h0
  refine HW.seq ?_
  refine HW.region ?_
  refine HO.val (v := .bool false) (want_none) rfl (q_assign rfl) ?_
  refine HO.nil (thenQ_normal (?_))
  refine HW.seq ?_
  refine HW.region ?_
  refine HO.val (v := .pointer none) (want_none) rfl (q_assign rfl) ?_
  refine HO.nil (thenQ_normal (?_))
  refine HW.seq ?_
  refine HW.region ?_
  refine HO.val (v := .pointer none) (want_none) rfl (q_move rfl) ?_
  refine HO.val (v := .int .i64 id) (want_none) rfl (q_move rfl) ?_
  refine HO.call (want_none) rfl (ec en_16 rfl rfl) (hear_nil id _) ?_
  rintro _ _ ⟨rfl, rfl⟩
  refine HO.val (v := .bool true) (want_none) rfl (q_not (b := false) rfl) ?_
  refine HO.val (v := .bool true) (want_none) rfl (q_move rfl) ?_
  refine HO.val (v := .pointer none) (want_some rfl rfl) rfl (q_move rfl) ?_
  refine HO.call (want_some rfl rfl) rfl (ec en_18 rfl rfl) (beat_nil _) ?_
  rintro _ _ ⟨rfl, rfl⟩
  refine HO.val (v := .int .i64 0) (want_some rfl rfl) rfl (q_lenNil Try.underlying22 rfl rfl) ?_
  refine HO.val (v := .bool (decide (0 = 0))) (want_some rfl rfl) rfl (q_eql rfl rfl) ?_
  refine HO.val (v := .bool (decide (0 = 0))) (want_none) rfl (q_pick rfl rfl) ?_
  refine HO.val (v := .bool (decide (0 = 0))) (want_none) rfl (q_move rfl) ?_
  have k1 : (decide (0 = 0)) = true := by decide
  refine HO.val (v := .pointer none) (want_by rfl rfl k1) rfl (q_move rfl) ?_
  refine HO.val (v := .int .i64 id) (want_by rfl rfl k1) rfl (q_move rfl) ?_
  refine HO.call (want_by rfl rfl k1) rfl (ec en_19 rfl rfl) (is_nil id _) ?_
  rintro _ _ ⟨rfl, rfl⟩
  refine HO.val (v := .bool true) (want_by rfl rfl k1) rfl (q_not (b := false) rfl) ?_
  refine HO.val (v := .bool true) (want_none) rfl (q_pickK true rfl k1 rfl) ?_
  refine HO.val (v := .bool true) (want_none) rfl (q_move rfl) ?_
  refine HO.val (v := .pointer none) (want_some rfl rfl) rfl (q_move rfl) ?_
  refine HO.val (v := .int .i64 id) (want_some rfl rfl) rfl (q_move rfl) ?_
  refine HO.call (want_some rfl rfl) rfl (ec en_28 rfl rfl) (wleft_nil id _) ?_
  rintro _ _ ⟨rfl, rfl⟩
  refine HO.val (v := .bool (decide (0 = 0))) (want_some rfl rfl) rfl (q_eql rfl rfl) ?_
  refine HO.val (v := .bool (decide (0 = 0))) (want_none) rfl (q_pick rfl rfl) ?_
  refine HO.val (v := .bool (decide (0 = 0))) (want_none) rfl (q_move rfl) ?_
  refine HO.val (v := .pointer none) (want_by rfl rfl k1) rfl (q_move rfl) ?_
  refine HO.val (v := .int .i64 id) (want_by rfl rfl k1) rfl (q_move rfl) ?_
  refine HO.call (want_by rfl rfl k1) rfl (ec en_25 rfl rfl) (wcut_nil id _) ?_
  rintro _ _ ⟨rfl, rfl⟩
  refine HO.val (v := .bool true) (want_by rfl rfl k1) rfl (q_not (b := false) rfl) ?_
  refine HO.val (v := .bool true) (want_none) rfl (q_pickK true rfl k1 rfl) ?_
  refine HO.val (v := .bool true) (want_none) rfl (q_move rfl) ?_
  refine HO.val (v := .pointer none) (want_some rfl rfl) rfl (q_move rfl) ?_
  refine HO.call (want_some rfl rfl) rfl (ec en_29 rfl rfl) (list_nil _) ?_
  rintro _ _ ⟨rfl, rfl⟩
  refine HO.val (v := .int .i64 0) (want_some rfl rfl) rfl (q_lenNil Try.underlying22 rfl rfl) ?_
  refine HO.val (v := .bool (decide (0 = 0))) (want_some rfl rfl) rfl (q_eql rfl rfl) ?_
  refine HO.val (v := .bool (decide (0 = 0))) (want_none) rfl (q_pick rfl rfl) ?_
  refine HO.val (v := .bool (decide (0 = 0))) (want_none) rfl (q_move rfl) ?_
  refine HO.val (v := .pointer none) (want_by rfl rfl k1) rfl (q_move rfl) ?_
  refine HO.call (want_by rfl rfl k1) rfl (ec en_31 rfl rfl) (beats_nil  _) ?_
  rintro _ _ ⟨rfl, rfl⟩
  refine HO.val (v := .bool (decide (0 = 0))) (want_by rfl rfl k1) rfl (q_eql rfl rfl) ?_
  refine HO.val (v := .bool (decide (0 = 0))) (want_none) rfl (q_pickK true rfl k1 rfl) ?_
  refine HO.val (v := .bool (decide (0 = 0))) (want_none) rfl (q_move rfl) ?_
  refine HO.call (want_by rfl rfl k1) rfl (ec en_20 rfl rfl) (lives_spec _) ?_
  rintro _ h1 ⟨rfl, hx⟩
  replace hE := hE.trans hx
  have hxs := hx.size
  refine HO.val (v := .bool true) (want_none) rfl (q_pickK true rfl k1 rfl) ?_
  refine HO.val (v := .bool true) (want_none) rfl (q_assign rfl) ?_
  refine HO.nil (thenQ_normal (?_))
  refine HW.ret (?_)
  refine ⟨.inr rfl, .bool true, res_one rfl rfl, ?_⟩
  exact ⟨rfl, hE⟩
end Go.HL.CI
