/- Where routers are: the small living call, and no ports. -/
import Derived.Test.YtnemfpgfgblpbaaOps2
import Derived.Test.YtnemfpgfgblpbaaProg
import Derived.Test.YtnemfpgfgblpbaaDueI
import Derived.Test.YtnemfpgfgblpbaaOps3
import Derived.Test.YtnemfpgfgblpbaaRouteI
set_option linter.unusedSimpArgs false
set_option linter.unusedVariables false
set_option linter.unusedSectionVars false
namespace Go.HL.CI
open Go.Proofs
theorem en_54 (args : Array Value) (w : World) : (callFunc 54 args).run Try.prog w = .ok (.enter 54 args) w := by kernel_rfl
theorem en_58 (args : Array Value) (w : World) : (callFunc 58 args).run Try.prog w = .ok (.enter 58 args) w := by kernel_rfl
theorem en_70 (args : Array Value) (w : World) : (callFunc 70 args).run Try.prog w = .ok (.enter 70 args) w := by kernel_rfl
theorem en_56 (args : Array Value) (w : World) : (callFunc 56 args).run Try.prog w = .ok (.enter 56 args) w := by kernel_rfl
theorem en_55 (args : Array Value) (w : World) : (callFunc 55 args).run Try.prog w = .ok (.enter 55 args) w := by kernel_rfl
theorem en_63 (args : Array Value) (w : World) : (callFunc 63 args).run Try.prog w = .ok (.enter 63 args) w := by kernel_rfl
theorem en_60 (args : Array Value) (w : World) : (callFunc 60 args).run Try.prog w = .ok (.enter 60 args) w := by kernel_rfl
theorem en_68 (args : Array Value) (w : World) : (callFunc 68 args).run Try.prog w = .ok (.enter 68 args) w := by kernel_rfl
theorem en_65 (args : Array Value) (w : World) : (callFunc 65 args).run Try.prog w = .ok (.enter 65 args) w := by kernel_rfl
theorem en_52 (args : Array Value) (w : World) : (callFunc 52 args).run Try.prog w = .ok (.enter 52 args) w := by kernel_rfl
set_option maxRecDepth 100000 in
theorem rlives_spec (h0 : Heap) :
    HC Try.prog 52 #[] h0 fun u h' => u = .bool true ∧ Ext h0 h' := by
  refine HC.of_HW (n := 25) Try.func52 rfl rfl (Nat.le_of_ble_eq_true rfl) ?_
  have hE := Ext.refl h0
  refine HW.seq ?_
  refine HW.region ?_
  refine HO.val (v := .bool false) (want_none) rfl (q_assign rfl) ?_
  refine HO.nil (thenQ_normal (?_))
  refine HW.seq ?_
  refine HW.region ?_
  refine HO.call (want_none) rfl (ec en_54 rfl rfl) (rnew_spec 2 _) ?_
  rintro _ h1 ⟨b, c, r, fv, rfl, hI, hx, hbg, hcg, hrg, hfg⟩
  replace hE := hE.trans hx
  have hxs := hx.size
  replace hI : RoutesIs h1 b c r 0 fv [false, false] ([] : List (Int × Int)) := hI
  refine HO.val (v := .pointer (some ⟨b, 0, none⟩)) (want_none) rfl (q_assign rfl) ?_
  refine HO.nil (thenQ_normal (?_))
  refine HW.seq ?_
  refine HW.region ?_
  refine HO.val (v := .pointer (some ⟨b, 0, none⟩)) (want_none) rfl (q_move rfl) ?_
  refine HO.call (want_none) rfl (ec en_58 rfl rfl) (rlen_spec b c r _ fv [false, false] _ _ hI) ?_
  rintro _ _ ⟨rfl, rfl⟩
  refine HO.val (v := .bool (decide (2 = 2))) (want_none) rfl (q_eql rfl rfl) ?_
  refine HO.val (v := .bool (decide (2 = 2))) (want_none) rfl (q_move rfl) ?_
  have k1 : (decide (2 = 2)) = true := by decide
  refine HO.val (v := .pointer (some ⟨b, 0, none⟩)) (want_by rfl rfl k1) rfl (q_move rfl) ?_
  refine HO.call (want_by rfl rfl k1) rfl (ec en_70 rfl rfl) (usual_spec _) ?_
  rintro _ h2 ⟨rfl, hx⟩
  replace hE := hE.trans hx
  replace hI := hI.ext hx
  have hxs := hx.size
  refine HO.call (want_by rfl rfl k1) rfl (ec en_56 rfl rfl) (rhear_spec b c r 0 fv [false, false] ([] : List (Int × Int)) _ hI 0 2 12 2 2 2 (by simp) 1 (by simp) (by omega) (by decide)) ?_
  rintro _ h3 ⟨rfl, hI', hx⟩
  replace hE := hE.onlyL hx (by simp; omega)
  replace hI : RoutesIs h3 b c r 0 fv [false, false] ([(1, 25)] : List (Int × Int)) := by exact hI'
  have hxs := hx.size
  refine HO.val (v := .bool true) (want_none) rfl (q_pickK true rfl k1 rfl) ?_
  refine HO.val (v := .bool true) (want_none) rfl (q_move rfl) ?_
  refine HO.val (v := .pointer (some ⟨b, 0, none⟩)) (want_some rfl rfl) rfl (q_move rfl) ?_
  refine HO.call (want_some rfl rfl) rfl (ec en_55 rfl rfl) (ris_spec b c r 0 fv [false, false] ([(1, 25)] : List (Int × Int)) _ hI 24 (by simp) 1 (by simp)) ?_
  rintro _ h4 ⟨rfl, hI', hx⟩
  replace hE := hE.onlyL hx (by simp; omega)
  replace hI : RoutesIs h4 b c r 24 fv [false, false] ([(1, 25)] : List (Int × Int)) := by exact hI'
  have hxs := hx.size
  refine HO.val (v := .bool ((mget (live ([(1, 25)] : List (Int × Int)) (snow 0 24)) 1).isSome || [false, false][1])) (want_none) rfl (q_pick rfl rfl) ?_
  refine HO.val (v := .bool ((mget (live ([(1, 25)] : List (Int × Int)) (snow 0 24)) 1).isSome || [false, false][1])) (want_none) rfl (q_move rfl) ?_
  have k2 : ((mget (live ([(1, 25)] : List (Int × Int)) (snow 0 24)) 1).isSome || [false, false][1]) = true := by decide
  refine HO.val (v := .pointer (some ⟨b, 0, none⟩)) (want_by rfl rfl k2) rfl (q_move rfl) ?_
  refine HO.call (want_by rfl rfl k2) rfl (ec en_55 rfl rfl) (ris_spec b c r 24 fv [false, false] ([(1, 25)] : List (Int × Int)) _ hI 24 (by simp) 0 (by simp)) ?_
  rintro _ h5 ⟨rfl, hI', hx⟩
  replace hE := hE.onlyL hx (by simp; omega)
  replace hI : RoutesIs h5 b c r 24 fv [false, false] ([(1, 25)] : List (Int × Int)) := by exact hI'
  have hxs := hx.size
  refine HO.val (v := .bool (!((mget (live ([(1, 25)] : List (Int × Int)) (snow 24 24)) 0).isSome || [false, false][0]))) (want_by rfl rfl k2) rfl (q_not rfl) ?_
  refine HO.val (v := .bool (!((mget (live ([(1, 25)] : List (Int × Int)) (snow 24 24)) 0).isSome || [false, false][0]))) (want_none) rfl (q_pickK true rfl k2 rfl) ?_
  refine HO.val (v := .bool (!((mget (live ([(1, 25)] : List (Int × Int)) (snow 24 24)) 0).isSome || [false, false][0]))) (want_none) rfl (q_move rfl) ?_
  have k3 : ((mget (live ([(1, 25)] : List (Int × Int)) (snow 24 24)) 0).isSome || [false, false][0]) = false := by decide
  refine HO.val (v := .pointer (some ⟨b, 0, none⟩)) (want_by rfl rfl (by rw [k3]; rfl)) rfl (q_move rfl) ?_
  refine HO.call (want_by rfl rfl (by rw [k3]; rfl)) rfl (ec en_55 rfl rfl) (ris_spec b c r 24 fv [false, false] ([(1, 25)] : List (Int × Int)) _ hI 25 (by simp) 1 (by simp)) ?_
  rintro _ h6 ⟨rfl, hI', hx⟩
  replace hE := hE.onlyL hx (by simp; omega)
  replace hI : RoutesIs h6 b c r 25 fv [false, false] ([] : List (Int × Int)) := by exact hI'
  have hxs := hx.size
  refine HO.val (v := .bool (!((mget (live ([(1, 25)] : List (Int × Int)) (snow 24 25)) 1).isSome || [false, false][1]))) (want_by rfl rfl (by rw [k3]; rfl)) rfl (q_not rfl) ?_
  refine HO.val (v := .bool (!((mget (live ([(1, 25)] : List (Int × Int)) (snow 24 25)) 1).isSome || [false, false][1]))) (want_none) rfl (q_pickK true rfl (by rw [k3]; rfl) rfl) ?_
  refine HO.val (v := .bool (!((mget (live ([(1, 25)] : List (Int × Int)) (snow 24 25)) 1).isSome || [false, false][1]))) (want_none) rfl (q_assign rfl) ?_
  refine HO.nil (thenQ_normal (?_))
  refine HW.ret (?_)
  refine ⟨.inr rfl, .bool (!((mget (live ([(1, 25)] : List (Int × Int)) (snow 24 25)) 1).isSome || [false, false][1])), res_one rfl rfl, ?_⟩
  exact ⟨rfl, hE⟩

set_option maxRecDepth 100000 in
theorem route_nil (now port : Int) (h0 : Heap) :
    HC Try.prog 11 #[.int .i64 now, .int .i64 port] h0 fun u h' => u = .bool true ∧ Ext h0 h' := by
  refine HC.of_HW (n := 59) Try.func11 rfl rfl (Nat.le_of_ble_eq_true rfl) ?_
  have hE := Ext.refl h0
  refine HW.seq ?_
  refine HW.region ?_
  refine HO.val (v := .bool false) (want_none) rfl (q_assign rfl) ?_
  refine HO.nil (thenQ_normal (?_))
  refine HW.seq ?_
  refine HW.region ?_
  refine HO.val (v := .pointer none) (want_none) rfl (q_assign rfl) ?_
  refine HO.nil (thenQ_normal (?_))
  refine HW.seq ?_
  refine HW.region ?_
  refine HO.val (v := .pointer none) (want_none) rfl (q_move rfl) ?_
  refine HO.val (v := .int .i64 now) (want_none) rfl (q_move rfl) ?_
  refine HO.call (want_none) rfl (ec en_63 rfl rfl) (rnext_nil now _) ?_
  rintro _ _ ⟨rfl, rfl⟩
  refine HO.val (v := .tuple #[.int .i64 0, .bool false]) (want_none) rfl (q_move rfl) ?_
  refine HO.val (v := .int .i64 0) (want_none) rfl (q_extract rfl rfl) ?_
  refine HO.val (v := .bool false) (want_none) rfl (q_extract rfl rfl) ?_
  refine HO.val (v := .int .i64 0) (want_none) rfl (q_assign rfl) ?_
  refine HO.val (v := .bool false) (want_none) rfl (q_assign rfl) ?_
  refine HO.nil (thenQ_normal (?_))
  refine HW.seq ?_
  refine HW.region ?_
  refine HO.val (v := .pointer none) (want_none) rfl (q_move rfl) ?_
  refine HO.val (v := .int .i64 now) (want_none) rfl (q_move rfl) ?_
  refine HO.call (want_none) rfl (ec en_70 rfl rfl) (usual_spec _) ?_
  rintro _ h1 ⟨rfl, hx⟩
  replace hE := hE.trans hx
  have hxs := hx.size
  refine HO.val (v := .int .i64 port) (want_none) rfl (q_move rfl) ?_
  refine HO.call (want_none) rfl (ec en_56 rfl rfl) (rhear_nil now port 2 12 2 2 2 _) ?_
  rintro _ h2 ⟨rfl, hx⟩
  replace hE := hE.trans hx
  have hxs := hx.size
  refine HO.val (v := .bool true) (want_none) rfl (q_not (b := false) rfl) ?_
  refine HO.val (v := .bool true) (want_none) rfl (q_move rfl) ?_
  refine HO.val (v := .pointer none) (want_some rfl rfl) rfl (q_move rfl) ?_
  refine HO.val (v := .int .i64 port) (want_some rfl rfl) rfl (q_move rfl) ?_
  refine HO.call (want_some rfl rfl) rfl (ec en_60 rfl rfl) (rfix_nil port true _) ?_
  rintro _ _ ⟨rfl, rfl⟩
  refine HO.val (v := .bool true) (want_some rfl rfl) rfl (q_not (b := false) rfl) ?_
  refine HO.val (v := .bool true) (want_none) rfl (q_pick rfl rfl) ?_
  refine HO.val (v := .bool true) (want_none) rfl (q_move rfl) ?_
  refine HO.val (v := .pointer none) (want_some rfl rfl) rfl (q_move rfl) ?_
  refine HO.val (v := .int .i64 now) (want_some rfl rfl) rfl (q_move rfl) ?_
  refine HO.val (v := .int .i64 port) (want_some rfl rfl) rfl (q_move rfl) ?_
  refine HO.call (want_some rfl rfl) rfl (ec en_55 rfl rfl) (ris_nil now port _) ?_
  rintro _ _ ⟨rfl, rfl⟩
  refine HO.val (v := .bool true) (want_some rfl rfl) rfl (q_not (b := false) rfl) ?_
  refine HO.val (v := .bool true) (want_none) rfl (q_pick rfl rfl) ?_
  refine HO.val (v := .bool true) (want_none) rfl (q_move rfl) ?_
  refine HO.val (v := .pointer none) (want_some rfl rfl) rfl (q_move rfl) ?_
  refine HO.val (v := .int .i64 now) (want_some rfl rfl) rfl (q_move rfl) ?_
  refine HO.val (v := .int .i64 port) (want_some rfl rfl) rfl (q_move rfl) ?_
  refine HO.call (want_some rfl rfl) rfl (ec en_68 rfl rfl) (rleft_nil now port _) ?_
  rintro _ _ ⟨rfl, rfl⟩
  refine HO.val (v := .bool (decide (0 = 0))) (want_some rfl rfl) rfl (q_eql rfl rfl) ?_
  refine HO.val (v := .bool (decide (0 = 0))) (want_none) rfl (q_pick rfl rfl) ?_
  refine HO.val (v := .bool (decide (0 = 0))) (want_none) rfl (q_move rfl) ?_
  have k1 : (decide (0 = 0)) = true := by decide
  refine HO.val (v := .pointer none) (want_by rfl rfl k1) rfl (q_move rfl) ?_
  refine HO.val (v := .int .i64 now) (want_by rfl rfl k1) rfl (q_move rfl) ?_
  refine HO.call (want_by rfl rfl k1) rfl (ec en_65 rfl rfl) (rports_nil now _) ?_
  rintro _ _ ⟨rfl, rfl⟩
  refine HO.val (v := .int .i64 0) (want_by rfl rfl k1) rfl (q_lenNil Try.underlying22 rfl rfl) ?_
  refine HO.val (v := .bool (decide (0 = 0))) (want_by rfl rfl k1) rfl (q_eql rfl rfl) ?_
  refine HO.val (v := .bool (decide (0 = 0))) (want_none) rfl (q_pickK true rfl k1 rfl) ?_
  refine HO.val (v := .bool (decide (0 = 0))) (want_none) rfl (q_move rfl) ?_
  refine HO.val (v := .bool false) (want_by rfl rfl k1) rfl (q_move rfl) ?_
  refine HO.val (v := .bool true) (want_by rfl rfl k1) rfl (q_not (b := false) rfl) ?_
  refine HO.val (v := .bool true) (want_none) rfl (q_pickK true rfl k1 rfl) ?_
  refine HO.val (v := .bool true) (want_none) rfl (q_move rfl) ?_
  refine HO.val (v := .pointer none) (want_some rfl rfl) rfl (q_move rfl) ?_
  refine HO.call (want_some rfl rfl) rfl (ec en_58 rfl rfl) (rlen_nil _) ?_
  rintro _ _ ⟨rfl, rfl⟩
  refine HO.val (v := .bool (decide (0 = 0))) (want_some rfl rfl) rfl (q_eql rfl rfl) ?_
  refine HO.val (v := .bool (decide (0 = 0))) (want_none) rfl (q_pick rfl rfl) ?_
  refine HO.val (v := .bool (decide (0 = 0))) (want_none) rfl (q_move rfl) ?_
  refine HO.call (want_by rfl rfl k1) rfl (ec en_52 rfl rfl) (rlives_spec _) ?_
  rintro _ h3 ⟨rfl, hx⟩
  replace hE := hE.trans hx
  have hxs := hx.size
  refine HO.val (v := .bool true) (want_none) rfl (q_pickK true rfl k1 rfl) ?_
  refine HO.val (v := .bool true) (want_none) rfl (q_assign rfl) ?_
  refine HO.nil (thenQ_normal (?_))
  refine HW.ret (?_)
  refine ⟨.inr rfl, .bool true, res_one rfl rfl, ?_⟩
  exact ⟨rfl, hE⟩
end Go.HL.CI
