/- Where a router is heard often enough it is: the walk. -/
import Derived.Test.YtnemfpgfgblpbaaOps2
import Derived.Test.YtnemfpgfgblpbaaProg
import Derived.Test.YtnemfpgfgblpbaaDueI
import Derived.Test.YtnemfpgfgblpbaaOps3
import Derived.Test.YtnemfpgfgblpbaaRoute2I
import Derived.Test.YtnemfpgfgblpbaaArgs
set_option linter.unusedSimpArgs false
set_option linter.unusedVariables false
set_option linter.unusedSectionVars false
namespace Go.HL.CI
open Go.Proofs
theorem fa_71_4 : FieldAt Try.prog 71 4 4 := fun a w => by kernel_rfl
theorem fa_71_3 : FieldAt Try.prog 71 3 3 := fun a w => by kernel_rfl
theorem en_51 (args : Array Value) (w : World) : (callFunc 51 args).run Try.prog w = .ok (.enter 51 args) w := by kernel_rfl
theorem en_53 (args : Array Value) (w : World) : (callFunc 53 args).run Try.prog w = .ok (.enter 53 args) w := by kernel_rfl
theorem ts_72 : TSlice Try.prog 72 77 1 := ⟨Try.underlying72, Try.sizeOf77⟩
theorem to_77 : TOne Try.prog 77 := ⟨Try.isAgg77, Try.sizeOf77⟩
def Good (t0 t1 t2 t3 t4 : Int) : Prop := 1 ≤ t0 ∧ t0 ≤ 7 ∧ 1 ≤ t4 ∧ t4 ≤ 7 ∧ 1 ≤ t1 ∧ t1 ≤ 317440 ∧ 1 ≤ t2 ∧ t2 ≤ 31744 ∧ 1 ≤ t3 ∧ t3 ≤ 31744 ∧ t2 ≤ t1
instance (t0 t1 t2 t3 t4 : Int) : Decidable (Good t0 t1 t2 t3 t4) := by unfold Good; infer_instance

set_option maxRecDepth 100000 in
theorem good_spec (t0 t1 t2 t3 t4 : Int) (h0 : Heap) :
    HC Try.prog 51 #[.agg #[.int .i64 t0, .int .i64 t1, .int .i64 t2, .int .i64 t3, .int .i64 t4]] h0 fun u h' => u = .bool (decide (Good t0 t1 t2 t3 t4)) ∧ Ext h0 h' := by
  refine HC.of_HW (n := 56) Try.func51 rfl rfl (Nat.le_of_ble_eq_true rfl) ?_
  have hE := Ext.refl h0
  refine HW.seq ?_
  refine HW.region ?_
  refine HO.eff (want_none) rfl (e_box (c := #[.int .i64 t0, .int .i64 t1, .int .i64 t2, .int .i64 t3, .int .i64 t4]) (k' := 5) rfl rfl) ?_
  rintro _ h1 ⟨b1, rfl, hn⟩
  replace hE := hE.trans hn.ext
  have hb1 : Blk h1 b1 (.cells #[.int .i64 t0, .int .i64 t1, .int .i64 t2, .int .i64 t3, .int .i64 t4] 71 (0, 0)) := hn.blk
  have hb1a := hn.at_; have hb1s := hn.size; clear hn
  refine HO.val (v := .bool false) (want_none) rfl (q_assign rfl) ?_
  refine HO.nil (thenQ_normal (?_))
  refine HW.seq ?_
  refine HW.seq ?_
  refine HW.region ?_
  refine HO.val (v := .pointer (some ⟨b1, 0, none⟩)) (want_none) rfl (q_fieldAddr fa_71_0 rfl rfl) ?_
  refine HO.val (v := .int .i64 t0) (want_none) rfl (q_load to_3 rfl (Blk.cell hb1 rfl)) ?_
  refine HO.val (v := .bool (decide (t0 < 1))) (want_none) rfl (q_lss rfl rfl) ?_
  refine HO.val (v := .bool (decide (t0 < 1))) (want_none) rfl (q_move rfl) ?_
  rcases Bool.eq_false_or_eq_true (decide (t0 < 1)) with g2 | g2
  · have g2p := of_decide_eq_true g2
    refine HO.past (past_by rfl rfl g2) rfl ?_
    refine HO.past (past_by rfl rfl g2) rfl ?_
    refine HO.past (past_by rfl rfl g2) rfl ?_
    refine HO.val (v := .bool true) (want_none) rfl (q_pickK true rfl g2 rfl) ?_
    refine HO.val (v := .bool true) (want_none) rfl (q_move rfl) ?_
    refine HO.past (past_some rfl rfl) rfl ?_
    refine HO.past (past_some rfl rfl) rfl ?_
    refine HO.past (past_some rfl rfl) rfl ?_
    refine HO.val (v := .bool true) (want_none) rfl (q_pick rfl rfl) ?_
    refine HO.val (v := .bool true) (want_none) rfl (q_move rfl) ?_
    refine HO.past (past_some rfl rfl) rfl ?_
    refine HO.past (past_some rfl rfl) rfl ?_
    refine HO.past (past_some rfl rfl) rfl ?_
    refine HO.val (v := .bool true) (want_none) rfl (q_pick rfl rfl) ?_
    refine HO.val (v := .bool true) (want_none) rfl (q_move rfl) ?_
    refine HO.past (past_some rfl rfl) rfl ?_
    refine HO.past (past_some rfl rfl) rfl ?_
    refine HO.past (past_some rfl rfl) rfl ?_
    refine HO.val (v := .bool true) (want_none) rfl (q_pick rfl rfl) ?_
    refine HO.val (v := .bool true) (want_none) rfl (q_move rfl) ?_
    refine HO.past (past_some rfl rfl) rfl ?_
    refine HO.past (past_some rfl rfl) rfl ?_
    refine HO.past (past_some rfl rfl) rfl ?_
    refine HO.val (v := .bool true) (want_none) rfl (q_pick rfl rfl) ?_
    refine HO.nil (thenQ_normal (?_))
    refine HW.condT rfl ?_
    refine HW.seq ?_
    refine HW.region ?_
    refine HO.val (v := .bool false) (want_none) rfl (q_assign rfl) ?_
    refine HO.nil (thenQ_normal (?_))
    refine HW.ret (thenQ_ret (?_))
    refine ⟨.inr rfl, .bool false, res_one rfl rfl, ?_⟩
    exact ⟨by rw [decide_eq_false (by unfold Good; omega)], hE⟩
  · have g2p := of_decide_eq_false g2
    refine HO.val (v := .pointer (some ⟨b1, 0, none⟩)) (want_by rfl rfl g2) rfl (q_fieldAddr fa_71_0 rfl rfl) ?_
    refine HO.val (v := .int .i64 t0) (want_by rfl rfl g2) rfl (q_load to_3 rfl (Blk.cell hb1 rfl)) ?_
    refine HO.val (v := .bool (decide (7 < t0))) (want_by rfl rfl g2) rfl (q_gtr rfl rfl) ?_
    refine HO.val (v := .bool (decide (7 < t0))) (want_none) rfl (q_pickK false rfl g2 rfl) ?_
    refine HO.val (v := .bool (decide (7 < t0))) (want_none) rfl (q_move rfl) ?_
    rcases Bool.eq_false_or_eq_true (decide (7 < t0)) with g3 | g3
    · have g3p := of_decide_eq_true g3
      refine HO.past (past_by rfl rfl g3) rfl ?_
      refine HO.past (past_by rfl rfl g3) rfl ?_
      refine HO.past (past_by rfl rfl g3) rfl ?_
      refine HO.val (v := .bool true) (want_none) rfl (q_pickK true rfl g3 rfl) ?_
      refine HO.val (v := .bool true) (want_none) rfl (q_move rfl) ?_
      refine HO.past (past_some rfl rfl) rfl ?_
      refine HO.past (past_some rfl rfl) rfl ?_
      refine HO.past (past_some rfl rfl) rfl ?_
      refine HO.val (v := .bool true) (want_none) rfl (q_pick rfl rfl) ?_
      refine HO.val (v := .bool true) (want_none) rfl (q_move rfl) ?_
      refine HO.past (past_some rfl rfl) rfl ?_
      refine HO.past (past_some rfl rfl) rfl ?_
      refine HO.past (past_some rfl rfl) rfl ?_
      refine HO.val (v := .bool true) (want_none) rfl (q_pick rfl rfl) ?_
      refine HO.val (v := .bool true) (want_none) rfl (q_move rfl) ?_
      refine HO.past (past_some rfl rfl) rfl ?_
      refine HO.past (past_some rfl rfl) rfl ?_
      refine HO.past (past_some rfl rfl) rfl ?_
      refine HO.val (v := .bool true) (want_none) rfl (q_pick rfl rfl) ?_
      refine HO.nil (thenQ_normal (?_))
      refine HW.condT rfl ?_
      refine HW.seq ?_
      refine HW.region ?_
      refine HO.val (v := .bool false) (want_none) rfl (q_assign rfl) ?_
      refine HO.nil (thenQ_normal (?_))
      refine HW.ret (thenQ_ret (?_))
      refine ⟨.inr rfl, .bool false, res_one rfl rfl, ?_⟩
      exact ⟨by rw [decide_eq_false (by unfold Good; omega)], hE⟩
    · have g3p := of_decide_eq_false g3
      refine HO.val (v := .pointer (some ⟨b1, 4, none⟩)) (want_by rfl rfl g3) rfl (q_fieldAddr fa_71_4 rfl rfl) ?_
      refine HO.val (v := .int .i64 t4) (want_by rfl rfl g3) rfl (q_load to_3 rfl (Blk.cell hb1 rfl)) ?_
      refine HO.val (v := .bool (decide (t4 < 1))) (want_by rfl rfl g3) rfl (q_lss rfl rfl) ?_
      refine HO.val (v := .bool (decide (t4 < 1))) (want_none) rfl (q_pickK false rfl g3 rfl) ?_
      refine HO.val (v := .bool (decide (t4 < 1))) (want_none) rfl (q_move rfl) ?_
      rcases Bool.eq_false_or_eq_true (decide (t4 < 1)) with g4 | g4
      · have g4p := of_decide_eq_true g4
        refine HO.past (past_by rfl rfl g4) rfl ?_
        refine HO.past (past_by rfl rfl g4) rfl ?_
        refine HO.past (past_by rfl rfl g4) rfl ?_
        refine HO.val (v := .bool true) (want_none) rfl (q_pickK true rfl g4 rfl) ?_
        refine HO.val (v := .bool true) (want_none) rfl (q_move rfl) ?_
        refine HO.past (past_some rfl rfl) rfl ?_
        refine HO.past (past_some rfl rfl) rfl ?_
        refine HO.past (past_some rfl rfl) rfl ?_
        refine HO.val (v := .bool true) (want_none) rfl (q_pick rfl rfl) ?_
        refine HO.val (v := .bool true) (want_none) rfl (q_move rfl) ?_
        refine HO.past (past_some rfl rfl) rfl ?_
        refine HO.past (past_some rfl rfl) rfl ?_
        refine HO.past (past_some rfl rfl) rfl ?_
        refine HO.val (v := .bool true) (want_none) rfl (q_pick rfl rfl) ?_
        refine HO.nil (thenQ_normal (?_))
        refine HW.condT rfl ?_
        refine HW.seq ?_
        refine HW.region ?_
        refine HO.val (v := .bool false) (want_none) rfl (q_assign rfl) ?_
        refine HO.nil (thenQ_normal (?_))
        refine HW.ret (thenQ_ret (?_))
        refine ⟨.inr rfl, .bool false, res_one rfl rfl, ?_⟩
        exact ⟨by rw [decide_eq_false (by unfold Good; omega)], hE⟩
      · have g4p := of_decide_eq_false g4
        refine HO.val (v := .pointer (some ⟨b1, 4, none⟩)) (want_by rfl rfl g4) rfl (q_fieldAddr fa_71_4 rfl rfl) ?_
        refine HO.val (v := .int .i64 t4) (want_by rfl rfl g4) rfl (q_load to_3 rfl (Blk.cell hb1 rfl)) ?_
        refine HO.val (v := .bool (decide (7 < t4))) (want_by rfl rfl g4) rfl (q_gtr rfl rfl) ?_
        refine HO.val (v := .bool (decide (7 < t4))) (want_none) rfl (q_pickK false rfl g4 rfl) ?_
        refine HO.val (v := .bool (decide (7 < t4))) (want_none) rfl (q_move rfl) ?_
        rcases Bool.eq_false_or_eq_true (decide (7 < t4)) with g5 | g5
        · have g5p := of_decide_eq_true g5
          refine HO.past (past_by rfl rfl g5) rfl ?_
          refine HO.past (past_by rfl rfl g5) rfl ?_
          refine HO.past (past_by rfl rfl g5) rfl ?_
          refine HO.val (v := .bool true) (want_none) rfl (q_pickK true rfl g5 rfl) ?_
          refine HO.val (v := .bool true) (want_none) rfl (q_move rfl) ?_
          refine HO.past (past_some rfl rfl) rfl ?_
          refine HO.past (past_some rfl rfl) rfl ?_
          refine HO.past (past_some rfl rfl) rfl ?_
          refine HO.val (v := .bool true) (want_none) rfl (q_pick rfl rfl) ?_
          refine HO.nil (thenQ_normal (?_))
          refine HW.condT rfl ?_
          refine HW.seq ?_
          refine HW.region ?_
          refine HO.val (v := .bool false) (want_none) rfl (q_assign rfl) ?_
          refine HO.nil (thenQ_normal (?_))
          refine HW.ret (thenQ_ret (?_))
          refine ⟨.inr rfl, .bool false, res_one rfl rfl, ?_⟩
          exact ⟨by rw [decide_eq_false (by unfold Good; omega)], hE⟩
        · have g5p := of_decide_eq_false g5
          refine HO.val (v := .pointer (some ⟨b1, 1, none⟩)) (want_by rfl rfl g5) rfl (q_fieldAddr fa_71_1 rfl rfl) ?_
          refine HO.val (v := .int .i64 t1) (want_by rfl rfl g5) rfl (q_load to_3 rfl (Blk.cell hb1 rfl)) ?_
          refine HO.val (v := .bool (decide (t1 < 1))) (want_by rfl rfl g5) rfl (q_lss rfl rfl) ?_
          refine HO.val (v := .bool (decide (t1 < 1))) (want_none) rfl (q_pickK false rfl g5 rfl) ?_
          refine HO.val (v := .bool (decide (t1 < 1))) (want_none) rfl (q_move rfl) ?_
          rcases Bool.eq_false_or_eq_true (decide (t1 < 1)) with g6 | g6
          · have g6p := of_decide_eq_true g6
            refine HO.past (past_by rfl rfl g6) rfl ?_
            refine HO.past (past_by rfl rfl g6) rfl ?_
            refine HO.past (past_by rfl rfl g6) rfl ?_
            refine HO.val (v := .bool true) (want_none) rfl (q_pickK true rfl g6 rfl) ?_
            refine HO.nil (thenQ_normal (?_))
            refine HW.condT rfl ?_
            refine HW.seq ?_
            refine HW.region ?_
            refine HO.val (v := .bool false) (want_none) rfl (q_assign rfl) ?_
            refine HO.nil (thenQ_normal (?_))
            refine HW.ret (thenQ_ret (?_))
            refine ⟨.inr rfl, .bool false, res_one rfl rfl, ?_⟩
            exact ⟨by rw [decide_eq_false (by unfold Good; omega)], hE⟩
          · have g6p := of_decide_eq_false g6
            refine HO.val (v := .pointer (some ⟨b1, 1, none⟩)) (want_by rfl rfl g6) rfl (q_fieldAddr fa_71_1 rfl rfl) ?_
            refine HO.val (v := .int .i64 t1) (want_by rfl rfl g6) rfl (q_load to_3 rfl (Blk.cell hb1 rfl)) ?_
            refine HO.val (v := .bool (decide (317440 < t1))) (want_by rfl rfl g6) rfl (q_gtr rfl rfl) ?_
            refine HO.val (v := .bool (decide (317440 < t1))) (want_none) rfl (q_pickK false rfl g6 rfl) ?_
            refine HO.nil (thenQ_normal (?_))
            refine HW.cond (decide (317440 < t1)) rfl (fun c7 => ?_) (fun c7 => ?_)
            · have c7p := of_decide_eq_true c7
              refine HW.seq ?_
              refine HW.region ?_
              refine HO.val (v := .bool false) (want_none) rfl (q_assign rfl) ?_
              refine HO.nil (thenQ_normal (?_))
              refine HW.ret (thenQ_ret (?_))
              refine ⟨.inr rfl, .bool false, res_one rfl rfl, ?_⟩
              exact ⟨by rw [decide_eq_false (by unfold Good; omega)], hE⟩
            · have c7p := of_decide_eq_false c7
              refine HW.skip (thenQ_normal (?_))
              refine HW.seq ?_
              refine HW.region ?_
              refine HO.val (v := .pointer (some ⟨b1, 2, none⟩)) (want_none) rfl (q_fieldAddr fa_71_2 rfl rfl) ?_
              refine HO.val (v := .int .i64 t2) (want_none) rfl (q_load to_3 rfl (Blk.cell hb1 rfl)) ?_
              refine HO.val (v := .bool (decide (0 < t2))) (want_none) rfl (q_gtr rfl rfl) ?_
              refine HO.val (v := .bool (decide (0 < t2))) (want_none) rfl (q_move rfl) ?_
              rcases Bool.eq_false_or_eq_true (decide (0 < t2)) with g8 | g8
              · have g8p := of_decide_eq_true g8
                refine HO.val (v := .pointer (some ⟨b1, 2, none⟩)) (want_by rfl rfl g8) rfl (q_fieldAddr fa_71_2 rfl rfl) ?_
                refine HO.val (v := .int .i64 t2) (want_by rfl rfl g8) rfl (q_load to_3 rfl (Blk.cell hb1 rfl)) ?_
                refine HO.val (v := .bool (decide (t2 < 31745))) (want_by rfl rfl g8) rfl (q_lss rfl rfl) ?_
                refine HO.val (v := .bool (decide (t2 < 31745))) (want_none) rfl (q_pickK true rfl g8 rfl) ?_
                refine HO.val (v := .bool (decide (t2 < 31745))) (want_none) rfl (q_move rfl) ?_
                rcases Bool.eq_false_or_eq_true (decide (t2 < 31745)) with g9 | g9
                · have g9p := of_decide_eq_true g9
                  refine HO.val (v := .pointer (some ⟨b1, 3, none⟩)) (want_by rfl rfl g9) rfl (q_fieldAddr fa_71_3 rfl rfl) ?_
                  refine HO.val (v := .int .i64 t3) (want_by rfl rfl g9) rfl (q_load to_3 rfl (Blk.cell hb1 rfl)) ?_
                  refine HO.val (v := .bool (decide (0 < t3))) (want_by rfl rfl g9) rfl (q_gtr rfl rfl) ?_
                  refine HO.val (v := .bool (decide (0 < t3))) (want_none) rfl (q_pickK true rfl g9 rfl) ?_
                  refine HO.val (v := .bool (decide (0 < t3))) (want_none) rfl (q_move rfl) ?_
                  rcases Bool.eq_false_or_eq_true (decide (0 < t3)) with g10 | g10
                  · have g10p := of_decide_eq_true g10
                    refine HO.val (v := .pointer (some ⟨b1, 3, none⟩)) (want_by rfl rfl g10) rfl (q_fieldAddr fa_71_3 rfl rfl) ?_
                    refine HO.val (v := .int .i64 t3) (want_by rfl rfl g10) rfl (q_load to_3 rfl (Blk.cell hb1 rfl)) ?_
                    refine HO.val (v := .bool (decide (t3 < 31745))) (want_by rfl rfl g10) rfl (q_lss rfl rfl) ?_
                    refine HO.val (v := .bool (decide (t3 < 31745))) (want_none) rfl (q_pickK true rfl g10 rfl) ?_
                    refine HO.val (v := .bool (decide (t3 < 31745))) (want_none) rfl (q_move rfl) ?_
                    rcases Bool.eq_false_or_eq_true (decide (t3 < 31745)) with g11 | g11
                    · have g11p := of_decide_eq_true g11
                      refine HO.val (v := .pointer (some ⟨b1, 2, none⟩)) (want_by rfl rfl g11) rfl (q_fieldAddr fa_71_2 rfl rfl) ?_
                      refine HO.val (v := .int .i64 t2) (want_by rfl rfl g11) rfl (q_load to_3 rfl (Blk.cell hb1 rfl)) ?_
                      refine HO.val (v := .pointer (some ⟨b1, 1, none⟩)) (want_by rfl rfl g11) rfl (q_fieldAddr fa_71_1 rfl rfl) ?_
                      refine HO.val (v := .int .i64 t1) (want_by rfl rfl g11) rfl (q_load to_3 rfl (Blk.cell hb1 rfl)) ?_
                      refine HO.val (v := .bool (decide (t2 ≤ t1))) (want_by rfl rfl g11) rfl (q_leq rfl rfl) ?_
                      refine HO.val (v := .bool (decide (t2 ≤ t1))) (want_none) rfl (q_pickK true rfl g11 rfl) ?_
                      refine HO.val (v := .bool (decide (t2 ≤ t1))) (want_none) rfl (q_assign rfl) ?_
                      refine HO.nil (thenQ_normal (?_))
                      refine HW.ret (?_)
                      refine ⟨.inr rfl, .bool (decide (t2 ≤ t1)), res_one rfl rfl, ?_⟩
                      exact ⟨by congr 1; rw [decide_eq_decide]; unfold Good; constructor <;> intros <;> omega, hE⟩
                    · have g11p := of_decide_eq_false g11
                      refine HO.past (past_by rfl rfl g11) rfl ?_
                      refine HO.past (past_by rfl rfl g11) rfl ?_
                      refine HO.past (past_by rfl rfl g11) rfl ?_
                      refine HO.past (past_by rfl rfl g11) rfl ?_
                      refine HO.past (past_by rfl rfl g11) rfl ?_
                      refine HO.val (v := .bool false) (want_none) rfl (q_pickK false rfl g11 rfl) ?_
                      refine HO.val (v := .bool false) (want_none) rfl (q_assign rfl) ?_
                      refine HO.nil (thenQ_normal (?_))
                      refine HW.ret (?_)
                      refine ⟨.inr rfl, .bool false, res_one rfl rfl, ?_⟩
                      exact ⟨by rw [decide_eq_false (by unfold Good; omega)], hE⟩
                  · have g10p := of_decide_eq_false g10
                    refine HO.past (past_by rfl rfl g10) rfl ?_
                    refine HO.past (past_by rfl rfl g10) rfl ?_
                    refine HO.past (past_by rfl rfl g10) rfl ?_
                    refine HO.val (v := .bool false) (want_none) rfl (q_pickK false rfl g10 rfl) ?_
                    refine HO.val (v := .bool false) (want_none) rfl (q_move rfl) ?_
                    refine HO.past (past_some rfl rfl) rfl ?_
                    refine HO.past (past_some rfl rfl) rfl ?_
                    refine HO.past (past_some rfl rfl) rfl ?_
                    refine HO.past (past_some rfl rfl) rfl ?_
                    refine HO.past (past_some rfl rfl) rfl ?_
                    refine HO.val (v := .bool false) (want_none) rfl (q_pick rfl rfl) ?_
                    refine HO.val (v := .bool false) (want_none) rfl (q_assign rfl) ?_
                    refine HO.nil (thenQ_normal (?_))
                    refine HW.ret (?_)
                    refine ⟨.inr rfl, .bool false, res_one rfl rfl, ?_⟩
                    exact ⟨by rw [decide_eq_false (by unfold Good; omega)], hE⟩
                · have g9p := of_decide_eq_false g9
                  refine HO.past (past_by rfl rfl g9) rfl ?_
                  refine HO.past (past_by rfl rfl g9) rfl ?_
                  refine HO.past (past_by rfl rfl g9) rfl ?_
                  refine HO.val (v := .bool false) (want_none) rfl (q_pickK false rfl g9 rfl) ?_
                  refine HO.val (v := .bool false) (want_none) rfl (q_move rfl) ?_
                  refine HO.past (past_some rfl rfl) rfl ?_
                  refine HO.past (past_some rfl rfl) rfl ?_
                  refine HO.past (past_some rfl rfl) rfl ?_
                  refine HO.val (v := .bool false) (want_none) rfl (q_pick rfl rfl) ?_
                  refine HO.val (v := .bool false) (want_none) rfl (q_move rfl) ?_
                  refine HO.past (past_some rfl rfl) rfl ?_
                  refine HO.past (past_some rfl rfl) rfl ?_
                  refine HO.past (past_some rfl rfl) rfl ?_
                  refine HO.past (past_some rfl rfl) rfl ?_
                  refine HO.past (past_some rfl rfl) rfl ?_
                  refine HO.val (v := .bool false) (want_none) rfl (q_pick rfl rfl) ?_
                  refine HO.val (v := .bool false) (want_none) rfl (q_assign rfl) ?_
                  refine HO.nil (thenQ_normal (?_))
                  refine HW.ret (?_)
                  refine ⟨.inr rfl, .bool false, res_one rfl rfl, ?_⟩
                  exact ⟨by rw [decide_eq_false (by unfold Good; omega)], hE⟩
              · have g8p := of_decide_eq_false g8
                refine HO.past (past_by rfl rfl g8) rfl ?_
                refine HO.past (past_by rfl rfl g8) rfl ?_
                refine HO.past (past_by rfl rfl g8) rfl ?_
                refine HO.val (v := .bool false) (want_none) rfl (q_pickK false rfl g8 rfl) ?_
                refine HO.val (v := .bool false) (want_none) rfl (q_move rfl) ?_
                refine HO.past (past_some rfl rfl) rfl ?_
                refine HO.past (past_some rfl rfl) rfl ?_
                refine HO.past (past_some rfl rfl) rfl ?_
                refine HO.val (v := .bool false) (want_none) rfl (q_pick rfl rfl) ?_
                refine HO.val (v := .bool false) (want_none) rfl (q_move rfl) ?_
                refine HO.past (past_some rfl rfl) rfl ?_
                refine HO.past (past_some rfl rfl) rfl ?_
                refine HO.past (past_some rfl rfl) rfl ?_
                refine HO.val (v := .bool false) (want_none) rfl (q_pick rfl rfl) ?_
                refine HO.val (v := .bool false) (want_none) rfl (q_move rfl) ?_
                refine HO.past (past_some rfl rfl) rfl ?_
                refine HO.past (past_some rfl rfl) rfl ?_
                refine HO.past (past_some rfl rfl) rfl ?_
                refine HO.past (past_some rfl rfl) rfl ?_
                refine HO.past (past_some rfl rfl) rfl ?_
                refine HO.val (v := .bool false) (want_none) rfl (q_pick rfl rfl) ?_
                refine HO.val (v := .bool false) (want_none) rfl (q_assign rfl) ?_
                refine HO.nil (thenQ_normal (?_))
                refine HW.ret (?_)
                refine ⟨.inr rfl, .bool false, res_one rfl rfl, ?_⟩
                exact ⟨by rw [decide_eq_false (by unfold Good; omega)], hE⟩

theorem tmod_bd {x o : Int} (hx : 0 ≤ x ∧ x ≤ 65535) (ho : 1 ≤ o ∧ o ≤ 2300000) : 0 ≤ x.tmod o ∧ x.tmod o < o ∧ x.tmod o ≤ 65535 := by
  rw [Int.tmod_eq_emod_of_nonneg hx.1]
  refine ⟨Int.emod_nonneg _ (by omega), Int.emod_lt_of_pos _ (by omega), ?_⟩
  have h1 := Int.mul_ediv_add_emod x o
  have h2 : 0 ≤ x / o := Int.ediv_nonneg hx.1 (by omega)
  have h3 : 0 ≤ o * (x / o) := Int.mul_nonneg (by omega) h2
  omega
/-- What is in the clock once the port was heard so often. -/
def stayM (i : Nat) (p nw o : Int) : List (Int × Int) := if i = 0 then [] else [(p, nw + o)]
theorem snow_eq {rn x : Int} (h : rn ≤ x) (h2 : x ≤ 1000000000000) : snow rn x = x := by unfold snow; omega
theorem live_one (p v t : Int) : live [(p, v)] t = if t < v then [(p, v)] else [] := by unfold live; by_cases h : t < v <;> simp [h]
theorem rep_get (n : Nat) (pn : Nat) (h : pn < (List.replicate n false).length) : (List.replicate n false)[pn] = false := by simp
theorem stay_keep {i : Nat} {p nw o t : Int} (h : t < nw + o) : live (stayM i p nw o) t = stayM i p nw o := by
  unfold stayM; split
  · rfl
  · rw [live_one, if_pos h]
theorem stay_len (i : Nat) (p nw o : Int) : (stayM i p nw o).length ≤ 12 := by unfold stayM; split <;> simp
theorem stay_is {b c r : Nat} {fv : Value} {i pn : Nat} {nw o x : Int} {h0 : Heap} (n : Nat) (hI : RoutesIs h0 b c r nw fv (List.replicate n false) (stayM i (pn : Int) nw o)) (h1 : nw ≤ x) (h2 : x < nw + o) (h3 : x ≤ 1000000000000) (hp : pn < n) :
    HC Try.prog 55 #[.pointer (some ⟨b, 0, none⟩), .int .i64 x, .int .i64 (pn : Int)] h0 fun u h' => u = .bool (decide (0 < i)) ∧ RoutesIs h' b c r x fv (List.replicate n false) (stayM i (pn : Int) nw o) ∧ OnlyL [b, r] h0 h' := by
  refine (ris_spec b c r nw fv _ _ _ hI x (stay_len _ _ _ _) pn (by simpa using hp)).mono ?_
  rintro v h' ⟨e, hI', hx⟩
  rw [snow_eq h1 h3, stay_keep h2] at hI' e
  refine ⟨e.trans ?_, hI', hx⟩
  rw [rep_get, Bool.or_false]
  unfold stayM mget
  by_cases h0 : i = 0
  · simp [h0]
  · rw [if_neg h0]; simp; omega
theorem stay_gone {b c r : Nat} {fv : Value} {i pn : Nat} {nw rn o : Int} {h0 : Heap} (n : Nat) (hI : RoutesIs h0 b c r rn fv (List.replicate n false) (stayM i (pn : Int) nw o)) (h1 : rn ≤ nw + o) (h3 : nw + o ≤ 1000000000000) (hp : pn < n) :
    HC Try.prog 55 #[.pointer (some ⟨b, 0, none⟩), .int .i64 (nw + o), .int .i64 (pn : Int)] h0 fun u h' => u = .bool false ∧ RoutesIs h' b c r (nw + o) fv (List.replicate n false) [] ∧ OnlyL [b, r] h0 h' := by
  refine (ris_spec b c r rn fv _ _ _ hI (nw + o) (stay_len _ _ _ _) pn (by simpa using hp)).mono ?_
  rintro v h' ⟨e, hI', hx⟩
  have hl : live (stayM i (pn : Int) nw o) (nw + o) = [] := by
    unfold stayM; split
    · rfl
    · rw [live_one, if_neg (by omega)]
  rw [snow_eq h1 h3, hl] at hI' e
  exact ⟨e.trans (by rw [rep_get]; rfl), hI', hx⟩
theorem stay_hear {b c r : Nat} {fv : Value} {i pn : Nat} {nw x t0 t1 t2 t3 t4 : Int} {h0 : Heap} (n : Nat) (hI : RoutesIs h0 b c r x fv (List.replicate n false) (stayM i (pn : Int) nw (other t0 t1 t2))) (h1 : nw ≤ x) (h2 : 0 < i → x < nw + other t0 t1 t2)
    (h0x : 0 ≤ x) (h3 : x ≤ 1000000000000) (hp : pn < n) (ht : 1 ≤ t0 ∧ t0 ≤ 7 ∧ 1 ≤ t1 ∧ t1 ≤ 317440 ∧ 1 ≤ t2 ∧ t2 ≤ 31744) :
    HC Try.prog 56 #[.pointer (some ⟨b, 0, none⟩), .int .i64 x, .agg #[.int .i64 t0, .int .i64 t1, .int .i64 t2, .int .i64 t3, .int .i64 t4], .int .i64 (pn : Int)] h0 fun u h' =>
      u = .bool true ∧ RoutesIs h' b c r x fv (List.replicate n false) (stayM (i + 1) (pn : Int) x (other t0 t1 t2)) ∧ OnlyL [b, r] h0 h' := by
  refine (rhear_spec b c r x fv _ _ _ hI x t0 t1 t2 t3 t4 (stay_len _ _ _ _) pn (by simpa using hp) ⟨h0x, h3⟩ ht).mono ?_
  rintro v h' ⟨e, hI', hx⟩
  rw [snow_eq (Int.le_refl _) h3] at hI'
  refine ⟨e, ?_, hx⟩
  have hb := other_bd ht
  by_cases h0 : i = 0
  · subst h0
    have : mset (live (stayM 0 (pn : Int) nw (other t0 t1 t2)) x) (pn : Int) (max (mgetI (live (stayM 0 (pn : Int) nw (other t0 t1 t2)) x) (pn : Int)) (x + other t0 t1 t2)) = stayM (0 + 1) (pn : Int) x (other t0 t1 t2) := by
      have e0 : stayM 0 (pn : Int) nw (other t0 t1 t2) = [] := rfl
      have e1 : live ([] : List (Int × Int)) x = [] := rfl
      rw [e0, e1]
      have e2 : mgetI ([] : List (Int × Int)) (pn : Int) = 0 := rfl
      rw [e2, show max (0 : Int) (x + other t0 t1 t2) = x + other t0 t1 t2 by omega]
      simp [stayM, mset]
    rw [this] at hI'; exact hI'
  · rw [stay_keep (h2 (by omega))] at hI'
    have : mset (stayM i (pn : Int) nw (other t0 t1 t2)) (pn : Int) (max (mgetI (stayM i (pn : Int) nw (other t0 t1 t2)) (pn : Int)) (x + other t0 t1 t2)) = stayM (i + 1) (pn : Int) x (other t0 t1 t2) := by
      unfold stayM; rw [if_neg h0, if_neg (by omega)]
      simp [mset, mgetI, mget]
      omega
    rw [this] at hI'; exact hI'

set_option maxRecDepth 100000 in
theorem route_stays (t0 t1 t2 t3 t4 port : Int) (vw : Value) (l : List Int) (h0 : Heap) (hS0 : SliceIs h0 1 (encK .u16) vw l) (hl : ∀ x ∈ l, 0 ≤ x ∧ x ≤ 65535) (hp : 0 ≤ port ∧ port ≤ 255) :
    HC Try.prog 9 #[.agg #[.int .i64 t0, .int .i64 t1, .int .i64 t2, .int .i64 t3, .int .i64 t4], vw, .int .u8 port] h0 fun u h' => u = .bool true ∧ Ext h0 h' := by
  refine HC.of_HW (n := 81) Try.func9 rfl rfl (Nat.le_of_ble_eq_true rfl) ?_
  have hE := Ext.refl h0
  obtain ⟨pn, hpe, hpn⟩ : ∃ pn : Nat, port.tmod 32 = (pn : Int) ∧ pn < 32 := ⟨(port.tmod 32).toNat, by rw [Int.tmod_eq_emod_of_nonneg hp.1]; omega, by rw [Int.tmod_eq_emod_of_nonneg hp.1]; omega⟩
  refine HW.seq ?_
  refine HW.region ?_
  refine HO.eff (want_none) rfl (e_box (c := #[.int .i64 t0, .int .i64 t1, .int .i64 t2, .int .i64 t3, .int .i64 t4]) (k' := 5) rfl rfl) ?_
  rintro _ h1 ⟨b1, rfl, hn⟩
  replace hE := hE.trans hn.ext
  have hb1 : Blk h1 b1 (.cells #[.int .i64 t0, .int .i64 t1, .int .i64 t2, .int .i64 t3, .int .i64 t4] 71 (0, 0)) := hn.blk
  have hb1a := hn.at_; have hb1s := hn.size; clear hn
  refine HO.val (v := .bool false) (want_none) rfl (q_assign rfl) ?_
  refine HO.nil (thenQ_normal (?_))
  refine HW.seq ?_
  refine HW.seq ?_
  refine HW.region ?_
  refine HO.val (v := .agg #[.int .i64 t0, .int .i64 t1, .int .i64 t2, .int .i64 t3, .int .i64 t4]) (want_none) rfl (q_loadAgg (cs := [.int .i64 t0, .int .i64 t1, .int .i64 t2, .int .i64 t3, .int .i64 t4]) ta_71 rfl rfl (Blk.cells (k := 5) hb1 rfl)) ?_
  refine HO.call (want_none) rfl (ec en_51 rfl rfl) (good_spec t0 t1 t2 t3 t4 _) ?_
  rintro _ h2 ⟨rfl, hx⟩
  replace hE := hE.trans hx
  replace hb1 := hb1.ext hx
  have hxs := hx.size
  refine HO.val (v := .bool (!(decide (Good t0 t1 t2 t3 t4)))) (want_none) rfl (q_not rfl) ?_
  refine HO.nil (thenQ_normal (?_))
  refine HW.cond (!(decide (Good t0 t1 t2 t3 t4))) rfl (fun c2 => ?_) (fun c2 => ?_)
  · have c2p : ¬ (Good t0 t1 t2 t3 t4) := by simpa using c2
    refine HW.seq ?_
    refine HW.region ?_
    refine HO.call (want_none) rfl (ec en_52 rfl rfl) (rlives_spec _) ?_
    rintro _ h3 ⟨rfl, hx⟩
    replace hE := hE.trans hx
    replace hb1 := hb1.ext hx
    have hxs := hx.size
    refine HO.val (v := .bool true) (want_none) rfl (q_assign rfl) ?_
    refine HO.nil (thenQ_normal (?_))
    refine HW.ret (thenQ_ret (?_))
    refine ⟨.inr rfl, .bool true, res_one rfl rfl, ?_⟩
    exact ⟨rfl, hE⟩
  · have c2p : (Good t0 t1 t2 t3 t4) := by simpa using c2
    obtain ⟨q1, q2, q3, q4, q5, q6, q7, q8, q9, q10, q11⟩ := (by simpa using c2 : Good t0 t1 t2 t3 t4)
    have ht := (⟨q1, q2, q5, q6, q7, q8⟩ : 1 ≤ t0 ∧ t0 ≤ 7 ∧ 1 ≤ t1 ∧ t1 ≤ 317440 ∧ 1 ≤ t2 ∧ t2 ≤ 31744)
    have hob := other_bd ht
    refine HW.skip (thenQ_normal (?_))
    refine HW.seq ?_
    refine HW.region ?_
    refine HO.val (v := .int .u8 port) (want_none) rfl (q_move rfl) ?_
    refine HO.val (v := .int .u8 ((pn : Nat) : Int)) (want_none) rfl ((q_rem rfl rfl (by decide)).of_eq (by rw [hpe])) ?_
    refine HO.val (v := .int .i64 ((pn : Nat) : Int)) (want_none) rfl (q_convInt Try.underlying5 Try.underlying3 rfl (wrap_id (by simp [IntKind.min, IntKind.signed, IntKind.bits] <;> omega) (by simp [IntKind.max, IntKind.signed, IntKind.bits] <;> omega))) ?_
    refine HO.val (v := .agg #[.int .i64 t0, .int .i64 t1, .int .i64 t2, .int .i64 t3, .int .i64 t4]) (want_none) rfl (q_loadAgg (cs := [.int .i64 t0, .int .i64 t1, .int .i64 t2, .int .i64 t3, .int .i64 t4]) ta_71 rfl rfl (Blk.cells (k := 5) hb1 rfl)) ?_
    refine HO.call (want_none) rfl (ec en_53 rfl rfl) (rother_spec t0 t1 t2 t3 t4 _ ht) ?_
    rintro _ h4 ⟨rfl, hx⟩
    replace hE := hE.trans hx
    replace hb1 := hb1.ext hx
    have hxs := hx.size
    refine HO.val (v := .int .i64 ((pn : Nat) : Int)) (want_none) rfl (q_assign rfl) ?_
    refine HO.val (v := .int .i64 0) (want_none) rfl (q_assign rfl) ?_
    refine HO.val (v := .int .i64 (other t0 t1 t2)) (want_none) rfl (q_assign rfl) ?_
    refine HO.nil (thenQ_normal (?_))
    refine HW.seq ?_
    refine HW.region ?_
    refine HO.call (want_none) rfl (ec en_54 rfl rfl) (rnew_spec 32 _) ?_
    rintro _ h5 ⟨b, c, r, fv, rfl, hI, hx, hbg, hcg, hrg, hfg⟩
    replace hE := hE.trans hx
    replace hb1 := hb1.ext hx
    have hxs := hx.size
    replace hI : RoutesIs h5 b c r 0 fv (List.replicate 32 false) (stayM 0 ((pn : Nat) : Int) 0 (other t0 t1 t2)) := hI
    refine HO.val (v := .pointer (some ⟨b, 0, none⟩)) (want_none) rfl (q_assign rfl) ?_
    refine HO.nil (thenQ_normal (?_))
    refine HW.seq ?_
    refine HW.seq ?_
    refine HW.region ?_
    refine HO.val (v := .int .i64 0) (want_none) rfl (q_assign rfl) ?_
    refine HO.nil (thenQ_normal (?_))
    refine HW.block ?_
    refine HW.loop (S := Nat × Int) (fun s f h => match s with | (i, nw) => f 1 = vw ∧ f 3 = .pointer (some ⟨b1, 0, none⟩) ∧ f 7 = .int .i64 ((pn : Nat) : Int) ∧ f 8 = .int .i64 nw ∧ f 9 = .int .i64 (other t0 t1 t2) ∧ f 10 = .pointer (some ⟨b, 0, none⟩) ∧ f 11 = .int .i64 ((i : Nat) : Int) ∧ (Ext h0 h) ∧ (Blk h b1 (.cells #[.int .i64 t0, .int .i64 t1, .int .i64 t2, .int .i64 t3, .int .i64 t4] 71 (0, 0))) ∧ (RoutesIs h b c r nw fv (List.replicate 32 false) (stayM i ((pn : Nat) : Int) nw (other t0 t1 t2))) ∧ (i ≤ l.length) ∧ (i ≤ 12) ∧ (0 ≤ nw ∧ nw ≤ (i : Int) * 65536) ∧ (i = 0 → nw = 0)) (fun s => match s with | (i, nw) => l.length - i) (0, 0) ?_ ?_
    · refine ⟨rfl, rfl, rfl, rfl, rfl, rfl, rfl, ?_, ?_, ?_, ?_, ?_, ?_, ?_⟩
      all_goals first | assumption | omega | simp
    · rintro ⟨i, nw⟩ f6 hh6 ⟨e1, e3, e7, e8, e9, e10, e11, hE, hb1, hI, hi, hi2, hnw, hn0⟩
      refine HW.fr [(1, vw), (3, .pointer (some ⟨b1, 0, none⟩)), (7, .int .i64 ((pn : Nat) : Int)), (8, .int .i64 nw), (9, .int .i64 (other t0 t1 t2)), (10, .pointer (some ⟨b, 0, none⟩)), (11, .int .i64 ((i : Nat) : Int))] ⟨e1, e3, e7, e8, e9, e10, e11, trivial⟩ ?_
      have hli := hS0.len_i
      refine HW.seq ?_
      refine HW.seq ?_
      refine HW.region ?_
      refine HO.val (v := .int .i64 ((i : Nat) : Int)) (want_none) rfl (q_move rfl) ?_
      refine HO.val (v := vw) (want_none) rfl (q_move rfl) ?_
      refine HO.val (v := .int .i64 ((l.length : Nat) : Int)) (want_none) rfl (q_len ts_72 (hS0.ext hE) rfl rfl) ?_
      refine HO.val (v := .bool (decide (((i : Nat) : Int) < ((l.length : Nat) : Int)))) (want_none) rfl (q_lss rfl rfl) ?_
      refine HO.val (v := .bool (decide (((i : Nat) : Int) < ((l.length : Nat) : Int)))) (want_none) rfl (q_move rfl) ?_
      rcases Bool.eq_false_or_eq_true (decide (((i : Nat) : Int) < ((l.length : Nat) : Int))) with g3 | g3
      · have g3p := of_decide_eq_true g3
        have hlx := hl (l[i]'(by omega)) (List.getElem_mem _)
        have htm := tmod_bd hlx hob
        refine HO.val (v := .int .i64 ((i : Nat) : Int)) (want_by rfl rfl g3) rfl (q_move rfl) ?_
        refine HO.val (v := .bool (decide (((i : Nat) : Int) < 12))) (want_by rfl rfl g3) rfl (q_lss rfl rfl) ?_
        refine HO.val (v := .bool (decide (((i : Nat) : Int) < 12))) (want_none) rfl (q_pickK true rfl g3 rfl) ?_
        refine HO.nil (thenQ_normal (?_))
        refine HW.cond (decide (((i : Nat) : Int) < 12)) rfl (fun c4 => ?_) (fun c4 => ?_)
        · have c4p := of_decide_eq_true c4
          refine HW.skip (thenQ_normal (?_))
          refine HW.seq ?_
          refine HW.block ?_
          refine HW.seq ?_
          refine HW.seq ?_
          refine HW.region ?_
          refine HO.val (v := .int .i64 ((i : Nat) : Int)) (want_none) rfl (q_move rfl) ?_
          refine HO.val (v := .bool (decide (0 < ((i : Nat) : Int)))) (want_none) rfl (q_gtr rfl rfl) ?_
          refine HO.nil (thenQ_normal (?_))
          refine HW.cond (decide (0 < ((i : Nat) : Int))) rfl (fun c5 => ?_) (fun c5 => ?_)
          · have c5p := of_decide_eq_true c5
            refine HW.seq ?_
            refine HW.region ?_
            refine HO.val (v := vw) (want_none) rfl (q_move rfl) ?_
            refine HO.val (v := .int .i64 ((i : Nat) : Int)) (want_none) rfl (q_move rfl) ?_
            refine HO.val (v := elemPtr 1 vw i) (want_none) rfl (q_indexAddr (i := i) ts_72 (hS0.ext hE) rfl rfl (by omega)) ?_
            refine HO.val (v := .int .u16 (l[i])) (want_none) rfl (q_loadElem to_77 (hS0.ext hE) rfl (by omega) rfl) ?_
            refine HO.val (v := .int .i64 (l[i])) (want_none) rfl (q_convInt Try.underlying77 Try.underlying3 rfl (wrap_id (by simp [IntKind.min, IntKind.signed, IntKind.bits] <;> omega) (by simp [IntKind.max, IntKind.signed, IntKind.bits] <;> omega))) ?_
            refine HO.val (v := .int .i64 (other t0 t1 t2)) (want_none) rfl (q_move rfl) ?_
            refine HO.val (v := .int .i64 ((l[i]).tmod (other t0 t1 t2))) (want_none) rfl ((q_rem rfl rfl (by omega)).of_eq rfl) ?_
            refine HO.val (v := .int .i64 ((l[i]).tmod (other t0 t1 t2))) (want_none) rfl (q_assign rfl) ?_
            refine HO.nil (thenQ_normal (?_))
            refine HW.seq ?_
            refine HW.seq ?_
            refine HW.region ?_
            refine HO.val (v := .pointer (some ⟨b, 0, none⟩)) (want_none) rfl (q_move rfl) ?_
            refine HO.val (v := .int .i64 nw) (want_none) rfl (q_move rfl) ?_
            refine HO.val (v := .int .i64 ((l[i]).tmod (other t0 t1 t2))) (want_none) rfl (q_move rfl) ?_
            refine HO.val (v := .int .i64 (nw + ((l[i]).tmod (other t0 t1 t2)))) (want_none) rfl (q_addN (nw + ((l[i]).tmod (other t0 t1 t2))) rfl rfl rfl (by omega) (by omega)) ?_
            refine HO.val (v := .int .i64 ((pn : Nat) : Int)) (want_none) rfl (q_move rfl) ?_
            refine HO.call (want_none) rfl (ec en_55 rfl rfl) (stay_is 32 hI (by omega) (by omega) (by omega) hpn) ?_
            rintro _ h7 ⟨rfl, hI', hx⟩
            replace hE := hE.onlyL hx (by simp; omega)
            replace hb1 := hb1.onlyL hx (by simp; omega)
            replace hI := hI'
            have hxs := hx.size
            refine HO.val (v := .bool (!(decide (0 < i)))) (want_none) rfl (q_not rfl) ?_
            refine HO.nil (thenQ_normal (?_))
            have k6 : (decide (0 < i)) = true := by rw [decide_eq_true_eq]; omega
            refine HW.condK false rfl (by rw [k6]; rfl) ?_
            refine HW.skip (thenQ_normal (?_))
            refine HW.region ?_
            refine HO.val (v := .int .i64 nw) (want_none) rfl (q_move rfl) ?_
            refine HO.val (v := .int .i64 ((l[i]).tmod (other t0 t1 t2))) (want_none) rfl (q_move rfl) ?_
            refine HO.val (v := .int .i64 (nw + ((l[i]).tmod (other t0 t1 t2)))) (want_none) rfl (q_addN (nw + ((l[i]).tmod (other t0 t1 t2))) rfl rfl rfl (by omega) (by omega)) ?_
            refine HO.val (v := .int .i64 (nw + ((l[i]).tmod (other t0 t1 t2)))) (want_none) rfl (q_assign rfl) ?_
            refine HO.nil (thenQ_normal (?_))
            refine HW.seq ?_
            refine HW.region ?_
            refine HO.val (v := .pointer (some ⟨b, 0, none⟩)) (want_none) rfl (q_move rfl) ?_
            refine HO.val (v := .int .i64 (nw + ((l[i]).tmod (other t0 t1 t2)))) (want_none) rfl (q_move rfl) ?_
            refine HO.val (v := .agg #[.int .i64 t0, .int .i64 t1, .int .i64 t2, .int .i64 t3, .int .i64 t4]) (want_none) rfl (q_loadAgg (cs := [.int .i64 t0, .int .i64 t1, .int .i64 t2, .int .i64 t3, .int .i64 t4]) ta_71 rfl rfl (Blk.cells (k := 5) hb1 rfl)) ?_
            refine HO.val (v := .int .i64 ((pn : Nat) : Int)) (want_none) rfl (q_move rfl) ?_
            refine HO.call (want_none) rfl (ec en_56 rfl rfl) (stay_hear 32 hI (by omega) (by omega) (by omega) (by omega) hpn ht) ?_
            rintro _ h8 ⟨rfl, hI', hx⟩
            replace hE := hE.onlyL hx (by simp; omega)
            replace hb1 := hb1.onlyL hx (by simp; omega)
            replace hI := hI'
            have hxs := hx.size
            refine HO.val (v := .bool false) (want_none) rfl (q_not (b := true) rfl) ?_
            refine HO.nil (thenQ_normal (?_))
            refine HW.condF rfl ?_
            refine HW.skip (blockQ_normal (thenQ_normal (?_)))
            refine HW.region ?_
            refine HO.val (v := .int .i64 ((i : Nat) : Int)) (want_none) rfl (q_move rfl) ?_
            refine HO.val (v := .int .i64 ((i + 1 : Nat) : Int)) (want_none) rfl (q_addN ((i + 1 : Nat) : Int) rfl rfl (by omega) (by omega) (by omega)) ?_
            refine HO.val (v := .int .i64 ((i + 1 : Nat) : Int)) (want_none) rfl (q_assign rfl) ?_
            refine HO.nil (thenQ_normal (?_))
            refine ⟨(i + 1, nw + ((l[i]).tmod (other t0 t1 t2))), ⟨rfl, rfl, rfl, rfl, rfl, rfl, rfl, ?_, ?_, ?_, ?_, ?_, ?_, ?_⟩, ?_⟩
            · exact hE
            · exact hb1
            · exact hI
            · omega
            · omega
            · omega
            · omega
            · dsimp only; omega
          · have c5p := of_decide_eq_false c5
            refine HW.skip (thenQ_normal (?_))
            refine HW.seq ?_
            refine HW.region ?_
            refine HO.val (v := .pointer (some ⟨b, 0, none⟩)) (want_none) rfl (q_move rfl) ?_
            refine HO.val (v := .int .i64 nw) (want_none) rfl (q_move rfl) ?_
            refine HO.val (v := .agg #[.int .i64 t0, .int .i64 t1, .int .i64 t2, .int .i64 t3, .int .i64 t4]) (want_none) rfl (q_loadAgg (cs := [.int .i64 t0, .int .i64 t1, .int .i64 t2, .int .i64 t3, .int .i64 t4]) ta_71 rfl rfl (Blk.cells (k := 5) hb1 rfl)) ?_
            refine HO.val (v := .int .i64 ((pn : Nat) : Int)) (want_none) rfl (q_move rfl) ?_
            refine HO.call (want_none) rfl (ec en_56 rfl rfl) (stay_hear 32 hI (by omega) (by omega) (by omega) (by omega) hpn ht) ?_
            rintro _ h9 ⟨rfl, hI', hx⟩
            replace hE := hE.onlyL hx (by simp; omega)
            replace hb1 := hb1.onlyL hx (by simp; omega)
            replace hI := hI'
            have hxs := hx.size
            refine HO.val (v := .bool false) (want_none) rfl (q_not (b := true) rfl) ?_
            refine HO.nil (thenQ_normal (?_))
            refine HW.condF rfl ?_
            refine HW.skip (blockQ_normal (thenQ_normal (?_)))
            refine HW.region ?_
            refine HO.val (v := .int .i64 ((i : Nat) : Int)) (want_none) rfl (q_move rfl) ?_
            refine HO.val (v := .int .i64 ((i + 1 : Nat) : Int)) (want_none) rfl (q_addN ((i + 1 : Nat) : Int) rfl rfl (by omega) (by omega) (by omega)) ?_
            refine HO.val (v := .int .i64 ((i + 1 : Nat) : Int)) (want_none) rfl (q_assign rfl) ?_
            refine HO.nil (thenQ_normal (?_))
            refine ⟨(i + 1, nw), ⟨rfl, rfl, rfl, rfl, rfl, rfl, rfl, ?_, ?_, ?_, ?_, ?_, ?_, ?_⟩, ?_⟩
            · exact hE
            · exact hb1
            · exact hI
            · omega
            · omega
            · omega
            · omega
            · dsimp only; omega
        · have c4p := of_decide_eq_false c4
          refine HW.exit (thenQ_exit (thenQ_exit (blockQ_exit (thenQ_normal (?_)))))
          refine HW.seq ?_
          refine HW.region ?_
          refine HO.val (v := .pointer (some ⟨b, 0, none⟩)) (want_none) rfl (q_move rfl) ?_
          refine HO.val (v := .int .i64 nw) (want_none) rfl (q_move rfl) ?_
          refine HO.val (v := .int .i64 (other t0 t1 t2)) (want_none) rfl (q_move rfl) ?_
          refine HO.val (v := .int .i64 (nw + (other t0 t1 t2))) (want_none) rfl (q_addN (nw + (other t0 t1 t2)) rfl rfl rfl (by omega) (by omega)) ?_
          refine HO.val (v := .int .i64 ((nw + (other t0 t1 t2)) - 1)) (want_none) rfl (q_subN ((nw + (other t0 t1 t2)) - 1) rfl rfl rfl (by omega) (by omega)) ?_
          refine HO.val (v := .int .i64 ((pn : Nat) : Int)) (want_none) rfl (q_move rfl) ?_
          refine HO.call (want_none) rfl (ec en_55 rfl rfl) (stay_is 32 hI (by omega) (by omega) (by omega) hpn) ?_
          rintro _ h10 ⟨rfl, hI', hx⟩
          replace hE := hE.onlyL hx (by simp; omega)
          replace hb1 := hb1.onlyL hx (by simp; omega)
          replace hI := hI'
          have hxs := hx.size
          refine HO.val (v := vw) (want_none) rfl (q_move rfl) ?_
          refine HO.val (v := .int .i64 ((l.length : Nat) : Int)) (want_none) rfl (q_len ts_72 (hS0.ext hE) rfl rfl) ?_
          refine HO.val (v := .bool (decide (0 < ((l.length : Nat) : Int)))) (want_none) rfl (q_gtr rfl rfl) ?_
          refine HO.val (v := .bool ((decide (0 < i)) == (decide (0 < ((l.length : Nat) : Int))))) (want_none) rfl (q_eqlB Try.underlying4 rfl rfl) ?_
          refine HO.val (v := .bool ((decide (0 < i)) == (decide (0 < ((l.length : Nat) : Int))))) (want_none) rfl (q_move rfl) ?_
          have k7 : ((decide (0 < i)) == (decide (0 < ((l.length : Nat) : Int)))) = true := by rw [beq_iff_eq, Bool.eq_iff_iff, decide_eq_true_eq, decide_eq_true_eq]; omega
          refine HO.val (v := .pointer (some ⟨b, 0, none⟩)) (want_by rfl rfl k7) rfl (q_move rfl) ?_
          refine HO.val (v := .int .i64 nw) (want_by rfl rfl k7) rfl (q_move rfl) ?_
          refine HO.val (v := .int .i64 (other t0 t1 t2)) (want_by rfl rfl k7) rfl (q_move rfl) ?_
          refine HO.val (v := .int .i64 (nw + (other t0 t1 t2))) (want_by rfl rfl k7) rfl (q_addN (nw + (other t0 t1 t2)) rfl rfl rfl (by omega) (by omega)) ?_
          refine HO.val (v := .int .i64 ((pn : Nat) : Int)) (want_by rfl rfl k7) rfl (q_move rfl) ?_
          refine HO.call (want_by rfl rfl k7) rfl (ec en_55 rfl rfl) (stay_gone 32 hI (by omega) (by omega) hpn) ?_
          rintro _ h11 ⟨rfl, hI', hx⟩
          replace hE := hE.onlyL hx (by simp; omega)
          replace hb1 := hb1.onlyL hx (by simp; omega)
          replace hI := hI'
          have hxs := hx.size
          refine HO.val (v := .bool true) (want_by rfl rfl k7) rfl (q_not (b := false) rfl) ?_
          refine HO.val (v := .bool true) (want_none) rfl (q_pickK true rfl k7 rfl) ?_
          refine HO.val (v := .bool true) (want_none) rfl (q_move rfl) ?_
          refine HO.call (want_some rfl rfl) rfl (ec en_52 rfl rfl) (rlives_spec _) ?_
          rintro _ h12 ⟨rfl, hx⟩
          replace hE := hE.trans hx
          replace hb1 := hb1.ext hx
          replace hI := hI.ext hx
          have hxs := hx.size
          refine HO.val (v := .bool true) (want_none) rfl (q_pick rfl rfl) ?_
          refine HO.val (v := .bool true) (want_none) rfl (q_assign rfl) ?_
          refine HO.nil (thenQ_normal (?_))
          refine HW.ret (?_)
          refine ⟨.inr rfl, .bool true, res_one rfl rfl, ?_⟩
          exact ⟨rfl, hE⟩
      · have g3p := of_decide_eq_false g3
        refine HO.past (past_by rfl rfl g3) rfl ?_
        refine HO.past (past_by rfl rfl g3) rfl ?_
        refine HO.val (v := .bool false) (want_none) rfl (q_pickK false rfl g3 rfl) ?_
        refine HO.nil (thenQ_normal (?_))
        refine HW.condF rfl ?_
        refine HW.exit (thenQ_exit (thenQ_exit (blockQ_exit (thenQ_normal (?_)))))
        refine HW.seq ?_
        refine HW.region ?_
        refine HO.val (v := .pointer (some ⟨b, 0, none⟩)) (want_none) rfl (q_move rfl) ?_
        refine HO.val (v := .int .i64 nw) (want_none) rfl (q_move rfl) ?_
        refine HO.val (v := .int .i64 (other t0 t1 t2)) (want_none) rfl (q_move rfl) ?_
        refine HO.val (v := .int .i64 (nw + (other t0 t1 t2))) (want_none) rfl (q_addN (nw + (other t0 t1 t2)) rfl rfl rfl (by omega) (by omega)) ?_
        refine HO.val (v := .int .i64 ((nw + (other t0 t1 t2)) - 1)) (want_none) rfl (q_subN ((nw + (other t0 t1 t2)) - 1) rfl rfl rfl (by omega) (by omega)) ?_
        refine HO.val (v := .int .i64 ((pn : Nat) : Int)) (want_none) rfl (q_move rfl) ?_
        refine HO.call (want_none) rfl (ec en_55 rfl rfl) (stay_is 32 hI (by omega) (by omega) (by omega) hpn) ?_
        rintro _ h13 ⟨rfl, hI', hx⟩
        replace hE := hE.onlyL hx (by simp; omega)
        replace hb1 := hb1.onlyL hx (by simp; omega)
        replace hI := hI'
        have hxs := hx.size
        refine HO.val (v := vw) (want_none) rfl (q_move rfl) ?_
        refine HO.val (v := .int .i64 ((l.length : Nat) : Int)) (want_none) rfl (q_len ts_72 (hS0.ext hE) rfl rfl) ?_
        refine HO.val (v := .bool (decide (0 < ((l.length : Nat) : Int)))) (want_none) rfl (q_gtr rfl rfl) ?_
        refine HO.val (v := .bool ((decide (0 < i)) == (decide (0 < ((l.length : Nat) : Int))))) (want_none) rfl (q_eqlB Try.underlying4 rfl rfl) ?_
        refine HO.val (v := .bool ((decide (0 < i)) == (decide (0 < ((l.length : Nat) : Int))))) (want_none) rfl (q_move rfl) ?_
        have k8 : ((decide (0 < i)) == (decide (0 < ((l.length : Nat) : Int)))) = true := by rw [beq_iff_eq, Bool.eq_iff_iff, decide_eq_true_eq, decide_eq_true_eq]; omega
        refine HO.val (v := .pointer (some ⟨b, 0, none⟩)) (want_by rfl rfl k8) rfl (q_move rfl) ?_
        refine HO.val (v := .int .i64 nw) (want_by rfl rfl k8) rfl (q_move rfl) ?_
        refine HO.val (v := .int .i64 (other t0 t1 t2)) (want_by rfl rfl k8) rfl (q_move rfl) ?_
        refine HO.val (v := .int .i64 (nw + (other t0 t1 t2))) (want_by rfl rfl k8) rfl (q_addN (nw + (other t0 t1 t2)) rfl rfl rfl (by omega) (by omega)) ?_
        refine HO.val (v := .int .i64 ((pn : Nat) : Int)) (want_by rfl rfl k8) rfl (q_move rfl) ?_
        refine HO.call (want_by rfl rfl k8) rfl (ec en_55 rfl rfl) (stay_gone 32 hI (by omega) (by omega) hpn) ?_
        rintro _ h14 ⟨rfl, hI', hx⟩
        replace hE := hE.onlyL hx (by simp; omega)
        replace hb1 := hb1.onlyL hx (by simp; omega)
        replace hI := hI'
        have hxs := hx.size
        refine HO.val (v := .bool true) (want_by rfl rfl k8) rfl (q_not (b := false) rfl) ?_
        refine HO.val (v := .bool true) (want_none) rfl (q_pickK true rfl k8 rfl) ?_
        refine HO.val (v := .bool true) (want_none) rfl (q_move rfl) ?_
        refine HO.call (want_some rfl rfl) rfl (ec en_52 rfl rfl) (rlives_spec _) ?_
        rintro _ h15 ⟨rfl, hx⟩
        replace hE := hE.trans hx
        replace hb1 := hb1.ext hx
        replace hI := hI.ext hx
        have hxs := hx.size
        refine HO.val (v := .bool true) (want_none) rfl (q_pick rfl rfl) ?_
        refine HO.val (v := .bool true) (want_none) rfl (q_assign rfl) ?_
        refine HO.nil (thenQ_normal (?_))
        refine HW.ret (?_)
        refine ⟨.inr rfl, .bool true, res_one rfl rfl, ?_⟩
        exact ⟨rfl, hE⟩
end Go.HL.CI
