/- Go's pdqsort by a clock's order, whole. -/
import Derived.Test.YtnemfpgfgblpbaaSortPart2
import Derived.Test.YtnemfpgfgblpbaaSortBreak
import Derived.Sort.Walk13a
set_option linter.unusedSimpArgs false
set_option linter.unusedVariables false
set_option linter.unusedSectionVars false
namespace Go.HL.CI
open Go.Proofs Go.Sort
theorem en_189 (args : Array Value) (w : World) : (callFunc 189 args).run Try.prog w = .ok (.enter 189 args) w := by kernel_rfl
theorem en_190 (args : Array Value) (w : World) : (callFunc 190 args).run Try.prog w = .ok (.enter 190 args) w := by kernel_rfl
theorem en_191 (args : Array Value) (w : World) : (callFunc 191 args).run Try.prog w = .ok (.enter 191 args) w := by kernel_rfl
theorem en_192 (args : Array Value) (w : World) : (callFunc 192 args).run Try.prog w = .ok (.enter 192 args) w := by kernel_rfl
theorem en_193 (args : Array Value) (w : World) : (callFunc 193 args).run Try.prog w = .ok (.enter 193 args) w := by kernel_rfl
theorem en_194 (args : Array Value) (w : World) : (callFunc 194 args).run Try.prog w = .ok (.enter 194 args) w := by kernel_rfl
theorem en_195 (args : Array Value) (w : World) : (callFunc 195 args).run Try.prog w = .ok (.enter 195 args) w := by kernel_rfl
theorem en_196 (args : Array Value) (w : World) : (callFunc 196 args).run Try.prog w = .ok (.enter 196 args) w := by kernel_rfl
theorem en_157 (args : Array Value) (w : World) : (callFunc 157 args).run Try.prog w = .ok (.enter 157 args) w := by kernel_rfl
set_option maxRecDepth 100000 in
set_option maxHeartbeats 8000000 in
theorem pdq_step (c r : Nat) (m : List (Int × Int)) (B n : Nat) (v : Value) (d : Array Int) (h0 : Heap) (hC : Blk h0 c (.cells #[.map (some r)] 159 (0, 0))) (hM : MapIs h0 r kI kI m) (hO : OwnIs h0 B 3 1 encI v d.toList) (hvc : blockOf v ≠ some c) (hvr : blockOf v ≠ some r) (hd : d.toList.length = n) (hn : n ≤ 2305843009213693952) (a b limit : Nat) (hab : a ≤ b) (hb : b ≤ n) (hlim : limit ≤ 4611686018427387904) (hB0 : Go.Sort.Below (ltOf' (bef m)) a b d) (ih : ∀ (d : Array Int) (h0 : Heap) (p q lm : Nat), q - p < b - a → (Blk h0 c (.cells #[.map (some r)] 159 (0, 0))) → (MapIs h0 r kI kI m) → OwnIs h0 B 3 1 encI v d.toList → d.toList.length = n → p ≤ q → q ≤ n → lm ≤ limit → Go.Sort.Below (ltOf' (bef m)) p q d → HC Try.prog 157 #[v, .int .i64 ((p : Nat) : Int), .int .i64 ((q : Nat) : Int), .int .i64 ((lm : Nat) : Int), .func (.func 130) #[.pointer (some ⟨c, 0, none⟩)] #[]] h0 fun u h' => u = .tuple #[] ∧ OwnIs h' B 3 1 encI v (pdq (ltOf' (bef m)) d p q lm true true).toList ∧ Grown h0 h' v v ∧ Blk h' c (.cells #[.map (some r)] 159 (0, 0)) ∧ MapIs h' r kI kI m) :
    HC Try.prog 157 #[v, .int .i64 ((a : Nat) : Int), .int .i64 ((b : Nat) : Int), .int .i64 ((limit : Nat) : Int), .func (.func 130) #[.pointer (some ⟨c, 0, none⟩)] #[]] h0 fun u h' => u = .tuple #[] ∧ OwnIs h' B 3 1 encI v (pdq (ltOf' (bef m)) d a b limit true true).toList ∧ Grown h0 h' v v ∧ Blk h' c (.cells #[.map (some r)] 159 (0, 0)) ∧ MapIs h' r kI kI m := by
  refine HC.of_HW (n := 148) Try.func157 rfl rfl (Nat.le_of_ble_eq_true rfl) ?_
  have hG := Grown.refl h0 v
  refine HW.seq ?_
  refine HW.region ?_
  refine HO.val (v := .bool true) (want_none) rfl (q_assign rfl) ?_
  refine HO.nil (thenQ_normal (?_))
  refine HW.seq ?_
  refine HW.region ?_
  refine HO.val (v := .bool true) (want_none) rfl (q_assign rfl) ?_
  refine HO.nil (thenQ_normal (?_))
  refine HW.block ?_
  refine HW.loop (S := Array Int × Nat × Nat × Nat × Bool × Bool) (fun s f h => match s with | (D, p, q, lim, wb, wp) => f 0 = v ∧ f 1 = .int .i64 ((p : Nat) : Int) ∧ f 2 = .int .i64 ((q : Nat) : Int) ∧ f 3 = .int .i64 ((lim : Nat) : Int) ∧ f 4 = .func (.func 130) #[.pointer (some ⟨c, 0, none⟩)] #[] ∧ f 10 = .bool wb ∧ f 11 = .bool wp ∧ (Blk h c (.cells #[.map (some r)] 159 (0, 0))) ∧ (MapIs h r kI kI m) ∧ (Grown h0 h v v) ∧ (OwnIs h B 3 1 encI v D.toList) ∧ (pdq (ltOf' (bef m)) D p q lim wb wp = pdq (ltOf' (bef m)) d a b limit true true) ∧ (D.toList.length = n) ∧ (p ≤ q ∧ q ≤ n) ∧ (q - p ≤ b - a) ∧ (lim ≤ limit) ∧ (Go.Sort.Below (ltOf' (bef m)) p q D)) (fun s => match s with | (D, p, q, lim, wb, wp) => q - p) (d, a, b, limit, true, true) ?_ ?_
  · refine ⟨rfl, rfl, rfl, rfl, rfl, rfl, rfl, ?_, ?_, ?_, ?_, ?_, ?_, ?_, ?_, ?_, ?_⟩
    · exact hC
    · exact hM
    · exact hG
    · exact hO
    · rfl
    · exact hd
    · omega
    · omega
    · omega
    · exact hB0
  · rintro ⟨D, p, q, lim, wb, wp⟩ f1 hh1 ⟨e0, e1, e2, e3, e4, e10, e11, hC, hM, hG, hO, hT, hD, hpq, hk, hl, hB⟩
    refine HW.fr [(0, v), (1, .int .i64 ((p : Nat) : Int)), (2, .int .i64 ((q : Nat) : Int)), (3, .int .i64 ((lim : Nat) : Int)), (4, .func (.func 130) #[.pointer (some ⟨c, 0, none⟩)] #[]), (10, .bool wb), (11, .bool wp)] ⟨e0, e1, e2, e3, e4, e10, e11, trivial⟩ ?_
    refine HW.block ?_
    refine HW.seq ?_
    refine HW.region ?_
    refine HO.val (v := .int .i64 ((q : Nat) : Int)) (want_none) rfl (q_move rfl) ?_
    refine HO.val (v := .int .i64 ((p : Nat) : Int)) (want_none) rfl (q_move rfl) ?_
    refine HO.val (v := .int .i64 ((q - p : Nat) : Int)) (want_none) rfl (q_subN ((q - p : Nat) : Int) rfl rfl (by omega) (by omega) (by omega)) ?_
    refine HO.val (v := .int .i64 ((q - p : Nat) : Int)) (want_none) rfl (q_assign rfl) ?_
    refine HO.nil (thenQ_normal (?_))
    refine HW.seq ?_
    refine HW.seq ?_
    refine HW.region ?_
    refine HO.val (v := .int .i64 ((q - p : Nat) : Int)) (want_none) rfl (q_move rfl) ?_
    refine HO.val (v := .bool (decide (((q - p : Nat) : Int) ≤ 12))) (want_none) rfl (q_leq rfl rfl) ?_
    refine HO.nil (thenQ_normal (?_))
    refine HW.cond (decide (((q - p : Nat) : Int) ≤ 12)) rfl (fun c1 => ?_) (fun c1 => ?_)
    · have c1p := of_decide_eq_true c1
      refine HW.seq ?_
      refine HW.region ?_
      refine HO.val (v := v) (want_none) rfl (q_move rfl) ?_
      refine HO.val (v := .int .i64 ((p : Nat) : Int)) (want_none) rfl (q_move rfl) ?_
      refine HO.val (v := .int .i64 ((q : Nat) : Int)) (want_none) rfl (q_move rfl) ?_
      refine HO.val (v := .func (.func 130) #[.pointer (some ⟨c, 0, none⟩)] #[]) (want_none) rfl (q_move rfl) ?_
      refine HO.call (want_none) rfl (ec en_189 rfl rfl) (ins_spec c r m B n v D _ hC hM hO hvc hvr hD hn p q (by omega) (by omega)) ?_
      rintro _ h2 ⟨rfl, hO', hG', hC', hM'⟩
      replace hC := hC'; replace hM := hM'; replace hG := hG.trans hG'; replace hO := hO'
      refine HO.nil (thenQ_normal (?_))
      refine HW.ret (thenQ_ret (blockQ_ret (thenQ_ret (blockQ_ret (?_)))))
      refine ⟨.inr rfl, .tuple #[], res_none rfl, ?_⟩
      rw [← hT, pdq_small (by omega)]; exact ⟨rfl, hO, hG, hC, hM⟩
    · have c1p := of_decide_eq_false c1
      have hV : IsSl v _ := hO.slice.shape (List.length_pos_iff.1 (by omega))
      have F := rd_facts (lt := (ltOf' (bef m))) (limit := lim) (wb := wb) (wp := wp) (swo_of (bef_ord m)) partialInsertionSort_holds reverseRange_holds (show p < q by omega) (show q ≤ D.size by simpa using (show q ≤ D.toList.length by omega)) hB
      have hds : D.size = n := by simpa using hD
      refine HW.skip (thenQ_normal (?_))
      refine HW.seq ?_
      refine HW.seq ?_
      refine HW.region ?_
      refine HO.val (v := .int .i64 ((lim : Nat) : Int)) (want_none) rfl (q_move rfl) ?_
      refine HO.val (v := .bool (decide (((lim : Nat) : Int) = 0))) (want_none) rfl (q_eql rfl rfl) ?_
      refine HO.nil (thenQ_normal (?_))
      refine HW.cond (decide (((lim : Nat) : Int) = 0)) rfl (fun c2 => ?_) (fun c2 => ?_)
      · have c2p := of_decide_eq_true c2
        refine HW.seq ?_
        refine HW.region ?_
        refine HO.val (v := v) (want_none) rfl (q_move rfl) ?_
        refine HO.val (v := .int .i64 ((p : Nat) : Int)) (want_none) rfl (q_move rfl) ?_
        refine HO.val (v := .int .i64 ((q : Nat) : Int)) (want_none) rfl (q_move rfl) ?_
        refine HO.val (v := .func (.func 130) #[.pointer (some ⟨c, 0, none⟩)] #[]) (want_none) rfl (q_move rfl) ?_
        refine HO.call (want_none) rfl (ec en_190 rfl rfl) (heap_spec c r m B n v D _ hC hM hO hvc hvr hD hn p q (by omega) (by omega)) ?_
        rintro _ h3 ⟨rfl, hO', hG', hC', hM'⟩
        replace hC := hC'; replace hM := hM'; replace hG := hG.trans hG'; replace hO := hO'
        refine HO.nil (thenQ_normal (?_))
        refine HW.ret (thenQ_ret (blockQ_ret (thenQ_ret (blockQ_ret (?_)))))
        refine ⟨.inr rfl, .tuple #[], res_none rfl, ?_⟩
        rw [← hT, pdq_heap (by omega) (by omega)]; exact ⟨rfl, hO, hG, hC, hM⟩
      · have c2p := of_decide_eq_false c2
        refine HW.skip (thenQ_normal (?_))
        refine HW.seq_mid (fun f h => ∃ (D1 : Array Int) (lm : Nat), f 0 = v ∧ f 1 = .int .i64 ((p : Nat) : Int) ∧ f 2 = .int .i64 ((q : Nat) : Int) ∧ f 3 = .int .i64 ((lm : Nat) : Int) ∧ f 4 = .func (.func 130) #[.pointer (some ⟨c, 0, none⟩)] #[] ∧ f 10 = .bool wb ∧ f 11 = .bool wp ∧ f 12 = .int .i64 ((q - p : Nat) : Int) ∧ (Blk h c (.cells #[.map (some r)] 159 (0, 0))) ∧ (MapIs h r kI kI m) ∧ (Grown h0 h v v) ∧ (OwnIs h B 3 1 encI v D1.toList) ∧ ((rd (ltOf' (bef m)) D p q lim wb wp).d1 = D1) ∧ ((rd (ltOf' (bef m)) D p q lim wb wp).lim = lm)) ?_ ?_
        · refine HW.seq ?_
          refine HW.region ?_
          refine HO.val (v := .bool wb) (want_none) rfl (q_move rfl) ?_
          refine HO.val (v := .bool (!wb)) (want_none) rfl (q_not rfl) ?_
          refine HO.nil (thenQ_normal (?_))
          refine HW.cond (!wb) rfl (fun c3 => ?_) (fun c3 => ?_)
          · refine HW.seq ?_
            refine HW.region ?_
            refine HO.val (v := v) (want_none) rfl (q_move rfl) ?_
            refine HO.val (v := .int .i64 ((p : Nat) : Int)) (want_none) rfl (q_move rfl) ?_
            refine HO.val (v := .int .i64 ((q : Nat) : Int)) (want_none) rfl (q_move rfl) ?_
            refine HO.val (v := .func (.func 130) #[.pointer (some ⟨c, 0, none⟩)] #[]) (want_none) rfl (q_move rfl) ?_
            refine HO.call (want_none) rfl (ec en_191 rfl rfl) (break_spec c r m B n v D _ hC hM hO hvc hvr hD hn p q (by omega) (by omega)) ?_
            rintro _ h4 ⟨rfl, hO', hG', hC', hM'⟩
            replace hC := hC'; replace hM := hM'; replace hG := hG.trans hG'; replace hO := hO'
            refine HO.nil (thenQ_normal (?_))
            refine HW.region ?_
            refine HO.val (v := .int .i64 ((lim : Nat) : Int)) (want_none) rfl (q_move rfl) ?_
            refine HO.val (v := .int .i64 ((lim - 1 : Nat) : Int)) (want_none) rfl (q_subN ((lim - 1 : Nat) : Int) rfl rfl (by omega) (by omega) (by omega)) ?_
            refine HO.val (v := .int .i64 ((lim - 1 : Nat) : Int)) (want_none) rfl (q_assign rfl) ?_
            refine HO.nil (thenQ_normal (?_))
            refine ⟨breakPatterns D p q, lim - 1, rfl, rfl, rfl, rfl, rfl, rfl, rfl, rfl, ?_, ?_, ?_, ?_, ?_, ?_⟩
            · exact hC
            · exact hM
            · exact hG
            · exact hO
            · have hwb : wb = false := by simpa using c3
              subst hwb; exact rd_false.1
            · have hwb : wb = false := by simpa using c3
              subst hwb; exact rd_false.2
          · refine HW.skip (thenQ_normal (?_))
            refine ⟨D, lim, rfl, rfl, rfl, rfl, rfl, rfl, rfl, rfl, ?_, ?_, ?_, ?_, ?_, ?_⟩
            · exact hC
            · exact hM
            · exact hG
            · exact hO
            · have hwb : wb = true := by simpa using c3
              subst hwb; exact rd_true.1
            · have hwb : wb = true := by simpa using c3
              subst hwb; exact rd_true.2
        · rintro f5 hh5 ⟨D1, lm, e0, e1, e2, e3, e4, e10, e11, e12, hC, hM, hG, hO, hd1, hlm⟩
          refine HW.fr [(0, v), (1, .int .i64 ((p : Nat) : Int)), (2, .int .i64 ((q : Nat) : Int)), (3, .int .i64 ((lm : Nat) : Int)), (4, .func (.func 130) #[.pointer (some ⟨c, 0, none⟩)] #[]), (10, .bool wb), (11, .bool wp), (12, .int .i64 ((q - p : Nat) : Int))] ⟨e0, e1, e2, e3, e4, e10, e11, e12, trivial⟩ ?_
          have hD1 : D1.toList.length = n := by rw [← hd1]; simpa using F.1.trans hds
          have hlml : lm ≤ limit := by rw [← hlm]; exact Nat.le_trans rd_lim_le hl
          refine HW.seq ?_
          refine HW.region ?_
          refine HO.val (v := v) (want_none) rfl (q_move rfl) ?_
          refine HO.val (v := .int .i64 ((p : Nat) : Int)) (want_none) rfl (q_move rfl) ?_
          refine HO.val (v := .int .i64 ((q : Nat) : Int)) (want_none) rfl (q_move rfl) ?_
          refine HO.val (v := .func (.func 130) #[.pointer (some ⟨c, 0, none⟩)] #[]) (want_none) rfl (q_move rfl) ?_
          obtain ⟨cv, ch, hcv⟩ : ∃ x y, choosePivot (ltOf' (bef m)) D1 p q = (x, y) := ⟨_, _, rfl⟩
          have hcb := F.2.2.1; rw [rd_c, hd1, hcv] at hcb
          refine HO.call (want_none) rfl (ec en_192 rfl rfl) ((pivot_spec c r m B n v D1 _ hC hM hO hvc hvr hD1 hn p q (by omega) (by omega)).mono (R' := fun u h' => u = .tuple #[.int .i64 ((cv : Nat) : Int), .int .i64 (hcode ch)] ∧ Ext _ h') (fun _ _ h => ⟨by rw [h.1, hcv], h.2⟩)) ?_
          rintro _ h6 ⟨rfl, hx⟩
          replace hC := hC.ext hx
          replace hM := hM.ext hx
          replace hG := hG.ext hx
          replace hO := hO.ext hx
          refine HO.val (v := .tuple #[.int .i64 ((cv : Nat) : Int), .int .i64 (hcode ch)]) (want_none) rfl (q_move rfl) ?_
          refine HO.val (v := .int .i64 ((cv : Nat) : Int)) (want_none) rfl (q_extract rfl rfl) ?_
          refine HO.val (v := .int .i64 (hcode ch)) (want_none) rfl (q_extract rfl rfl) ?_
          refine HO.val (v := .int .i64 ((cv : Nat) : Int)) (want_none) rfl (q_assign rfl) ?_
          refine HO.val (v := .int .i64 (hcode ch)) (want_none) rfl (q_assign rfl) ?_
          refine HO.nil (thenQ_normal (?_))
          refine HW.seq_mid (fun f h => ∃ (D2 : Array Int) (pv : Nat) (ht : Hint), f 0 = v ∧ f 1 = .int .i64 ((p : Nat) : Int) ∧ f 2 = .int .i64 ((q : Nat) : Int) ∧ f 3 = .int .i64 ((lm : Nat) : Int) ∧ f 4 = .func (.func 130) #[.pointer (some ⟨c, 0, none⟩)] #[] ∧ f 10 = .bool wb ∧ f 11 = .bool wp ∧ f 12 = .int .i64 ((q - p : Nat) : Int) ∧ f 13 = .int .i64 ((pv : Nat) : Int) ∧ f 14 = .int .i64 (hcode ht) ∧ (Blk h c (.cells #[.map (some r)] 159 (0, 0))) ∧ (MapIs h r kI kI m) ∧ (Grown h0 h v v) ∧ (OwnIs h B 3 1 encI v D2.toList) ∧ ((rd (ltOf' (bef m)) D p q lim wb wp).d2 = D2) ∧ ((rd (ltOf' (bef m)) D p q lim wb wp).pivot = pv) ∧ ((rd (ltOf' (bef m)) D p q lim wb wp).hint = ht)) ?_ ?_
          · refine HW.seq ?_
            refine HW.region ?_
            refine HO.val (v := .int .i64 (hcode ch)) (want_none) rfl (q_move rfl) ?_
            refine HO.val (v := .bool (decide ((hcode ch) = 2))) (want_none) rfl (q_eql rfl rfl) ?_
            refine HO.nil (thenQ_normal (?_))
            refine HW.cond (decide ((hcode ch) = 2)) rfl (fun c4 => ?_) (fun c4 => ?_)
            · have c4p := of_decide_eq_true c4
              refine HW.seq ?_
              refine HW.region ?_
              refine HO.val (v := v) (want_none) rfl (q_move rfl) ?_
              refine HO.val (v := .int .i64 ((p : Nat) : Int)) (want_none) rfl (q_move rfl) ?_
              refine HO.val (v := .int .i64 ((q : Nat) : Int)) (want_none) rfl (q_move rfl) ?_
              refine HO.val (v := .func (.func 130) #[.pointer (some ⟨c, 0, none⟩)] #[]) (want_none) rfl (q_move rfl) ?_
              refine HO.call (want_none) rfl (ec en_193 rfl rfl) (reverse_spec c r m B n v D1 _ hC hM hO hvc hvr hD1 hn p q (by omega) (by omega)) ?_
              rintro _ h7 ⟨rfl, hO', hG', hC', hM'⟩
              replace hC := hC'; replace hM := hM'; replace hG := hG.trans hG'; replace hO := hO'
              refine HO.nil (thenQ_normal (?_))
              refine HW.seq ?_
              refine HW.region ?_
              refine HO.val (v := .int .i64 ((q : Nat) : Int)) (want_none) rfl (q_move rfl) ?_
              refine HO.val (v := .int .i64 ((q - 1 : Nat) : Int)) (want_none) rfl (q_subN ((q - 1 : Nat) : Int) rfl rfl (by omega) (by omega) (by omega)) ?_
              refine HO.val (v := .int .i64 ((cv : Nat) : Int)) (want_none) rfl (q_move rfl) ?_
              refine HO.val (v := .int .i64 ((p : Nat) : Int)) (want_none) rfl (q_move rfl) ?_
              refine HO.val (v := .int .i64 ((cv - p : Nat) : Int)) (want_none) rfl (q_subN ((cv - p : Nat) : Int) rfl rfl (by omega) (by omega) (by omega)) ?_
              refine HO.val (v := .int .i64 ((q + p - cv - 1 : Nat) : Int)) (want_none) rfl (q_subN ((q + p - cv - 1 : Nat) : Int) rfl rfl (by omega) (by omega) (by omega)) ?_
              refine HO.val (v := .int .i64 ((q + p - cv - 1 : Nat) : Int)) (want_none) rfl (q_assign rfl) ?_
              refine HO.nil (thenQ_normal (?_))
              refine HW.region ?_
              refine HO.val (v := .int .i64 1) (want_none) rfl (q_assign rfl) ?_
              refine HO.nil (thenQ_normal (?_))
              refine ⟨reverseRange D1 p q, q + p - cv - 1, Hint.increasing, rfl, rfl, rfl, rfl, rfl, rfl, rfl, rfl, rfl, rfl, ?_, ?_, ?_, ?_, ?_, ?_, ?_⟩
              · exact hC
              · exact hM
              · exact hG
              · exact hO
              · have hdec : (rd (ltOf' (bef m)) D p q lim wb wp).c.2 = .decreasing := by rw [rd_c, hd1, hcv]; cases ch <;> simp_all [hcode]
                rw [(rd_dec hdec).1, hd1]
              · have hdec : (rd (ltOf' (bef m)) D p q lim wb wp).c.2 = .decreasing := by rw [rd_c, hd1, hcv]; cases ch <;> simp_all [hcode]
                rw [(rd_dec hdec).2.1, rd_c, hd1, hcv]; dsimp only; omega
              · have hdec : (rd (ltOf' (bef m)) D p q lim wb wp).c.2 = .decreasing := by rw [rd_c, hd1, hcv]; cases ch <;> simp_all [hcode]
                exact (rd_dec hdec).2.2
            · have c4p := of_decide_eq_false c4
              refine HW.skip (thenQ_normal (?_))
              refine ⟨D1, cv, ch, rfl, rfl, rfl, rfl, rfl, rfl, rfl, rfl, rfl, rfl, ?_, ?_, ?_, ?_, ?_, ?_, ?_⟩
              · exact hC
              · exact hM
              · exact hG
              · exact hO
              · have hdec : (rd (ltOf' (bef m)) D p q lim wb wp).c.2 ≠ .decreasing := by rw [rd_c, hd1, hcv]; cases ch <;> simp_all [hcode]
                rw [(rd_not hdec).1, hd1]
              · have hdec : (rd (ltOf' (bef m)) D p q lim wb wp).c.2 ≠ .decreasing := by rw [rd_c, hd1, hcv]; cases ch <;> simp_all [hcode]
                rw [(rd_not hdec).2.1, rd_c, hd1, hcv]
              · have hdec : (rd (ltOf' (bef m)) D p q lim wb wp).c.2 ≠ .decreasing := by rw [rd_c, hd1, hcv]; cases ch <;> simp_all [hcode]
                rw [(rd_not hdec).2.2, rd_c, hd1, hcv]
          · rintro f8 hh8 ⟨D2, pv, ht, e0, e1, e2, e3, e4, e10, e11, e12, e13, e14, hC, hM, hG, hO, hd2, hpv, hht⟩
            refine HW.fr [(0, v), (1, .int .i64 ((p : Nat) : Int)), (2, .int .i64 ((q : Nat) : Int)), (3, .int .i64 ((lm : Nat) : Int)), (4, .func (.func 130) #[.pointer (some ⟨c, 0, none⟩)] #[]), (10, .bool wb), (11, .bool wp), (12, .int .i64 ((q - p : Nat) : Int)), (13, .int .i64 ((pv : Nat) : Int)), (14, .int .i64 (hcode ht))] ⟨e0, e1, e2, e3, e4, e10, e11, e12, e13, e14, trivial⟩ ?_
            have hD2 : D2.toList.length = n := by rw [← hd2]; simpa using F.2.2.2.1.trans hds
            have hpvb := F.2.2.2.2.2.1; rw [hpv] at hpvb
            refine HW.seq_mid (fun f h => ∃ (D3 : Array Int), f 0 = v ∧ f 1 = .int .i64 ((p : Nat) : Int) ∧ f 2 = .int .i64 ((q : Nat) : Int) ∧ f 3 = .int .i64 ((lm : Nat) : Int) ∧ f 4 = .func (.func 130) #[.pointer (some ⟨c, 0, none⟩)] #[] ∧ f 10 = .bool wb ∧ f 11 = .bool wp ∧ f 12 = .int .i64 ((q - p : Nat) : Int) ∧ f 13 = .int .i64 ((pv : Nat) : Int) ∧ (Blk h c (.cells #[.map (some r)] 159 (0, 0))) ∧ (MapIs h r kI kI m) ∧ (Grown h0 h v v) ∧ (OwnIs h B 3 1 encI v D3.toList) ∧ ((rd (ltOf' (bef m)) D p q lim wb wp).pi.1 = D3) ∧ ((rd (ltOf' (bef m)) D p q lim wb wp).pi.2 = false)) ?_ ?_
            · refine HW.seq ?_
              refine HW.region ?_
              refine HO.val (v := .bool wb) (want_none) rfl (q_move rfl) ?_
              refine HO.val (v := .bool wb) (want_none) rfl (q_move rfl) ?_
              rcases Bool.eq_false_or_eq_true wb with g5 | g5
              · refine HO.val (v := .bool wp) (want_by rfl rfl g5) rfl (q_move rfl) ?_
                refine HO.val (v := .bool wp) (want_none) rfl (q_pickK true rfl g5 rfl) ?_
                refine HO.val (v := .bool wp) (want_none) rfl (q_move rfl) ?_
                rcases Bool.eq_false_or_eq_true wp with g6 | g6
                · refine HO.val (v := .int .i64 (hcode ht)) (want_by rfl rfl g6) rfl (q_move rfl) ?_
                  refine HO.val (v := .bool (decide ((hcode ht) = 1))) (want_by rfl rfl g6) rfl (q_eql rfl rfl) ?_
                  refine HO.val (v := .bool (decide ((hcode ht) = 1))) (want_none) rfl (q_pickK true rfl g6 rfl) ?_
                  refine HO.nil (thenQ_normal (?_))
                  refine HW.cond (decide ((hcode ht) = 1)) rfl (fun c7 => ?_) (fun c7 => ?_)
                  · have c7p := of_decide_eq_true c7
                    refine HW.seq ?_
                    refine HW.region ?_
                    refine HO.val (v := v) (want_none) rfl (q_move rfl) ?_
                    refine HO.val (v := .int .i64 ((p : Nat) : Int)) (want_none) rfl (q_move rfl) ?_
                    refine HO.val (v := .int .i64 ((q : Nat) : Int)) (want_none) rfl (q_move rfl) ?_
                    refine HO.val (v := .func (.func 130) #[.pointer (some ⟨c, 0, none⟩)] #[]) (want_none) rfl (q_move rfl) ?_
                    refine HO.call (want_none) rfl (ec en_194 rfl rfl) (partial_spec c r m B n v D2 _ hC hM hO hvc hvr hD2 hn p q (by omega) (by omega)) ?_
                    rintro _ h9 ⟨rfl, hO', hG', hC', hM'⟩
                    replace hC := hC'; replace hM := hM'; replace hG := hG.trans hG'; replace hO := hO'
                    refine HO.nil (thenQ_normal (?_))
                    refine HW.cond ((partialInsertionSort (ltOf' (bef m)) D2 p q).2) rfl (fun c8 => ?_) (fun c8 => ?_)
                    · refine HW.ret (thenQ_ret (blockQ_ret (thenQ_ret (blockQ_ret (?_)))))
                      refine ⟨.inr rfl, .tuple #[], res_none rfl, ?_⟩
                      have hcnd : (wb && wp && decide ((rd (ltOf' (bef m)) D p q lim wb wp).hint = .increasing)) = true := by rw [hht]; cases ht <;> simp_all [hcode]
                      rw [← hT, pdq_done (by omega) (by omega) (by rw [rd_pi_yes hcnd, hd2]; exact c8), rd_pi_yes hcnd, hd2]; exact ⟨rfl, hO, hG, hC, hM⟩
                    · refine HW.skip (thenQ_normal (?_))
                      refine ⟨(partialInsertionSort (ltOf' (bef m)) D2 p q).1, rfl, rfl, rfl, rfl, rfl, rfl, rfl, rfl, rfl, ?_, ?_, ?_, ?_, ?_, ?_⟩
                      · exact hC
                      · exact hM
                      · exact hG
                      · exact hO
                      · have hcnd : (wb && wp && decide ((rd (ltOf' (bef m)) D p q lim wb wp).hint = .increasing)) = true := by rw [hht]; cases ht <;> simp_all [hcode]
                        rw [rd_pi_yes hcnd, hd2]
                      · have hcnd : (wb && wp && decide ((rd (ltOf' (bef m)) D p q lim wb wp).hint = .increasing)) = true := by rw [hht]; cases ht <;> simp_all [hcode]
                        rw [rd_pi_yes hcnd, hd2]; exact c8
                  · have c7p := of_decide_eq_false c7
                    refine HW.skip (thenQ_normal (?_))
                    refine ⟨D2, rfl, rfl, rfl, rfl, rfl, rfl, rfl, rfl, rfl, ?_, ?_, ?_, ?_, ?_, ?_⟩
                    · exact hC
                    · exact hM
                    · exact hG
                    · exact hO
                    · have hcnd : (wb && wp && decide ((rd (ltOf' (bef m)) D p q lim wb wp).hint = .increasing)) = false := by rw [hht]; cases ht <;> simp_all [hcode]
                      rw [rd_pi_no hcnd]; exact hd2
                    · have hcnd : (wb && wp && decide ((rd (ltOf' (bef m)) D p q lim wb wp).hint = .increasing)) = false := by rw [hht]; cases ht <;> simp_all [hcode]
                      rw [rd_pi_no hcnd]
                · refine HO.past (past_by rfl rfl g6) rfl ?_
                  refine HO.past (past_by rfl rfl g6) rfl ?_
                  refine HO.val (v := .bool false) (want_none) rfl (q_pickK false rfl g6 rfl) ?_
                  refine HO.nil (thenQ_normal (?_))
                  refine HW.condF rfl ?_
                  refine HW.skip (thenQ_normal (?_))
                  refine ⟨D2, rfl, rfl, rfl, rfl, rfl, rfl, rfl, rfl, rfl, ?_, ?_, ?_, ?_, ?_, ?_⟩
                  · exact hC
                  · exact hM
                  · exact hG
                  · exact hO
                  · have hcnd : (wb && wp && decide ((rd (ltOf' (bef m)) D p q lim wb wp).hint = .increasing)) = false := by rw [hht]; cases ht <;> simp_all [hcode]
                    rw [rd_pi_no hcnd]; exact hd2
                  · have hcnd : (wb && wp && decide ((rd (ltOf' (bef m)) D p q lim wb wp).hint = .increasing)) = false := by rw [hht]; cases ht <;> simp_all [hcode]
                    rw [rd_pi_no hcnd]
              · refine HO.past (past_by rfl rfl g5) rfl ?_
                refine HO.val (v := .bool false) (want_none) rfl (q_pickK false rfl g5 rfl) ?_
                refine HO.val (v := .bool false) (want_none) rfl (q_move rfl) ?_
                refine HO.past (past_some rfl rfl) rfl ?_
                refine HO.past (past_some rfl rfl) rfl ?_
                refine HO.val (v := .bool false) (want_none) rfl (q_pick rfl rfl) ?_
                refine HO.nil (thenQ_normal (?_))
                refine HW.condF rfl ?_
                refine HW.skip (thenQ_normal (?_))
                refine ⟨D2, rfl, rfl, rfl, rfl, rfl, rfl, rfl, rfl, rfl, ?_, ?_, ?_, ?_, ?_, ?_⟩
                · exact hC
                · exact hM
                · exact hG
                · exact hO
                · have hcnd : (wb && wp && decide ((rd (ltOf' (bef m)) D p q lim wb wp).hint = .increasing)) = false := by rw [hht]; cases ht <;> simp_all [hcode]
                  rw [rd_pi_no hcnd]; exact hd2
                · have hcnd : (wb && wp && decide ((rd (ltOf' (bef m)) D p q lim wb wp).hint = .increasing)) = false := by rw [hht]; cases ht <;> simp_all [hcode]
                  rw [rd_pi_no hcnd]
            · rintro f10 hh10 ⟨D3, e0, e1, e2, e3, e4, e10, e11, e12, e13, hC, hM, hG, hO, hd3, hd3b⟩
              refine HW.fr [(0, v), (1, .int .i64 ((p : Nat) : Int)), (2, .int .i64 ((q : Nat) : Int)), (3, .int .i64 ((lm : Nat) : Int)), (4, .func (.func 130) #[.pointer (some ⟨c, 0, none⟩)] #[]), (10, .bool wb), (11, .bool wp), (12, .int .i64 ((q - p : Nat) : Int)), (13, .int .i64 ((pv : Nat) : Int))] ⟨e0, e1, e2, e3, e4, e10, e11, e12, e13, trivial⟩ ?_
              have hD3 : D3.toList.length = n := by rw [← hd3]; simpa using F.2.2.2.2.2.2.1.trans hds
              have hB3 := F.2.2.2.2.2.2.2; rw [hd3] at hB3
              refine HW.seq ?_
              refine HW.seq ?_
              refine HW.regionD 17 mixed (fun h => (Blk h c (.cells #[.map (some r)] 159 (0, 0))) ∧ (MapIs h r kI kI m) ∧ (Grown h0 h v v) ∧ (OwnIs h B 3 1 encI v D3.toList)) [] [(0, true), (1, true), (2, true), (3, true), (4, true), (5, true), (6, true), (7, true), (8, true), (9, true), (10, true), (11, true), (12, true), (13, false), (14, true), (15, true), (16, true)] (by kernel_rfl) ?_
              refine HM.val (v := .int .i64 ((p : Nat) : Int)) rfl rfl (want_none) rfl (fun _ ⟨hC, hM, hG, hO⟩ => q_move rfl) ?_
              refine HM.val (v := .bool (decide (0 < ((p : Nat) : Int)))) rfl rfl (want_none) rfl (fun _ ⟨hC, hM, hG, hO⟩ => q_gtr rfl rfl) ?_
              refine HM.val (v := .bool (decide (0 < ((p : Nat) : Int)))) rfl rfl (want_none) rfl (fun _ ⟨hC, hM, hG, hO⟩ => q_move rfl) ?_
              rcases Bool.eq_false_or_eq_true (decide (0 < ((p : Nat) : Int))) with g9 | g9
              · have g9p := of_decide_eq_true g9
                refine HM.val (v := .func (.func 130) #[.pointer (some ⟨c, 0, none⟩)] #[]) rfl rfl (want_by rfl rfl g9) rfl (fun _ ⟨hC, hM, hG, hO⟩ => q_move rfl) ?_
                refine HM.val (v := v) rfl rfl (want_by rfl rfl g9) rfl (fun _ ⟨hC, hM, hG, hO⟩ => q_move rfl) ?_
                refine HM.val (v := .int .i64 ((p : Nat) : Int)) rfl rfl (want_by rfl rfl g9) rfl (fun _ ⟨hC, hM, hG, hO⟩ => q_move rfl) ?_
                refine HM.val (v := .int .i64 ((p - 1 : Nat) : Int)) rfl rfl (want_by rfl rfl g9) rfl (fun _ ⟨hC, hM, hG, hO⟩ => q_subN ((p - 1 : Nat) : Int) rfl rfl (by omega) (by omega) (by omega)) ?_
                refine HM.val (v := elemPtr 1 v (p - 1)) rfl rfl (want_by rfl rfl g9) rfl (fun _ ⟨hC, hM, hG, hO⟩ => q_indexAddrV (i := p - 1) ts_22 hV rfl rfl (by omega)) ?_
                refine HM.val (v := .int .i64 (D3[p - 1]!)) rfl rfl (want_by rfl rfl g9) rfl (fun _ ⟨hC, hM, hG, hO⟩ => q_loadElemQ to_3 hO.slice rfl (getE (by omega)) rfl) ?_
                refine HM.val (v := v) rfl rfl (want_by rfl rfl g9) rfl (fun _ ⟨hC, hM, hG, hO⟩ => q_move rfl) ?_
                refine HM.val (v := .int .i64 ((pv : Nat) : Int)) rfl rfl (want_by rfl rfl g9) rfl (fun _ ⟨hC, hM, hG, hO⟩ => q_move rfl) ?_
                refine HM.val (v := elemPtr 1 v pv) rfl rfl (want_by rfl rfl g9) rfl (fun _ ⟨hC, hM, hG, hO⟩ => q_indexAddrV (i := pv) ts_22 hV rfl rfl (by omega)) ?_
                refine HM.val (v := .int .i64 (D3[pv]!)) rfl rfl (want_by rfl rfl g9) rfl (fun _ ⟨hC, hM, hG, hO⟩ => q_loadElemQ to_3 hO.slice rfl (getE (by omega)) rfl) ?_
                refine HM.call ⟨⟨hC, hM, hG, hO⟩, Go.HL.at_nil _ _⟩ rfl (want_by rfl rfl g9) rfl (ec en_130 rfl rfl) (before_spec' c r m _ hC hM (D3[p - 1]!) (D3[pv]!)) ?_
                rintro _ h11 ⟨rfl, hx⟩
                replace hC := hC.ext hx
                replace hM := hM.ext hx
                replace hG := hG.ext hx
                replace hO := hO.ext hx
                have hxs := hx.size
                refine HM.val (v := .bool (decide ((bef m (D3[p - 1]!) (D3[pv]!)) < 0))) rfl rfl (want_by rfl rfl g9) rfl (fun _ ⟨hC, hM, hG, hO⟩ => q_lss rfl rfl) ?_
                refine HM.val (v := .bool (!(decide ((bef m (D3[p - 1]!) (D3[pv]!)) < 0)))) rfl rfl (want_by rfl rfl g9) rfl (fun _ ⟨hC, hM, hG, hO⟩ => q_not rfl) ?_
                refine HM.val (v := .bool (!(decide ((bef m (D3[p - 1]!) (D3[pv]!)) < 0)))) rfl rfl (want_none) rfl (fun _ ⟨hC, hM, hG, hO⟩ => q_pickK true rfl g9 rfl) ?_
                refine HM.nil ⟨⟨hC, hM, hG, hO⟩, Go.HL.at_nil _ _⟩ (thenQ_normal (?_))
                refine HW.cond (!(decide ((bef m (D3[p - 1]!) (D3[pv]!)) < 0))) rfl (fun c10 => ?_) (fun c10 => ?_)
                · have c10p : ¬ ((bef m (D3[p - 1]!) (D3[pv]!)) < 0) := by simpa using c10
                  refine HW.seq ?_
                  refine HW.region ?_
                  refine HO.val (v := v) (want_none) rfl (q_move rfl) ?_
                  refine HO.val (v := .int .i64 ((p : Nat) : Int)) (want_none) rfl (q_move rfl) ?_
                  refine HO.val (v := .int .i64 ((q : Nat) : Int)) (want_none) rfl (q_move rfl) ?_
                  refine HO.val (v := .int .i64 ((pv : Nat) : Int)) (want_none) rfl (q_move rfl) ?_
                  refine HO.val (v := .func (.func 130) #[.pointer (some ⟨c, 0, none⟩)] #[]) (want_none) rfl (q_move rfl) ?_
                  obtain ⟨md, d4, hx4⟩ : ∃ x y, partitionEqual (ltOf' (bef m)) D3 p q pv = (x, y) := ⟨_, _, rfl⟩
                  refine HO.call (want_none) rfl (ec en_195 rfl rfl) ((parteq_spec c r m B n v D3 _ hC hM hO hvc hvr hD3 hn p q pv (by omega) (by omega) (by omega) (by omega)).mono (R' := fun u h' => u = .int .i64 ((md : Nat) : Int) ∧ OwnIs h' B 3 1 encI v d4.toList ∧ Grown _ h' v v ∧ Blk h' c (.cells #[.map (some r)] 159 (0, 0)) ∧ MapIs h' r kI kI m) (fun _ _ h => by rw [hx4] at h; exact h)) ?_
                  rintro _ h12 ⟨rfl, hO', hG', hC', hM'⟩
                  replace hC := hC'; replace hM := hM'; replace hG := hG.trans hG'; replace hO := hO'
                  refine HO.val (v := .int .i64 ((md : Nat) : Int)) (want_none) rfl (q_assign rfl) ?_
                  refine HO.nil (thenQ_normal (?_))
                  refine HW.seq ?_
                  refine HW.region ?_
                  refine HO.val (v := .int .i64 ((md : Nat) : Int)) (want_none) rfl (q_move rfl) ?_
                  refine HO.val (v := .int .i64 ((md : Nat) : Int)) (want_none) rfl (q_assign rfl) ?_
                  refine HO.nil (thenQ_normal (?_))
                  refine HW.exit (thenQ_exit (blockQ_exit (thenQ_normal (?_))))
                  have htst : (decide (p > 0) && !(ltOf' (bef m)) (rd (ltOf' (bef m)) D p q lim wb wp).pi.1[p - 1]! (rd (ltOf' (bef m)) D p q lim wb wp).pi.1[(rd (ltOf' (bef m)) D p q lim wb wp).pivot]!) = true := by rw [hd3, hpv]; simp [(show (ltOf' (bef m)) (D3[p - 1]!) (D3[pv]!) = false from by simpa [ltOf'] using c10)] <;> omega
                  obtain ⟨r1, r2, r3, r4, _⟩ := round_eq (swo_of (bef_ord m)) (partitionEqual_holds _) (by omega) hpvb.1 hpvb.2 (by simpa using (show q ≤ D3.toList.length by omega)) hB3 (show (ltOf' (bef m)) (D3[p - 1]!) (D3[pv]!) = false from by simpa [ltOf'] using c10) hx4
                  have q1 := pdq_eq (lt := (ltOf' (bef m))) (d := D) (a := p) (b := q) (limit := lim) (wb := wb) (wp := wp) (by omega) (by omega) hd3b htst (by rw [hd3, hpv, hx4]; exact ⟨r1, r2⟩)
                  rw [hd3, hpv, hx4, hlm, hT] at q1
                  refine ⟨(d4, md, q, lm, wb, wp), ⟨rfl, rfl, rfl, rfl, rfl, rfl, rfl, ?_, ?_, ?_, ?_, ?_, ?_, ?_, ?_, ?_, ?_⟩, ?_⟩
                  · exact hC
                  · exact hM
                  · exact hG
                  · exact hO
                  · exact q1.symm
                  · exact (by simpa using r3 : d4.toList.length = D3.toList.length).trans hD3
                  · omega
                  · omega
                  · omega
                  · exact r4
                  · dsimp only; omega
                · have c10p : ((bef m (D3[p - 1]!) (D3[pv]!)) < 0) := by simpa using c10
                  refine HW.skip (thenQ_normal (?_))
                  refine HW.seq ?_
                  refine HW.region ?_
                  refine HO.val (v := v) (want_none) rfl (q_move rfl) ?_
                  refine HO.val (v := .int .i64 ((p : Nat) : Int)) (want_none) rfl (q_move rfl) ?_
                  refine HO.val (v := .int .i64 ((q : Nat) : Int)) (want_none) rfl (q_move rfl) ?_
                  refine HO.val (v := .int .i64 ((pv : Nat) : Int)) (want_none) rfl (q_move rfl) ?_
                  refine HO.val (v := .func (.func 130) #[.pointer (some ⟨c, 0, none⟩)] #[]) (want_none) rfl (q_move rfl) ?_
                  obtain ⟨md, ap, d4, hx4⟩ : ∃ x y z, partition (ltOf' (bef m)) D3 p q pv = (x, y, z) := ⟨_, _, _, rfl⟩
                  obtain ⟨r1, r2, r3, r4, r5, r6, r7⟩ := round_part (swo_of (bef_ord m)) (partition_holds _) hpvb.1 hpvb.2 (by simpa using (show q ≤ D3.toList.length by omega)) hB3 hx4
                  have hD4 : d4.toList.length = n := (by simpa using r3 : d4.toList.length = D3.toList.length).trans hD3
                  refine HO.call (want_none) rfl (ec en_196 rfl rfl) ((part_spec c r m B n v D3 _ hC hM hO hvc hvr hD3 hn p q pv (by omega) (by omega) (by omega) (by omega)).mono (R' := fun u h' => u = .tuple #[.int .i64 ((md : Nat) : Int), .bool ap] ∧ OwnIs h' B 3 1 encI v d4.toList ∧ Grown _ h' v v ∧ Blk h' c (.cells #[.map (some r)] 159 (0, 0)) ∧ MapIs h' r kI kI m) (fun _ _ h => by rw [hx4] at h; exact h)) ?_
                  rintro _ h13 ⟨rfl, hO', hG', hC', hM'⟩
                  replace hC := hC'; replace hM := hM'; replace hG := hG.trans hG'; replace hO := hO'
                  refine HO.val (v := .tuple #[.int .i64 ((md : Nat) : Int), .bool ap]) (want_none) rfl (q_move rfl) ?_
                  refine HO.val (v := .int .i64 ((md : Nat) : Int)) (want_none) rfl (q_extract rfl rfl) ?_
                  refine HO.val (v := .bool ap) (want_none) rfl (q_extract rfl rfl) ?_
                  refine HO.val (v := .int .i64 ((md : Nat) : Int)) (want_none) rfl (q_assign rfl) ?_
                  refine HO.val (v := .bool ap) (want_none) rfl (q_assign rfl) ?_
                  refine HO.nil (thenQ_normal (?_))
                  refine HW.seq ?_
                  refine HW.region ?_
                  refine HO.val (v := .bool ap) (want_none) rfl (q_move rfl) ?_
                  refine HO.val (v := .bool ap) (want_none) rfl (q_assign rfl) ?_
                  refine HO.nil (thenQ_normal (?_))
                  refine HW.seq ?_
                  refine HW.region ?_
                  refine HO.val (v := .int .i64 ((md : Nat) : Int)) (want_none) rfl (q_move rfl) ?_
                  refine HO.val (v := .int .i64 ((p : Nat) : Int)) (want_none) rfl (q_move rfl) ?_
                  refine HO.val (v := .int .i64 ((md - p : Nat) : Int)) (want_none) rfl (q_subN ((md - p : Nat) : Int) rfl rfl (by omega) (by omega) (by omega)) ?_
                  refine HO.val (v := .int .i64 ((q : Nat) : Int)) (want_none) rfl (q_move rfl) ?_
                  refine HO.val (v := .int .i64 ((md : Nat) : Int)) (want_none) rfl (q_move rfl) ?_
                  refine HO.val (v := .int .i64 ((q - md : Nat) : Int)) (want_none) rfl (q_subN ((q - md : Nat) : Int) rfl rfl (by omega) (by omega) (by omega)) ?_
                  refine HO.val (v := .int .i64 ((md - p : Nat) : Int)) (want_none) rfl (q_assign rfl) ?_
                  refine HO.val (v := .int .i64 ((q - md : Nat) : Int)) (want_none) rfl (q_assign rfl) ?_
                  refine HO.nil (thenQ_normal (?_))
                  refine HW.seq ?_
                  refine HW.region ?_
                  refine HO.val (v := .int .i64 ((q - p : Nat) : Int)) (want_none) rfl (q_move rfl) ?_
                  refine HO.val (v := .int .i64 (((q - p) / 8 : Nat) : Int)) (want_none) rfl (q_quoN _ rfl rfl (by decide) (by rw [Int.tdiv_eq_ediv_of_nonneg (by omega)]; omega) (by omega) (by omega)) ?_
                  refine HO.val (v := .int .i64 (((q - p) / 8 : Nat) : Int)) (want_none) rfl (q_assign rfl) ?_
                  refine HO.nil (thenQ_normal (?_))
                  refine HW.seq ?_
                  refine HW.region ?_
                  refine HO.val (v := .int .i64 ((md - p : Nat) : Int)) (want_none) rfl (q_move rfl) ?_
                  refine HO.val (v := .int .i64 ((q - md : Nat) : Int)) (want_none) rfl (q_move rfl) ?_
                  refine HO.val (v := .bool (decide (((md - p : Nat) : Int) < ((q - md : Nat) : Int)))) (want_none) rfl (q_lss rfl rfl) ?_
                  refine HO.nil (thenQ_normal (?_))
                  refine HW.cond (decide (((md - p : Nat) : Int) < ((q - md : Nat) : Int))) rfl (fun c11 => ?_) (fun c11 => ?_)
                  · have c11p := of_decide_eq_true c11
                    refine HW.seq ?_
                    refine HW.region ?_
                    refine HO.val (v := .int .i64 ((md - p : Nat) : Int)) (want_none) rfl (q_move rfl) ?_
                    refine HO.val (v := .int .i64 (((q - p) / 8 : Nat) : Int)) (want_none) rfl (q_move rfl) ?_
                    refine HO.val (v := .bool (decide ((((q - p) / 8 : Nat) : Int) ≤ ((md - p : Nat) : Int)))) (want_none) rfl (q_geq rfl rfl) ?_
                    refine HO.val (v := .bool (decide ((((q - p) / 8 : Nat) : Int) ≤ ((md - p : Nat) : Int)))) (want_none) rfl (q_assign rfl) ?_
                    refine HO.nil (thenQ_normal (?_))
                    refine HW.seq ?_
                    refine HW.region ?_
                    refine HO.val (v := v) (want_none) rfl (q_move rfl) ?_
                    refine HO.val (v := .int .i64 ((p : Nat) : Int)) (want_none) rfl (q_move rfl) ?_
                    refine HO.val (v := .int .i64 ((md : Nat) : Int)) (want_none) rfl (q_move rfl) ?_
                    refine HO.val (v := .int .i64 ((lm : Nat) : Int)) (want_none) rfl (q_move rfl) ?_
                    refine HO.val (v := .func (.func 130) #[.pointer (some ⟨c, 0, none⟩)] #[]) (want_none) rfl (q_move rfl) ?_
                    refine HO.call (want_none) rfl (ec en_157 rfl rfl) (ih d4 _ p md lm (by omega) hC hM hO hD4 (by omega) (by omega) (by omega) r4) ?_
                    rintro _ h14 ⟨rfl, hO', hG', hC', hM'⟩
                    replace hC := hC'; replace hM := hM'; replace hG := hG.trans hG'; replace hO := hO'
                    refine HO.nil (thenQ_normal (?_))
                    refine HW.region ?_
                    refine HO.val (v := .int .i64 ((md : Nat) : Int)) (want_none) rfl (q_move rfl) ?_
                    refine HO.val (v := .int .i64 ((md + 1 : Nat) : Int)) (want_none) rfl (q_addN ((md + 1 : Nat) : Int) rfl rfl (by omega) (by omega) (by omega)) ?_
                    refine HO.val (v := .int .i64 ((md + 1 : Nat) : Int)) (want_none) rfl (q_assign rfl) ?_
                    refine HO.nil (blockQ_normal (thenQ_normal (?_)))
                    have htst : (decide (p > 0) && !(ltOf' (bef m)) (rd (ltOf' (bef m)) D p q lim wb wp).pi.1[p - 1]! (rd (ltOf' (bef m)) D p q lim wb wp).pi.1[(rd (ltOf' (bef m)) D p q lim wb wp).pivot]!) = false := by rw [hd3, hpv]; simp [(show (ltOf' (bef m)) (D3[p - 1]!) (D3[pv]!) = true from by simpa [ltOf'] using c10)] <;> omega
                    obtain ⟨pL, sL⟩ := pdq_sorts (ltOf' (bef m)) (swo_of (bef_ord m)) d4 p md lm true true (by omega) (by simpa using (show md ≤ d4.toList.length by omega)) r4
                    have q1 := pdq_left (lt := (ltOf' (bef m))) (d := D) (a := p) (b := q) (limit := lim) (wb := wb) (wp := wp) (by omega) (by omega) hd3b htst (by rw [hd3, hpv, hx4]; exact ⟨r1, r2⟩) (by rw [hd3, hpv, hx4] <;> (try dsimp only) <;> omega)
                    rw [hd3, hpv, hx4, hlm, hT] at q1
                    have hdc : (decide ((((q - p) / 8 : Nat) : Int) ≤ ((md - p : Nat) : Int))) = decide (md - p ≥ (q - p) / 8) := decide_eq_decide.2 (by omega)
                    refine ⟨(pdq (ltOf' (bef m)) d4 p md lm true true, md + 1, q, lm, decide ((((q - p) / 8 : Nat) : Int) ≤ ((md - p : Nat) : Int)), ap), ⟨rfl, rfl, rfl, rfl, rfl, rfl, rfl, ?_, ?_, ?_, ?_, ?_, ?_, ?_, ?_, ?_, ?_⟩, ?_⟩
                    · exact hC
                    · exact hM
                    · exact hG
                    · exact hO
                    · rw [hdc]; exact q1.symm
                    · exact (by simpa using pL.1 : (pdq (ltOf' (bef m)) d4 p md lm true true).toList.length = d4.toList.length).trans hD4
                    · omega
                    · omega
                    · omega
                    · exact (r6 _ pL sL).1
                    · dsimp only; omega
                  · have c11p := of_decide_eq_false c11
                    refine HW.seq ?_
                    refine HW.region ?_
                    refine HO.val (v := .int .i64 ((q - md : Nat) : Int)) (want_none) rfl (q_move rfl) ?_
                    refine HO.val (v := .int .i64 (((q - p) / 8 : Nat) : Int)) (want_none) rfl (q_move rfl) ?_
                    refine HO.val (v := .bool (decide ((((q - p) / 8 : Nat) : Int) ≤ ((q - md : Nat) : Int)))) (want_none) rfl (q_geq rfl rfl) ?_
                    refine HO.val (v := .bool (decide ((((q - p) / 8 : Nat) : Int) ≤ ((q - md : Nat) : Int)))) (want_none) rfl (q_assign rfl) ?_
                    refine HO.nil (thenQ_normal (?_))
                    refine HW.seq ?_
                    refine HW.region ?_
                    refine HO.val (v := v) (want_none) rfl (q_move rfl) ?_
                    refine HO.val (v := .int .i64 ((md : Nat) : Int)) (want_none) rfl (q_move rfl) ?_
                    refine HO.val (v := .int .i64 ((md + 1 : Nat) : Int)) (want_none) rfl (q_addN ((md + 1 : Nat) : Int) rfl rfl (by omega) (by omega) (by omega)) ?_
                    refine HO.val (v := .int .i64 ((q : Nat) : Int)) (want_none) rfl (q_move rfl) ?_
                    refine HO.val (v := .int .i64 ((lm : Nat) : Int)) (want_none) rfl (q_move rfl) ?_
                    refine HO.val (v := .func (.func 130) #[.pointer (some ⟨c, 0, none⟩)] #[]) (want_none) rfl (q_move rfl) ?_
                    refine HO.call (want_none) rfl (ec en_157 rfl rfl) (ih d4 _ (md + 1) q lm (by omega) hC hM hO hD4 (by omega) (by omega) (by omega) r5) ?_
                    rintro _ h15 ⟨rfl, hO', hG', hC', hM'⟩
                    replace hC := hC'; replace hM := hM'; replace hG := hG.trans hG'; replace hO := hO'
                    refine HO.nil (thenQ_normal (?_))
                    refine HW.region ?_
                    refine HO.val (v := .int .i64 ((md : Nat) : Int)) (want_none) rfl (q_move rfl) ?_
                    refine HO.val (v := .int .i64 ((md : Nat) : Int)) (want_none) rfl (q_assign rfl) ?_
                    refine HO.nil (blockQ_normal (thenQ_normal (?_)))
                    have htst : (decide (p > 0) && !(ltOf' (bef m)) (rd (ltOf' (bef m)) D p q lim wb wp).pi.1[p - 1]! (rd (ltOf' (bef m)) D p q lim wb wp).pi.1[(rd (ltOf' (bef m)) D p q lim wb wp).pivot]!) = false := by rw [hd3, hpv]; simp [(show (ltOf' (bef m)) (D3[p - 1]!) (D3[pv]!) = true from by simpa [ltOf'] using c10)] <;> omega
                    obtain ⟨pL, sL⟩ := pdq_sorts (ltOf' (bef m)) (swo_of (bef_ord m)) d4 (md + 1) q lm true true (by omega) (by simpa using (show q ≤ d4.toList.length by omega)) r5
                    have q1 := pdq_right (lt := (ltOf' (bef m))) (d := D) (a := p) (b := q) (limit := lim) (wb := wb) (wp := wp) (by omega) (by omega) hd3b htst (by rw [hd3, hpv, hx4]; exact ⟨r1, r2⟩) (by rw [hd3, hpv, hx4] <;> (try dsimp only) <;> omega)
                    rw [hd3, hpv, hx4, hlm, hT] at q1
                    have hdc : (decide ((((q - p) / 8 : Nat) : Int) ≤ ((q - md : Nat) : Int))) = decide (q - md ≥ (q - p) / 8) := decide_eq_decide.2 (by omega)
                    refine ⟨(pdq (ltOf' (bef m)) d4 (md + 1) q lm true true, p, md, lm, decide ((((q - p) / 8 : Nat) : Int) ≤ ((q - md : Nat) : Int)), ap), ⟨rfl, rfl, rfl, rfl, rfl, rfl, rfl, ?_, ?_, ?_, ?_, ?_, ?_, ?_, ?_, ?_, ?_⟩, ?_⟩
                    · exact hC
                    · exact hM
                    · exact hG
                    · exact hO
                    · rw [hdc]; exact q1.symm
                    · exact (by simpa using pL.1 : (pdq (ltOf' (bef m)) d4 (md + 1) q lm true true).toList.length = d4.toList.length).trans hD4
                    · omega
                    · omega
                    · omega
                    · exact (r7 _ pL sL).1
                    · dsimp only; omega
              · have g9p := of_decide_eq_false g9
                refine HM.past rfl rfl (past_by rfl rfl g9) rfl ?_
                refine HM.past rfl rfl (past_by rfl rfl g9) rfl ?_
                refine HM.past rfl rfl (past_by rfl rfl g9) rfl ?_
                refine HM.past rfl rfl (past_by rfl rfl g9) rfl ?_
                refine HM.past rfl rfl (past_by rfl rfl g9) rfl ?_
                refine HM.past rfl rfl (past_by rfl rfl g9) rfl ?_
                refine HM.past rfl rfl (past_by rfl rfl g9) rfl ?_
                refine HM.past rfl rfl (past_by rfl rfl g9) rfl ?_
                refine HM.past rfl rfl (past_by rfl rfl g9) rfl ?_
                refine HM.past rfl rfl (past_by rfl rfl g9) rfl ?_
                refine HM.pastF ⟨⟨hC, hM, hG, hO⟩, Go.HL.at_nil _ _⟩ rfl (past_by rfl rfl g9) rfl ?_
                refine HM.past rfl rfl (past_by rfl rfl g9) rfl ?_
                refine HM.past rfl rfl (past_by rfl rfl g9) rfl ?_
                refine HM.val (v := .bool false) rfl rfl (want_none) rfl (fun _ ⟨hC, hM, hG, hO⟩ => q_pickK false rfl g9 rfl) ?_
                refine HM.nil ⟨⟨hC, hM, hG, hO⟩, Go.HL.at_nil _ _⟩ (thenQ_normal (?_))
                refine HW.condF rfl ?_
                refine HW.skip (thenQ_normal (?_))
                refine HW.seq ?_
                refine HW.region ?_
                refine HO.val (v := v) (want_none) rfl (q_move rfl) ?_
                refine HO.val (v := .int .i64 ((p : Nat) : Int)) (want_none) rfl (q_move rfl) ?_
                refine HO.val (v := .int .i64 ((q : Nat) : Int)) (want_none) rfl (q_move rfl) ?_
                refine HO.val (v := .int .i64 ((pv : Nat) : Int)) (want_none) rfl (q_move rfl) ?_
                refine HO.val (v := .func (.func 130) #[.pointer (some ⟨c, 0, none⟩)] #[]) (want_none) rfl (q_move rfl) ?_
                obtain ⟨md, ap, d4, hx4⟩ : ∃ x y z, partition (ltOf' (bef m)) D3 p q pv = (x, y, z) := ⟨_, _, _, rfl⟩
                obtain ⟨r1, r2, r3, r4, r5, r6, r7⟩ := round_part (swo_of (bef_ord m)) (partition_holds _) hpvb.1 hpvb.2 (by simpa using (show q ≤ D3.toList.length by omega)) hB3 hx4
                have hD4 : d4.toList.length = n := (by simpa using r3 : d4.toList.length = D3.toList.length).trans hD3
                refine HO.call (want_none) rfl (ec en_196 rfl rfl) ((part_spec c r m B n v D3 _ hC hM hO hvc hvr hD3 hn p q pv (by omega) (by omega) (by omega) (by omega)).mono (R' := fun u h' => u = .tuple #[.int .i64 ((md : Nat) : Int), .bool ap] ∧ OwnIs h' B 3 1 encI v d4.toList ∧ Grown _ h' v v ∧ Blk h' c (.cells #[.map (some r)] 159 (0, 0)) ∧ MapIs h' r kI kI m) (fun _ _ h => by rw [hx4] at h; exact h)) ?_
                rintro _ h16 ⟨rfl, hO', hG', hC', hM'⟩
                replace hC := hC'; replace hM := hM'; replace hG := hG.trans hG'; replace hO := hO'
                refine HO.val (v := .tuple #[.int .i64 ((md : Nat) : Int), .bool ap]) (want_none) rfl (q_move rfl) ?_
                refine HO.val (v := .int .i64 ((md : Nat) : Int)) (want_none) rfl (q_extract rfl rfl) ?_
                refine HO.val (v := .bool ap) (want_none) rfl (q_extract rfl rfl) ?_
                refine HO.val (v := .int .i64 ((md : Nat) : Int)) (want_none) rfl (q_assign rfl) ?_
                refine HO.val (v := .bool ap) (want_none) rfl (q_assign rfl) ?_
                refine HO.nil (thenQ_normal (?_))
                refine HW.seq ?_
                refine HW.region ?_
                refine HO.val (v := .bool ap) (want_none) rfl (q_move rfl) ?_
                refine HO.val (v := .bool ap) (want_none) rfl (q_assign rfl) ?_
                refine HO.nil (thenQ_normal (?_))
                refine HW.seq ?_
                refine HW.region ?_
                refine HO.val (v := .int .i64 ((md : Nat) : Int)) (want_none) rfl (q_move rfl) ?_
                refine HO.val (v := .int .i64 ((p : Nat) : Int)) (want_none) rfl (q_move rfl) ?_
                refine HO.val (v := .int .i64 ((md - p : Nat) : Int)) (want_none) rfl (q_subN ((md - p : Nat) : Int) rfl rfl (by omega) (by omega) (by omega)) ?_
                refine HO.val (v := .int .i64 ((q : Nat) : Int)) (want_none) rfl (q_move rfl) ?_
                refine HO.val (v := .int .i64 ((md : Nat) : Int)) (want_none) rfl (q_move rfl) ?_
                refine HO.val (v := .int .i64 ((q - md : Nat) : Int)) (want_none) rfl (q_subN ((q - md : Nat) : Int) rfl rfl (by omega) (by omega) (by omega)) ?_
                refine HO.val (v := .int .i64 ((md - p : Nat) : Int)) (want_none) rfl (q_assign rfl) ?_
                refine HO.val (v := .int .i64 ((q - md : Nat) : Int)) (want_none) rfl (q_assign rfl) ?_
                refine HO.nil (thenQ_normal (?_))
                refine HW.seq ?_
                refine HW.region ?_
                refine HO.val (v := .int .i64 ((q - p : Nat) : Int)) (want_none) rfl (q_move rfl) ?_
                refine HO.val (v := .int .i64 (((q - p) / 8 : Nat) : Int)) (want_none) rfl (q_quoN _ rfl rfl (by decide) (by rw [Int.tdiv_eq_ediv_of_nonneg (by omega)]; omega) (by omega) (by omega)) ?_
                refine HO.val (v := .int .i64 (((q - p) / 8 : Nat) : Int)) (want_none) rfl (q_assign rfl) ?_
                refine HO.nil (thenQ_normal (?_))
                refine HW.seq ?_
                refine HW.region ?_
                refine HO.val (v := .int .i64 ((md - p : Nat) : Int)) (want_none) rfl (q_move rfl) ?_
                refine HO.val (v := .int .i64 ((q - md : Nat) : Int)) (want_none) rfl (q_move rfl) ?_
                refine HO.val (v := .bool (decide (((md - p : Nat) : Int) < ((q - md : Nat) : Int)))) (want_none) rfl (q_lss rfl rfl) ?_
                refine HO.nil (thenQ_normal (?_))
                refine HW.cond (decide (((md - p : Nat) : Int) < ((q - md : Nat) : Int))) rfl (fun c12 => ?_) (fun c12 => ?_)
                · have c12p := of_decide_eq_true c12
                  refine HW.seq ?_
                  refine HW.region ?_
                  refine HO.val (v := .int .i64 ((md - p : Nat) : Int)) (want_none) rfl (q_move rfl) ?_
                  refine HO.val (v := .int .i64 (((q - p) / 8 : Nat) : Int)) (want_none) rfl (q_move rfl) ?_
                  refine HO.val (v := .bool (decide ((((q - p) / 8 : Nat) : Int) ≤ ((md - p : Nat) : Int)))) (want_none) rfl (q_geq rfl rfl) ?_
                  refine HO.val (v := .bool (decide ((((q - p) / 8 : Nat) : Int) ≤ ((md - p : Nat) : Int)))) (want_none) rfl (q_assign rfl) ?_
                  refine HO.nil (thenQ_normal (?_))
                  refine HW.seq ?_
                  refine HW.region ?_
                  refine HO.val (v := v) (want_none) rfl (q_move rfl) ?_
                  refine HO.val (v := .int .i64 ((p : Nat) : Int)) (want_none) rfl (q_move rfl) ?_
                  refine HO.val (v := .int .i64 ((md : Nat) : Int)) (want_none) rfl (q_move rfl) ?_
                  refine HO.val (v := .int .i64 ((lm : Nat) : Int)) (want_none) rfl (q_move rfl) ?_
                  refine HO.val (v := .func (.func 130) #[.pointer (some ⟨c, 0, none⟩)] #[]) (want_none) rfl (q_move rfl) ?_
                  refine HO.call (want_none) rfl (ec en_157 rfl rfl) (ih d4 _ p md lm (by omega) hC hM hO hD4 (by omega) (by omega) (by omega) r4) ?_
                  rintro _ h17 ⟨rfl, hO', hG', hC', hM'⟩
                  replace hC := hC'; replace hM := hM'; replace hG := hG.trans hG'; replace hO := hO'
                  refine HO.nil (thenQ_normal (?_))
                  refine HW.region ?_
                  refine HO.val (v := .int .i64 ((md : Nat) : Int)) (want_none) rfl (q_move rfl) ?_
                  refine HO.val (v := .int .i64 ((md + 1 : Nat) : Int)) (want_none) rfl (q_addN ((md + 1 : Nat) : Int) rfl rfl (by omega) (by omega) (by omega)) ?_
                  refine HO.val (v := .int .i64 ((md + 1 : Nat) : Int)) (want_none) rfl (q_assign rfl) ?_
                  refine HO.nil (blockQ_normal (thenQ_normal (?_)))
                  have htst : (decide (p > 0) && !(ltOf' (bef m)) (rd (ltOf' (bef m)) D p q lim wb wp).pi.1[p - 1]! (rd (ltOf' (bef m)) D p q lim wb wp).pi.1[(rd (ltOf' (bef m)) D p q lim wb wp).pivot]!) = false := by rw [hd3, hpv]; simp [] <;> omega
                  obtain ⟨pL, sL⟩ := pdq_sorts (ltOf' (bef m)) (swo_of (bef_ord m)) d4 p md lm true true (by omega) (by simpa using (show md ≤ d4.toList.length by omega)) r4
                  have q1 := pdq_left (lt := (ltOf' (bef m))) (d := D) (a := p) (b := q) (limit := lim) (wb := wb) (wp := wp) (by omega) (by omega) hd3b htst (by rw [hd3, hpv, hx4]; exact ⟨r1, r2⟩) (by rw [hd3, hpv, hx4] <;> (try dsimp only) <;> omega)
                  rw [hd3, hpv, hx4, hlm, hT] at q1
                  have hdc : (decide ((((q - p) / 8 : Nat) : Int) ≤ ((md - p : Nat) : Int))) = decide (md - p ≥ (q - p) / 8) := decide_eq_decide.2 (by omega)
                  refine ⟨(pdq (ltOf' (bef m)) d4 p md lm true true, md + 1, q, lm, decide ((((q - p) / 8 : Nat) : Int) ≤ ((md - p : Nat) : Int)), ap), ⟨rfl, rfl, rfl, rfl, rfl, rfl, rfl, ?_, ?_, ?_, ?_, ?_, ?_, ?_, ?_, ?_, ?_⟩, ?_⟩
                  · exact hC
                  · exact hM
                  · exact hG
                  · exact hO
                  · rw [hdc]; exact q1.symm
                  · exact (by simpa using pL.1 : (pdq (ltOf' (bef m)) d4 p md lm true true).toList.length = d4.toList.length).trans hD4
                  · omega
                  · omega
                  · omega
                  · exact (r6 _ pL sL).1
                  · dsimp only; omega
                · have c12p := of_decide_eq_false c12
                  refine HW.seq ?_
                  refine HW.region ?_
                  refine HO.val (v := .int .i64 ((q - md : Nat) : Int)) (want_none) rfl (q_move rfl) ?_
                  refine HO.val (v := .int .i64 (((q - p) / 8 : Nat) : Int)) (want_none) rfl (q_move rfl) ?_
                  refine HO.val (v := .bool (decide ((((q - p) / 8 : Nat) : Int) ≤ ((q - md : Nat) : Int)))) (want_none) rfl (q_geq rfl rfl) ?_
                  refine HO.val (v := .bool (decide ((((q - p) / 8 : Nat) : Int) ≤ ((q - md : Nat) : Int)))) (want_none) rfl (q_assign rfl) ?_
                  refine HO.nil (thenQ_normal (?_))
                  refine HW.seq ?_
                  refine HW.region ?_
                  refine HO.val (v := v) (want_none) rfl (q_move rfl) ?_
                  refine HO.val (v := .int .i64 ((md : Nat) : Int)) (want_none) rfl (q_move rfl) ?_
                  refine HO.val (v := .int .i64 ((md + 1 : Nat) : Int)) (want_none) rfl (q_addN ((md + 1 : Nat) : Int) rfl rfl (by omega) (by omega) (by omega)) ?_
                  refine HO.val (v := .int .i64 ((q : Nat) : Int)) (want_none) rfl (q_move rfl) ?_
                  refine HO.val (v := .int .i64 ((lm : Nat) : Int)) (want_none) rfl (q_move rfl) ?_
                  refine HO.val (v := .func (.func 130) #[.pointer (some ⟨c, 0, none⟩)] #[]) (want_none) rfl (q_move rfl) ?_
                  refine HO.call (want_none) rfl (ec en_157 rfl rfl) (ih d4 _ (md + 1) q lm (by omega) hC hM hO hD4 (by omega) (by omega) (by omega) r5) ?_
                  rintro _ h18 ⟨rfl, hO', hG', hC', hM'⟩
                  replace hC := hC'; replace hM := hM'; replace hG := hG.trans hG'; replace hO := hO'
                  refine HO.nil (thenQ_normal (?_))
                  refine HW.region ?_
                  refine HO.val (v := .int .i64 ((md : Nat) : Int)) (want_none) rfl (q_move rfl) ?_
                  refine HO.val (v := .int .i64 ((md : Nat) : Int)) (want_none) rfl (q_assign rfl) ?_
                  refine HO.nil (blockQ_normal (thenQ_normal (?_)))
                  have htst : (decide (p > 0) && !(ltOf' (bef m)) (rd (ltOf' (bef m)) D p q lim wb wp).pi.1[p - 1]! (rd (ltOf' (bef m)) D p q lim wb wp).pi.1[(rd (ltOf' (bef m)) D p q lim wb wp).pivot]!) = false := by rw [hd3, hpv]; simp [] <;> omega
                  obtain ⟨pL, sL⟩ := pdq_sorts (ltOf' (bef m)) (swo_of (bef_ord m)) d4 (md + 1) q lm true true (by omega) (by simpa using (show q ≤ d4.toList.length by omega)) r5
                  have q1 := pdq_right (lt := (ltOf' (bef m))) (d := D) (a := p) (b := q) (limit := lim) (wb := wb) (wp := wp) (by omega) (by omega) hd3b htst (by rw [hd3, hpv, hx4]; exact ⟨r1, r2⟩) (by rw [hd3, hpv, hx4] <;> (try dsimp only) <;> omega)
                  rw [hd3, hpv, hx4, hlm, hT] at q1
                  have hdc : (decide ((((q - p) / 8 : Nat) : Int) ≤ ((q - md : Nat) : Int))) = decide (q - md ≥ (q - p) / 8) := decide_eq_decide.2 (by omega)
                  refine ⟨(pdq (ltOf' (bef m)) d4 (md + 1) q lm true true, p, md, lm, decide ((((q - p) / 8 : Nat) : Int) ≤ ((q - md : Nat) : Int)), ap), ⟨rfl, rfl, rfl, rfl, rfl, rfl, rfl, ?_, ?_, ?_, ?_, ?_, ?_, ?_, ?_, ?_, ?_⟩, ?_⟩
                  · exact hC
                  · exact hM
                  · exact hG
                  · exact hO
                  · rw [hdc]; exact q1.symm
                  · exact (by simpa using pL.1 : (pdq (ltOf' (bef m)) d4 (md + 1) q lm true true).toList.length = d4.toList.length).trans hD4
                  · omega
                  · omega
                  · omega
                  · exact (r7 _ pL sL).1
                  · dsimp only; omega

theorem pdq_all (c r : Nat) (m : List (Int × Int)) (B n : Nat) (v : Value) (hvc : blockOf v ≠ some c) (hvr : blockOf v ≠ some r) (hn : n ≤ 2305843009213693952) : ∀ (N : Nat) (d : Array Int) (h0 : Heap) (a b limit : Nat), b - a < N → (Blk h0 c (.cells #[.map (some r)] 159 (0, 0))) → (MapIs h0 r kI kI m) → OwnIs h0 B 3 1 encI v d.toList → d.toList.length = n → a ≤ b → b ≤ n → limit ≤ 4611686018427387904 → Go.Sort.Below (ltOf' (bef m)) a b d →
    HC Try.prog 157 #[v, .int .i64 ((a : Nat) : Int), .int .i64 ((b : Nat) : Int), .int .i64 ((limit : Nat) : Int), .func (.func 130) #[.pointer (some ⟨c, 0, none⟩)] #[]] h0 fun u h' => u = .tuple #[] ∧ OwnIs h' B 3 1 encI v (pdq (ltOf' (bef m)) d a b limit true true).toList ∧ Grown h0 h' v v ∧ Blk h' c (.cells #[.map (some r)] 159 (0, 0)) ∧ MapIs h' r kI kI m := by
  intro N
  induction N with
  | zero => intro _ _ _ _ _ h; omega
  | succ N ih =>
    intro d h0 a b limit hN hC hM hO hd hab hb hlim hB0
    exact pdq_step c r m B n v d h0 hC hM hO hvc hvr hd hn a b limit hab hb hlim hB0 (fun d' h' p q lm hlt hC hM hO hd hpq hq hlm hB => ih d' h' p q lm (by omega) hC hM hO hd hpq hq (by omega) hB)
theorem bitLen_le (l : Nat) (h : l ≤ 2305843009213693952) : Lib.bitLen ((l : Int)).toNat ≤ 62 := by rw [len_eq l h]; exact (bitsLen_le_iff l 62).2 (by omega)
/-- The whole row sorted. -/
theorem pdq_sorted (c r : Nat) (m : List (Int × Int)) (B : Nat) (v : Value) (l : List Int) (h0 : Heap) (hC : Blk h0 c (.cells #[.map (some r)] 159 (0, 0))) (hM : MapIs h0 r kI kI m) (hO : OwnIs h0 B 3 1 encI v l) (hvc : blockOf v ≠ some c) (hvr : blockOf v ≠ some r) (hlen : l.length ≤ 2305843009213693952) (lim : Nat) (hlim : lim ≤ 62) :
    HC Try.prog 157 #[v, .int .i64 0, .int .i64 (l.length : Int), .int .i64 (lim : Int), .func (.func 130) #[.pointer (some ⟨c, 0, none⟩)] #[]] h0 fun u h' => u = .tuple #[] ∧ ∃ l', l'.Perm l ∧ Srt (bef m) l' ∧ OwnIs h' B 3 1 encI v l' ∧ Grown h0 h' v v ∧ Blk h' c (.cells #[.map (some r)] 159 (0, 0)) ∧ MapIs h' r kI kI m := by
  refine (pdq_all c r m B l.length v hvc hvr hlen (l.length + 1) l.toArray h0 0 l.length lim (by omega) hC hM (by simpa using hO) (by simp) (Nat.zero_le _) (Nat.le_refl _) (by omega) (.inl rfl)).mono ?_
  rintro u h' ⟨rfl, hO', hG', hC', hM'⟩
  have hs := pdq_sorts (ltOf' (bef m)) (swo_of (bef_ord m)) l.toArray 0 l.toArray.size lim true true (Nat.zero_le _) (Nat.le_refl _) (.inl rfl)
  have hz : l.toArray.size = l.length := by simp
  rw [hz] at hs
  refine ⟨rfl, (pdq (ltOf' (bef m)) l.toArray 0 l.length lim true true).toList, ?_, ?_, hO', hG', hC', hM'⟩
  · have := permIn_perm (d := l.toArray) (by rw [hz]; exact hs.1); simpa using this
  · refine sorted_srt ?_
    have : (pdq (ltOf' (bef m)) l.toArray 0 l.length lim true true).size = l.length := by rw [hs.1.1]; simp
    rw [this]; exact hs.2
end Go.HL.CI
