/- Go's pdqsort by a clock's order: the insertion sort, the partitions. -/
import Derived.Test.YtnemfpgfgblpbaaSortIns
set_option linter.unusedSimpArgs false
set_option linter.unusedVariables false
set_option linter.unusedSectionVars false
namespace Go.HL.CI
open Go.Proofs Go.Sort

section
variable {lt : Int → Int → Bool} {d : Array Int} {a b i j : Nat} {p : Int → Bool}
theorem ii_go (h : a < j) (h2 : lt d[j]! d[j - 1]! = true) : insInner lt a (j - 1) (swp d j (j - 1)) = insInner lt a j d := by
  obtain ⟨k, rfl⟩ : ∃ k, j = k + 1 := ⟨j - 1, by omega⟩
  simp only [Nat.add_sub_cancel] at h2 ⊢
  rw [insInner.eq_def lt a (k + 1) d]; dsimp only; rw [if_pos (by simp [h2]; omega)]
theorem ii_a (h : ¬ a < j) : insInner lt a j d = d := by
  cases j with
  | zero => rfl
  | succ k => rw [insInner.eq_def]; dsimp only; rw [if_neg (by simp; omega)]
theorem ii_stop (h2 : lt d[j]! d[j - 1]! = false) : insInner lt a j d = d := by
  cases j with
  | zero => rfl
  | succ k => simp only [Nat.add_sub_cancel] at h2; rw [insInner.eq_def]; dsimp only; rw [if_neg (by simp [h2])]
theorem io_go (h : i < b) : insOuter lt a b (i + 1) (insInner lt a i d) = insOuter lt a b i d := by rw [insOuter.eq_def lt a b i d, if_pos h]
theorem io_end (h : ¬ i < b) : insOuter lt a b i d = d := by rw [insOuter.eq_def, if_neg h]
theorem up_go (h : i ≤ j) (hp : p d[i]! = true) : scanUp p d j (i + 1) = scanUp p d j i := by rw [scanUp.eq_def p d j i, if_pos (by simp [h, hp])]
theorem up_out (h : ¬ i ≤ j) : scanUp p d j i = i := by rw [scanUp.eq_def, if_neg (by simp [h])]
theorem up_no (hp : p d[i]! = false) : scanUp p d j i = i := by rw [scanUp.eq_def, if_neg (by simp [hp])]
theorem dn_go (hj : 1 ≤ j) (h : i ≤ j) (hp : p d[j]! = true) : scanDown p d i (j - 1) = scanDown p d i j := by
  obtain ⟨k, rfl⟩ : ∃ k, j = k + 1 := ⟨j - 1, by omega⟩
  rw [Nat.add_sub_cancel, scanDown.eq_def p d i (k + 1)]; dsimp only; rw [if_pos (by simp [h, hp])]
theorem dn_out (h : ¬ i ≤ j) : scanDown p d i j = j := by
  cases j with
  | zero => rfl
  | succ k => rw [scanDown.eq_def]; dsimp only; rw [if_neg (by simp [h])]
theorem dn_no (hp : p d[j]! = false) : scanDown p d i j = j := by
  cases j with
  | zero => rfl
  | succ k => rw [scanDown.eq_def]; dsimp only; rw [if_neg (by simp [hp])]
end

set_option maxRecDepth 100000 in
theorem ins_spec (c r : Nat) (m : List (Int × Int)) (B n : Nat) (v : Value) (d : Array Int) (h0 : Heap) (hC : Blk h0 c (.cells #[.map (some r)] 159 (0, 0))) (hM : MapIs h0 r kI kI m) (hO : OwnIs h0 B 3 1 encI v d.toList) (hvc : blockOf v ≠ some c) (hvr : blockOf v ≠ some r) (hd : d.toList.length = n) (hn : n ≤ 2305843009213693952) (a b : Nat) (hab : a ≤ b) (hb : b ≤ n) :
    HC Try.prog 189 #[v, .int .i64 ((a : Nat) : Int), .int .i64 ((b : Nat) : Int), .func (.func 130) #[.pointer (some ⟨c, 0, none⟩)] #[]] h0 fun u h' => u = .tuple #[] ∧ OwnIs h' B 3 1 encI v (insertionSort (ltOf' (bef m)) d a b).toList ∧ Grown h0 h' v v ∧ Blk h' c (.cells #[.map (some r)] 159 (0, 0)) ∧ MapIs h' r kI kI m := by
  refine HC.of_HW (n := 53) Try.func189 rfl rfl (Nat.le_of_ble_eq_true rfl) ?_
  have hG := Grown.refl h0 v
  refine HW.seq ?_
  refine HW.region ?_
  refine HO.val (v := .int .i64 ((a : Nat) : Int)) (want_none) rfl (q_move rfl) ?_
  refine HO.val (v := .int .i64 ((a + 1 : Nat) : Int)) (want_none) rfl (q_addN ((a + 1 : Nat) : Int) rfl rfl (by omega) (by omega) (by omega)) ?_
  refine HO.val (v := .int .i64 ((a + 1 : Nat) : Int)) (want_none) rfl (q_assign rfl) ?_
  refine HO.nil (thenQ_normal (?_))
  refine HW.block ?_
  refine HW.loop (S := Array Int × Nat) (fun s f h => match s with | (D, i) => f 0 = v ∧ f 1 = .int .i64 ((a : Nat) : Int) ∧ f 2 = .int .i64 ((b : Nat) : Int) ∧ f 3 = .func (.func 130) #[.pointer (some ⟨c, 0, none⟩)] #[] ∧ f 8 = .int .i64 ((i : Nat) : Int) ∧ (Blk h c (.cells #[.map (some r)] 159 (0, 0))) ∧ (MapIs h r kI kI m) ∧ (Grown h0 h v v) ∧ (OwnIs h B 3 1 encI v D.toList) ∧ (insOuter (ltOf' (bef m)) a b i D = insertionSort (ltOf' (bef m)) d a b) ∧ (D.toList.length = n) ∧ (a + 1 ≤ i)) (fun s => match s with | (D, i) => b - i) (d, a + 1) ?_ ?_
  · refine ⟨rfl, rfl, rfl, rfl, rfl, ?_, ?_, ?_, ?_, ?_, ?_, ?_⟩
    · exact hC
    · exact hM
    · exact hG
    · exact hO
    · rfl
    · exact hd
    · omega
  · rintro ⟨D, i⟩ f1 hh1 ⟨e0, e1, e2, e3, e8, hC, hM, hG, hO, hT, hD, hi⟩
    refine HW.fr [(0, v), (1, .int .i64 ((a : Nat) : Int)), (2, .int .i64 ((b : Nat) : Int)), (3, .func (.func 130) #[.pointer (some ⟨c, 0, none⟩)] #[]), (8, .int .i64 ((i : Nat) : Int))] ⟨e0, e1, e2, e3, e8, trivial⟩ ?_
    refine HW.seq ?_
    refine HW.seq ?_
    refine HW.region ?_
    refine HO.val (v := .int .i64 ((i : Nat) : Int)) (want_none) rfl (q_move rfl) ?_
    refine HO.val (v := .int .i64 ((b : Nat) : Int)) (want_none) rfl (q_move rfl) ?_
    refine HO.val (v := .bool (decide (((i : Nat) : Int) < ((b : Nat) : Int)))) (want_none) rfl (q_lss rfl rfl) ?_
    refine HO.nil (thenQ_normal (?_))
    refine HW.cond (decide (((i : Nat) : Int) < ((b : Nat) : Int))) rfl (fun c1 => ?_) (fun c1 => ?_)
    · have c1p := of_decide_eq_true c1
      have hV : IsSl v _ := hO.slice.shape (List.length_pos_iff.1 (by omega))
      refine HW.skip (thenQ_normal (?_))
      refine HW.seq ?_
      refine HW.block ?_
      refine HW.seq ?_
      refine HW.region ?_
      refine HO.val (v := .int .i64 ((i : Nat) : Int)) (want_none) rfl (q_move rfl) ?_
      refine HO.val (v := .int .i64 ((i : Nat) : Int)) (want_none) rfl (q_assign rfl) ?_
      refine HO.nil (thenQ_normal (?_))
      refine HW.block ?_
      refine HW.loop (S := Array Int × Nat) (fun s f h => match s with | (E, j) => f 0 = v ∧ f 1 = .int .i64 ((a : Nat) : Int) ∧ f 2 = .int .i64 ((b : Nat) : Int) ∧ f 3 = .func (.func 130) #[.pointer (some ⟨c, 0, none⟩)] #[] ∧ f 8 = .int .i64 ((i : Nat) : Int) ∧ f 9 = .int .i64 ((j : Nat) : Int) ∧ (Blk h c (.cells #[.map (some r)] 159 (0, 0))) ∧ (MapIs h r kI kI m) ∧ (Grown h0 h v v) ∧ (OwnIs h B 3 1 encI v E.toList) ∧ (insInner (ltOf' (bef m)) a j E = insInner (ltOf' (bef m)) a i D) ∧ (E.toList.length = n) ∧ (j ≤ i)) (fun s => match s with | (E, j) => j) (D, i) ?_ ?_
      · refine ⟨rfl, rfl, rfl, rfl, rfl, rfl, ?_, ?_, ?_, ?_, ?_, ?_, ?_⟩
        · exact hC
        · exact hM
        · exact hG
        · exact hO
        · rfl
        · exact hD
        · omega
      · rintro ⟨E, j⟩ f2 hh2 ⟨e0, e1, e2, e3, e8, e9, hC, hM, hG, hO, hU, hEl, hj⟩
        refine HW.fr [(0, v), (1, .int .i64 ((a : Nat) : Int)), (2, .int .i64 ((b : Nat) : Int)), (3, .func (.func 130) #[.pointer (some ⟨c, 0, none⟩)] #[]), (8, .int .i64 ((i : Nat) : Int)), (9, .int .i64 ((j : Nat) : Int))] ⟨e0, e1, e2, e3, e8, e9, trivial⟩ ?_
        refine HW.seq ?_
        refine HW.seq ?_
        refine HW.regionD 17 mixed (fun h => (Blk h c (.cells #[.map (some r)] 159 (0, 0))) ∧ (MapIs h r kI kI m) ∧ (Grown h0 h v v) ∧ (OwnIs h B 3 1 encI v E.toList)) [] [(0, true), (1, true), (2, true), (3, true), (4, true), (5, true), (6, true), (7, true), (8, true), (9, true), (10, true), (11, true), (12, true), (13, true), (14, false), (15, true), (16, true)] (by kernel_rfl) ?_
        refine HM.val (v := .int .i64 ((j : Nat) : Int)) rfl rfl (want_none) rfl (fun _ ⟨hC, hM, hG, hO⟩ => q_move rfl) ?_
        refine HM.val (v := .int .i64 ((a : Nat) : Int)) rfl rfl (want_none) rfl (fun _ ⟨hC, hM, hG, hO⟩ => q_move rfl) ?_
        refine HM.val (v := .bool (decide (((a : Nat) : Int) < ((j : Nat) : Int)))) rfl rfl (want_none) rfl (fun _ ⟨hC, hM, hG, hO⟩ => q_gtr rfl rfl) ?_
        refine HM.val (v := .bool (decide (((a : Nat) : Int) < ((j : Nat) : Int)))) rfl rfl (want_none) rfl (fun _ ⟨hC, hM, hG, hO⟩ => q_move rfl) ?_
        rcases Bool.eq_false_or_eq_true (decide (((a : Nat) : Int) < ((j : Nat) : Int))) with g2 | g2
        · have g2p := of_decide_eq_true g2
          refine HM.val (v := .func (.func 130) #[.pointer (some ⟨c, 0, none⟩)] #[]) rfl rfl (want_by rfl rfl g2) rfl (fun _ ⟨hC, hM, hG, hO⟩ => q_move rfl) ?_
          refine HM.val (v := v) rfl rfl (want_by rfl rfl g2) rfl (fun _ ⟨hC, hM, hG, hO⟩ => q_move rfl) ?_
          refine HM.val (v := .int .i64 ((j : Nat) : Int)) rfl rfl (want_by rfl rfl g2) rfl (fun _ ⟨hC, hM, hG, hO⟩ => q_move rfl) ?_
          refine HM.val (v := elemPtr 1 v j) rfl rfl (want_by rfl rfl g2) rfl (fun _ ⟨hC, hM, hG, hO⟩ => q_indexAddrV (i := j) ts_22 hV rfl rfl (by omega)) ?_
          refine HM.val (v := .int .i64 (E[j]!)) rfl rfl (want_by rfl rfl g2) rfl (fun _ ⟨hC, hM, hG, hO⟩ => q_loadElemQ to_3 hO.slice rfl (getE (by omega)) rfl) ?_
          refine HM.val (v := v) rfl rfl (want_by rfl rfl g2) rfl (fun _ ⟨hC, hM, hG, hO⟩ => q_move rfl) ?_
          refine HM.val (v := .int .i64 ((j : Nat) : Int)) rfl rfl (want_by rfl rfl g2) rfl (fun _ ⟨hC, hM, hG, hO⟩ => q_move rfl) ?_
          refine HM.val (v := .int .i64 ((j - 1 : Nat) : Int)) rfl rfl (want_by rfl rfl g2) rfl (fun _ ⟨hC, hM, hG, hO⟩ => q_subN ((j - 1 : Nat) : Int) rfl rfl (by omega) (by omega) (by omega)) ?_
          refine HM.val (v := elemPtr 1 v (j - 1)) rfl rfl (want_by rfl rfl g2) rfl (fun _ ⟨hC, hM, hG, hO⟩ => q_indexAddrV (i := j - 1) ts_22 hV rfl rfl (by omega)) ?_
          refine HM.val (v := .int .i64 (E[j - 1]!)) rfl rfl (want_by rfl rfl g2) rfl (fun _ ⟨hC, hM, hG, hO⟩ => q_loadElemQ to_3 hO.slice rfl (getE (by omega)) rfl) ?_
          refine HM.call ⟨⟨hC, hM, hG, hO⟩, Go.HL.at_nil _ _⟩ rfl (want_by rfl rfl g2) rfl (ec en_130 rfl rfl) (before_spec' c r m _ hC hM (E[j]!) (E[j - 1]!)) ?_
          rintro _ h3 ⟨rfl, hx⟩
          replace hC := hC.ext hx
          replace hM := hM.ext hx
          replace hG := hG.ext hx
          replace hO := hO.ext hx
          have hxs := hx.size
          refine HM.val (v := .bool (decide ((bef m (E[j]!) (E[j - 1]!)) < 0))) rfl rfl (want_by rfl rfl g2) rfl (fun _ ⟨hC, hM, hG, hO⟩ => q_lss rfl rfl) ?_
          refine HM.val (v := .bool (decide ((bef m (E[j]!) (E[j - 1]!)) < 0))) rfl rfl (want_none) rfl (fun _ ⟨hC, hM, hG, hO⟩ => q_pickK true rfl g2 rfl) ?_
          refine HM.nil ⟨⟨hC, hM, hG, hO⟩, Go.HL.at_nil _ _⟩ (thenQ_normal (?_))
          refine HW.cond (decide ((bef m (E[j]!) (E[j - 1]!)) < 0)) rfl (fun c3 => ?_) (fun c3 => ?_)
          · have c3p := of_decide_eq_true c3
            refine HW.skip (thenQ_normal (?_))
            refine HW.seq ?_
            refine HW.block ?_
            refine HW.regionD 18 mixed (fun h => (Blk h c (.cells #[.map (some r)] 159 (0, 0))) ∧ (MapIs h r kI kI m) ∧ (Grown h0 h v v)) [(15, fun h => OwnIs h B 3 1 encI v E.toList)] [(0, true), (1, true), (2, true), (3, true), (4, true), (5, true), (6, true), (7, true), (8, true), (9, true), (10, true), (11, true), (12, true), (13, true), (14, true), (15, false), (16, true), (17, false)] (by kernel_rfl) ?_
            refine HM.val (v := v) rfl rfl (want_none) rfl (fun _ ⟨hC, hM, hG⟩ => q_move rfl) ?_
            refine HM.val (v := .int .i64 ((j : Nat) : Int)) rfl rfl (want_none) rfl (fun _ ⟨hC, hM, hG⟩ => q_move rfl) ?_
            refine HM.val (v := v) rfl rfl (want_none) rfl (fun _ ⟨hC, hM, hG⟩ => q_move rfl) ?_
            refine HM.val (v := .int .i64 ((j : Nat) : Int)) rfl rfl (want_none) rfl (fun _ ⟨hC, hM, hG⟩ => q_move rfl) ?_
            refine HM.val (v := .int .i64 ((j - 1 : Nat) : Int)) rfl rfl (want_none) rfl (fun _ ⟨hC, hM, hG⟩ => q_subN ((j - 1 : Nat) : Int) rfl rfl (by omega) (by omega) (by omega)) ?_
            refine HM.val (v := v) rfl rfl (want_none) rfl (fun _ ⟨hC, hM, hG⟩ => q_move rfl) ?_
            refine HM.val (v := .int .i64 ((j : Nat) : Int)) rfl rfl (want_none) rfl (fun _ ⟨hC, hM, hG⟩ => q_move rfl) ?_
            refine HM.val (v := .int .i64 ((j - 1 : Nat) : Int)) rfl rfl (want_none) rfl (fun _ ⟨hC, hM, hG⟩ => q_subN ((j - 1 : Nat) : Int) rfl rfl (by omega) (by omega) (by omega)) ?_
            refine HM.val (v := elemPtr 1 v (j - 1)) rfl rfl (want_none) rfl (fun _ ⟨hC, hM, hG⟩ => q_indexAddrV (i := j - 1) ts_22 hV rfl rfl (by omega)) ?_
            refine HM.valT (v := .int .i64 (E[j - 1]!)) 15 (fun h => OwnIs h B 3 1 encI v E.toList) rfl rfl (want_none) rfl (by simp) (by kernel_rfl) (fun _ _ hO => q_loadElemQ to_3 hO.slice rfl (getE (by omega)) rfl) ?_
            refine HM.val (v := v) rfl rfl (want_none) rfl (fun _ ⟨hC, hM, hG⟩ => q_move rfl) ?_
            refine HM.val (v := .int .i64 ((j : Nat) : Int)) rfl rfl (want_none) rfl (fun _ ⟨hC, hM, hG⟩ => q_move rfl) ?_
            refine HM.val (v := elemPtr 1 v j) rfl rfl (want_none) rfl (fun _ ⟨hC, hM, hG⟩ => q_indexAddrV (i := j) ts_22 hV rfl rfl (by omega)) ?_
            refine HM.valT (v := .int .i64 (E[j]!)) 15 (fun h => OwnIs h B 3 1 encI v E.toList) rfl rfl (want_none) rfl (by simp) (by kernel_rfl) (fun _ _ hO => q_loadElemQ to_3 hO.slice rfl (getE (by omega)) rfl) ?_
            refine HM.val (v := elemPtr 1 v j) rfl rfl (want_none) rfl (fun _ ⟨hC, hM, hG⟩ => q_indexAddrV (i := j) ts_22 hV rfl rfl (by omega)) ?_
            refine HM.sto ⟨⟨hC, hM, hG⟩, by intro c hc hl; obtain rfl := List.mem_singleton.1 hc; first | exact absurd hl (by dsimp only; decide) | exact hO⟩ rfl (want_none) rfl (s_storeElem (a := E[j - 1]!) to_3 hO rfl (by first | omega | (simp only [List.length_set]; omega) | (simp; omega)) rfl rfl rfl rfl) ?_
            rintro h4 ⟨hO', hg⟩
            replace hC := hC.grown hg hvc
            replace hM := hM.grown hg hvr
            replace hG := hG.trans hg
            replace hO := hO'
            have hgs := hg.size; clear hg
            refine HM.val (v := elemPtr 1 v (j - 1)) rfl rfl (want_none) rfl (fun _ ⟨hC, hM, hG⟩ => q_indexAddrV (i := j - 1) ts_22 hV rfl rfl (by omega)) ?_
            refine HM.sto ⟨⟨hC, hM, hG⟩, by intro c hc hl; obtain rfl := List.mem_singleton.1 hc; first | exact absurd hl (by dsimp only; decide) | exact hO⟩ rfl (want_none) rfl (s_storeElem (a := E[j]!) to_3 hO rfl (by first | omega | (simp only [List.length_set]; omega) | (simp; omega)) rfl rfl rfl rfl) ?_
            rintro h5 ⟨hO', hg⟩
            replace hC := hC.grown hg hvc
            replace hM := hM.grown hg hvr
            replace hG := hG.trans hg
            replace hO := hO'
            have hgs := hg.size; clear hg
            refine HM.nil ⟨⟨hC, hM, hG⟩, by intro c hc hl; obtain rfl := List.mem_singleton.1 hc; first | exact absurd hl (by dsimp only; decide) | exact hO⟩ (blockQ_normal (thenQ_normal (?_)))
            refine HW.region ?_
            refine HO.val (v := .int .i64 ((j : Nat) : Int)) (want_none) rfl (q_move rfl) ?_
            refine HO.val (v := .int .i64 ((j - 1 : Nat) : Int)) (want_none) rfl (q_subN ((j - 1 : Nat) : Int) rfl rfl (by omega) (by omega) (by omega)) ?_
            refine HO.val (v := .int .i64 ((j - 1 : Nat) : Int)) (want_none) rfl (q_assign rfl) ?_
            refine HO.nil (thenQ_normal (?_))
            refine ⟨(swp E j (j - 1), j - 1), ⟨rfl, rfl, rfl, rfl, rfl, rfl, ?_, ?_, ?_, ?_, ?_, ?_, ?_⟩, ?_⟩
            · exact hC
            · exact hM
            · exact hG
            · rw [swpL] at hO; exact hO
            · rw [ii_go (by omega) c3]; exact hU
            · exact swp_dl _ _ _ hEl
            · omega
            · dsimp only; omega
          · have c3p := of_decide_eq_false c3
            refine HW.exit (thenQ_exit (thenQ_exit (blockQ_exit (blockQ_normal (thenQ_normal (?_))))))
            refine HW.region ?_
            refine HO.val (v := .int .i64 ((i : Nat) : Int)) (want_none) rfl (q_move rfl) ?_
            refine HO.val (v := .int .i64 ((i + 1 : Nat) : Int)) (want_none) rfl (q_addN ((i + 1 : Nat) : Int) rfl rfl (by omega) (by omega) (by omega)) ?_
            refine HO.val (v := .int .i64 ((i + 1 : Nat) : Int)) (want_none) rfl (q_assign rfl) ?_
            refine HO.nil (thenQ_normal (?_))
            refine ⟨(E, i + 1), ⟨rfl, rfl, rfl, rfl, rfl, ?_, ?_, ?_, ?_, ?_, ?_, ?_⟩, ?_⟩
            · exact hC
            · exact hM
            · exact hG
            · exact hO
            · have q := io_go (lt := (ltOf' (bef m))) (d := D) (a := a) (b := b) (i := i) (by omega)
              rw [← hU, ii_stop c3] at q
              exact q.trans hT
            · exact hEl
            · omega
            · dsimp only; omega
        · have g2p := of_decide_eq_false g2
          refine HM.past rfl rfl (past_by rfl rfl g2) rfl ?_
          refine HM.past rfl rfl (past_by rfl rfl g2) rfl ?_
          refine HM.past rfl rfl (past_by rfl rfl g2) rfl ?_
          refine HM.past rfl rfl (past_by rfl rfl g2) rfl ?_
          refine HM.past rfl rfl (past_by rfl rfl g2) rfl ?_
          refine HM.past rfl rfl (past_by rfl rfl g2) rfl ?_
          refine HM.past rfl rfl (past_by rfl rfl g2) rfl ?_
          refine HM.past rfl rfl (past_by rfl rfl g2) rfl ?_
          refine HM.past rfl rfl (past_by rfl rfl g2) rfl ?_
          refine HM.past rfl rfl (past_by rfl rfl g2) rfl ?_
          refine HM.pastF ⟨⟨hC, hM, hG, hO⟩, Go.HL.at_nil _ _⟩ rfl (past_by rfl rfl g2) rfl ?_
          refine HM.past rfl rfl (past_by rfl rfl g2) rfl ?_
          refine HM.val (v := .bool false) rfl rfl (want_none) rfl (fun _ ⟨hC, hM, hG, hO⟩ => q_pickK false rfl g2 rfl) ?_
          refine HM.nil ⟨⟨hC, hM, hG, hO⟩, Go.HL.at_nil _ _⟩ (thenQ_normal (?_))
          refine HW.condF rfl ?_
          refine HW.exit (thenQ_exit (thenQ_exit (blockQ_exit (blockQ_normal (thenQ_normal (?_))))))
          refine HW.region ?_
          refine HO.val (v := .int .i64 ((i : Nat) : Int)) (want_none) rfl (q_move rfl) ?_
          refine HO.val (v := .int .i64 ((i + 1 : Nat) : Int)) (want_none) rfl (q_addN ((i + 1 : Nat) : Int) rfl rfl (by omega) (by omega) (by omega)) ?_
          refine HO.val (v := .int .i64 ((i + 1 : Nat) : Int)) (want_none) rfl (q_assign rfl) ?_
          refine HO.nil (thenQ_normal (?_))
          refine ⟨(E, i + 1), ⟨rfl, rfl, rfl, rfl, rfl, ?_, ?_, ?_, ?_, ?_, ?_, ?_⟩, ?_⟩
          · exact hC
          · exact hM
          · exact hG
          · exact hO
          · have q := io_go (lt := (ltOf' (bef m))) (d := D) (a := a) (b := b) (i := i) (by omega)
            rw [← hU, ii_a (by omega)] at q
            exact q.trans hT
          · exact hEl
          · omega
          · dsimp only; omega
    · have c1p := of_decide_eq_false c1
      refine HW.exit (thenQ_exit (thenQ_exit (blockQ_exit (?_))))
      refine ⟨.inl rfl, .tuple #[], res_none rfl, ?_⟩
      have hT2 := io_end (lt := (ltOf' (bef m))) (d := D) (a := a) (b := b) (i := i) (by omega)
      rw [hT] at hT2
      exact ⟨rfl, by rw [hT2]; exact hO, hG, hC, hM⟩

section
variable {lt : Int → Int → Bool} {d D e : Array Int} {a b pivot i j x y w : Nat}
theorem pe_stop (hy : scanUp (fun x => !lt D[a]! x) D j i = y) (hw : scanDown (fun x => lt D[a]! x) D y j = w) (h : w < y) : partEqLoop lt a i j D = (y, D) := by
  subst hw; subst hy; rw [partEqLoop.eq_def]; dsimp only; rw [if_pos h]
theorem pe_go (hy : scanUp (fun x => !lt D[a]! x) D j i = y) (hw : scanDown (fun x => lt D[a]! x) D y j = w) (h : ¬ w < y) (h2 : i ≤ y) (h3 : w ≤ j) (h4 : 1 ≤ y) : partEqLoop lt a (y + 1) (w - 1) (swp D y w) = partEqLoop lt a i j D := by
  subst hw; subst hy; rw [partEqLoop.eq_def lt a i j D]; dsimp only; rw [if_neg h, dif_pos (by omega)]
theorem pl_stop (hy : scanUp (fun x => lt x D[a]!) D j i = y) (hw : scanDown (fun x => !lt x D[a]!) D y j = w) (h : w < y) : partLoop lt a i j D = (w, D) := by
  subst hw; subst hy; rw [partLoop.eq_def]; dsimp only; rw [if_pos h]
theorem pl_go (hy : scanUp (fun x => lt x D[a]!) D j i = y) (hw : scanDown (fun x => !lt x D[a]!) D y j = w) (h : ¬ w < y) (h2 : i ≤ y) (h3 : w ≤ j) (h4 : 1 ≤ y) : partLoop lt a (y + 1) (w - 1) (swp D y w) = partLoop lt a i j D := by
  subst hw; subst hy; rw [partLoop.eq_def lt a i j D]; dsimp only; rw [if_neg h, dif_pos (by omega)]
theorem pt_a (hD : swp d a pivot = D) (hy : scanUp (fun x => lt x D[a]!) D (b - 1) (a + 1) = y) (hw : scanDown (fun x => !lt x D[a]!) D y (b - 1) = w) (h : w < y) : partition lt d a b pivot = (w, true, swp D w a) := by
  subst hw; subst hy; subst hD; unfold partition; dsimp only; rw [if_pos h]
theorem pt_b (hD : swp d a pivot = D) (hy : scanUp (fun x => lt x D[a]!) D (b - 1) (a + 1) = y) (hw : scanDown (fun x => !lt x D[a]!) D y (b - 1) = w) (h : ¬ w < y) (hr : partLoop lt a (y + 1) (w - 1) (swp D y w) = (x, e)) :
    partition lt d a b pivot = (x, false, swp e x a) := by
  subst hw; subst hy; subst hD; unfold partition; dsimp only; rw [if_neg h, hr]
end

set_option maxRecDepth 100000 in
theorem parteq_spec (c r : Nat) (m : List (Int × Int)) (B n : Nat) (v : Value) (d : Array Int) (h0 : Heap) (hC : Blk h0 c (.cells #[.map (some r)] 159 (0, 0))) (hM : MapIs h0 r kI kI m) (hO : OwnIs h0 B 3 1 encI v d.toList) (hvc : blockOf v ≠ some c) (hvr : blockOf v ≠ some r) (hd : d.toList.length = n) (hn : n ≤ 2305843009213693952) (a b pivot : Nat) (hab : a < b) (hb : b ≤ n) (hp1 : a ≤ pivot) (hp2 : pivot < b) :
    HC Try.prog 195 #[v, .int .i64 ((a : Nat) : Int), .int .i64 ((b : Nat) : Int), .int .i64 ((pivot : Nat) : Int), .func (.func 130) #[.pointer (some ⟨c, 0, none⟩)] #[]] h0 fun u h' => u = .int .i64 (((partitionEqual (ltOf' (bef m)) d a b pivot).1 : Nat) : Int) ∧ OwnIs h' B 3 1 encI v ((partitionEqual (ltOf' (bef m)) d a b pivot).2).toList ∧ Grown h0 h' v v ∧ Blk h' c (.cells #[.map (some r)] 159 (0, 0)) ∧ MapIs h' r kI kI m := by
  refine HC.of_HW (n := 90) Try.func195 rfl rfl (Nat.le_of_ble_eq_true rfl) ?_
  have hG := Grown.refl h0 v
  have hV : IsSl v _ := hO.slice.shape (List.length_pos_iff.1 (by omega))
  refine HW.seq ?_
  refine HW.region ?_
  refine HO.val (v := .int .i64 0) (want_none) rfl (q_assign rfl) ?_
  refine HO.nil (thenQ_normal (?_))
  refine HW.seq ?_
  refine HW.regionD 16 mixed (fun h => (Blk h c (.cells #[.map (some r)] 159 (0, 0))) ∧ (MapIs h r kI kI m) ∧ (Grown h0 h v v)) [(13, fun h => OwnIs h B 3 1 encI v d.toList)] [(0, true), (1, true), (2, true), (3, true), (4, true), (5, true), (6, true), (7, true), (8, true), (9, true), (10, true), (11, true), (12, true), (13, false), (14, true), (15, false)] (by kernel_rfl) ?_
  refine HM.val (v := v) rfl rfl (want_none) rfl (fun _ ⟨hC, hM, hG⟩ => q_move rfl) ?_
  refine HM.val (v := .int .i64 ((a : Nat) : Int)) rfl rfl (want_none) rfl (fun _ ⟨hC, hM, hG⟩ => q_move rfl) ?_
  refine HM.val (v := v) rfl rfl (want_none) rfl (fun _ ⟨hC, hM, hG⟩ => q_move rfl) ?_
  refine HM.val (v := .int .i64 ((pivot : Nat) : Int)) rfl rfl (want_none) rfl (fun _ ⟨hC, hM, hG⟩ => q_move rfl) ?_
  refine HM.val (v := v) rfl rfl (want_none) rfl (fun _ ⟨hC, hM, hG⟩ => q_move rfl) ?_
  refine HM.val (v := .int .i64 ((pivot : Nat) : Int)) rfl rfl (want_none) rfl (fun _ ⟨hC, hM, hG⟩ => q_move rfl) ?_
  refine HM.val (v := elemPtr 1 v pivot) rfl rfl (want_none) rfl (fun _ ⟨hC, hM, hG⟩ => q_indexAddrV (i := pivot) ts_22 hV rfl rfl (by omega)) ?_
  refine HM.valT (v := .int .i64 (d[pivot]!)) 13 (fun h => OwnIs h B 3 1 encI v d.toList) rfl rfl (want_none) rfl (by simp) (by kernel_rfl) (fun _ _ hO => q_loadElemQ to_3 hO.slice rfl (getE (by omega)) rfl) ?_
  refine HM.val (v := v) rfl rfl (want_none) rfl (fun _ ⟨hC, hM, hG⟩ => q_move rfl) ?_
  refine HM.val (v := .int .i64 ((a : Nat) : Int)) rfl rfl (want_none) rfl (fun _ ⟨hC, hM, hG⟩ => q_move rfl) ?_
  refine HM.val (v := elemPtr 1 v a) rfl rfl (want_none) rfl (fun _ ⟨hC, hM, hG⟩ => q_indexAddrV (i := a) ts_22 hV rfl rfl (by omega)) ?_
  refine HM.valT (v := .int .i64 (d[a]!)) 13 (fun h => OwnIs h B 3 1 encI v d.toList) rfl rfl (want_none) rfl (by simp) (by kernel_rfl) (fun _ _ hO => q_loadElemQ to_3 hO.slice rfl (getE (by omega)) rfl) ?_
  refine HM.val (v := elemPtr 1 v a) rfl rfl (want_none) rfl (fun _ ⟨hC, hM, hG⟩ => q_indexAddrV (i := a) ts_22 hV rfl rfl (by omega)) ?_
  refine HM.sto ⟨⟨hC, hM, hG⟩, by intro c hc hl; obtain rfl := List.mem_singleton.1 hc; first | exact absurd hl (by dsimp only; decide) | exact hO⟩ rfl (want_none) rfl (s_storeElem (a := d[pivot]!) to_3 hO rfl (by first | omega | (simp only [List.length_set]; omega) | (simp; omega)) rfl rfl rfl rfl) ?_
  rintro h1 ⟨hO', hg⟩
  replace hC := hC.grown hg hvc
  replace hM := hM.grown hg hvr
  replace hG := hG.trans hg
  replace hO := hO'
  have hgs := hg.size; clear hg
  refine HM.val (v := elemPtr 1 v pivot) rfl rfl (want_none) rfl (fun _ ⟨hC, hM, hG⟩ => q_indexAddrV (i := pivot) ts_22 hV rfl rfl (by omega)) ?_
  refine HM.sto ⟨⟨hC, hM, hG⟩, by intro c hc hl; obtain rfl := List.mem_singleton.1 hc; first | exact absurd hl (by dsimp only; decide) | exact hO⟩ rfl (want_none) rfl (s_storeElem (a := d[a]!) to_3 hO rfl (by first | omega | (simp only [List.length_set]; omega) | (simp; omega)) rfl rfl rfl rfl) ?_
  rintro h2 ⟨hO', hg⟩
  replace hC := hC.grown hg hvc
  replace hM := hM.grown hg hvr
  replace hG := hG.trans hg
  replace hO := hO'
  have hgs := hg.size; clear hg
  refine HM.nil ⟨⟨hC, hM, hG⟩, by intro c hc hl; obtain rfl := List.mem_singleton.1 hc; first | exact absurd hl (by dsimp only; decide) | exact hO⟩ (thenQ_normal (?_))
  refine HW.seq ?_
  refine HW.region ?_
  refine HO.val (v := .int .i64 ((a : Nat) : Int)) (want_none) rfl (q_move rfl) ?_
  refine HO.val (v := .int .i64 ((a + 1 : Nat) : Int)) (want_none) rfl (q_addN ((a + 1 : Nat) : Int) rfl rfl (by omega) (by omega) (by omega)) ?_
  refine HO.val (v := .int .i64 ((b : Nat) : Int)) (want_none) rfl (q_move rfl) ?_
  refine HO.val (v := .int .i64 ((b - 1 : Nat) : Int)) (want_none) rfl (q_subN ((b - 1 : Nat) : Int) rfl rfl (by omega) (by omega) (by omega)) ?_
  refine HO.val (v := .int .i64 ((a + 1 : Nat) : Int)) (want_none) rfl (q_assign rfl) ?_
  refine HO.val (v := .int .i64 ((b - 1 : Nat) : Int)) (want_none) rfl (q_assign rfl) ?_
  refine HO.nil (thenQ_normal (?_))
  refine HW.seq ?_
  refine HW.block ?_
  refine HW.loop (S := Array Int × Nat × Nat) (fun s f h => match s with | (D, i, j) => f 0 = v ∧ f 1 = .int .i64 ((a : Nat) : Int) ∧ f 4 = .func (.func 130) #[.pointer (some ⟨c, 0, none⟩)] #[] ∧ f 11 = .int .i64 ((i : Nat) : Int) ∧ f 12 = .int .i64 ((j : Nat) : Int) ∧ (Blk h c (.cells #[.map (some r)] 159 (0, 0))) ∧ (MapIs h r kI kI m) ∧ (Grown h0 h v v) ∧ (OwnIs h B 3 1 encI v D.toList) ∧ (partEqLoop (ltOf' (bef m)) a i j D = partitionEqual (ltOf' (bef m)) d a b pivot) ∧ (D.toList.length = n) ∧ (a + 1 ≤ i ∧ i ≤ j + 2 ∧ a ≤ j ∧ j + 1 ≤ b)) (fun s => match s with | (D, i, j) => j + 2 - i) (swp d a pivot, a + 1, b - 1) ?_ ?_
  · refine ⟨rfl, rfl, rfl, rfl, rfl, ?_, ?_, ?_, ?_, ?_, ?_, ?_⟩
    · exact hC
    · exact hM
    · exact hG
    · rw [swpL] at hO; exact hO
    · rfl
    · exact swp_dl _ _ _ hd
    · omega
  · rintro ⟨D, i, j⟩ f3 hh3 ⟨e0, e1, e4, e11, e12, hC, hM, hG, hO, hT, hD, hij⟩
    refine HW.fr [(0, v), (1, .int .i64 ((a : Nat) : Int)), (4, .func (.func 130) #[.pointer (some ⟨c, 0, none⟩)] #[]), (11, .int .i64 ((i : Nat) : Int)), (12, .int .i64 ((j : Nat) : Int))] ⟨e0, e1, e4, e11, e12, trivial⟩ ?_
    refine HW.block ?_
    refine HW.seq_mid (fun f h => ∃ (y : Nat), f 0 = v ∧ f 1 = .int .i64 ((a : Nat) : Int) ∧ f 4 = .func (.func 130) #[.pointer (some ⟨c, 0, none⟩)] #[] ∧ f 11 = .int .i64 ((y : Nat) : Int) ∧ f 12 = .int .i64 ((j : Nat) : Int) ∧ (Blk h c (.cells #[.map (some r)] 159 (0, 0))) ∧ (MapIs h r kI kI m) ∧ (Grown h0 h v v) ∧ (OwnIs h B 3 1 encI v D.toList) ∧ (scanUp (fun x => !(ltOf' (bef m)) D[a]! x) D j i = y) ∧ (i ≤ y ∧ y ≤ j + 2)) ?_ ?_
    · refine HW.block ?_
      refine HW.loop (S := Nat) (fun x f h => f 0 = v ∧ f 1 = .int .i64 ((a : Nat) : Int) ∧ f 4 = .func (.func 130) #[.pointer (some ⟨c, 0, none⟩)] #[] ∧ f 11 = .int .i64 ((x : Nat) : Int) ∧ f 12 = .int .i64 ((j : Nat) : Int) ∧ (Blk h c (.cells #[.map (some r)] 159 (0, 0))) ∧ (MapIs h r kI kI m) ∧ (Grown h0 h v v) ∧ (OwnIs h B 3 1 encI v D.toList) ∧ (scanUp (fun x => !(ltOf' (bef m)) D[a]! x) D j x = scanUp (fun x => !(ltOf' (bef m)) D[a]! x) D j i) ∧ (i ≤ x ∧ x ≤ j + 2)) (fun x => j + 2 - x) (i) ?_ ?_
      · refine ⟨rfl, rfl, rfl, rfl, rfl, ?_, ?_, ?_, ?_, ?_, ?_⟩
        · exact hC
        · exact hM
        · exact hG
        · exact hO
        · rfl
        · omega
      · rintro x f4 hh4 ⟨e0, e1, e4, e11, e12, hC, hM, hG, hO, hxx, hxb⟩
        refine HW.fr [(0, v), (1, .int .i64 ((a : Nat) : Int)), (4, .func (.func 130) #[.pointer (some ⟨c, 0, none⟩)] #[]), (11, .int .i64 ((x : Nat) : Int)), (12, .int .i64 ((j : Nat) : Int))] ⟨e0, e1, e4, e11, e12, trivial⟩ ?_
        refine HW.seq ?_
        refine HW.seq ?_
        refine HW.regionD 17 mixed (fun h => (Blk h c (.cells #[.map (some r)] 159 (0, 0))) ∧ (MapIs h r kI kI m) ∧ (Grown h0 h v v) ∧ (OwnIs h B 3 1 encI v D.toList)) [] [(0, true), (1, true), (2, true), (3, true), (4, true), (5, true), (6, true), (7, true), (8, true), (9, true), (10, true), (11, true), (12, true), (13, false), (14, true), (15, true), (16, true)] (by kernel_rfl) ?_
        refine HM.val (v := .int .i64 ((x : Nat) : Int)) rfl rfl (want_none) rfl (fun _ ⟨hC, hM, hG, hO⟩ => q_move rfl) ?_
        refine HM.val (v := .int .i64 ((j : Nat) : Int)) rfl rfl (want_none) rfl (fun _ ⟨hC, hM, hG, hO⟩ => q_move rfl) ?_
        refine HM.val (v := .bool (decide (((x : Nat) : Int) ≤ ((j : Nat) : Int)))) rfl rfl (want_none) rfl (fun _ ⟨hC, hM, hG, hO⟩ => q_leq rfl rfl) ?_
        refine HM.val (v := .bool (decide (((x : Nat) : Int) ≤ ((j : Nat) : Int)))) rfl rfl (want_none) rfl (fun _ ⟨hC, hM, hG, hO⟩ => q_move rfl) ?_
        rcases Bool.eq_false_or_eq_true (decide (((x : Nat) : Int) ≤ ((j : Nat) : Int))) with g1 | g1
        · have g1p := of_decide_eq_true g1
          refine HM.val (v := .func (.func 130) #[.pointer (some ⟨c, 0, none⟩)] #[]) rfl rfl (want_by rfl rfl g1) rfl (fun _ ⟨hC, hM, hG, hO⟩ => q_move rfl) ?_
          refine HM.val (v := v) rfl rfl (want_by rfl rfl g1) rfl (fun _ ⟨hC, hM, hG, hO⟩ => q_move rfl) ?_
          refine HM.val (v := .int .i64 ((a : Nat) : Int)) rfl rfl (want_by rfl rfl g1) rfl (fun _ ⟨hC, hM, hG, hO⟩ => q_move rfl) ?_
          refine HM.val (v := elemPtr 1 v a) rfl rfl (want_by rfl rfl g1) rfl (fun _ ⟨hC, hM, hG, hO⟩ => q_indexAddrV (i := a) ts_22 hV rfl rfl (by omega)) ?_
          refine HM.val (v := .int .i64 (D[a]!)) rfl rfl (want_by rfl rfl g1) rfl (fun _ ⟨hC, hM, hG, hO⟩ => q_loadElemQ to_3 hO.slice rfl (getE (by omega)) rfl) ?_
          refine HM.val (v := v) rfl rfl (want_by rfl rfl g1) rfl (fun _ ⟨hC, hM, hG, hO⟩ => q_move rfl) ?_
          refine HM.val (v := .int .i64 ((x : Nat) : Int)) rfl rfl (want_by rfl rfl g1) rfl (fun _ ⟨hC, hM, hG, hO⟩ => q_move rfl) ?_
          refine HM.val (v := elemPtr 1 v x) rfl rfl (want_by rfl rfl g1) rfl (fun _ ⟨hC, hM, hG, hO⟩ => q_indexAddrV (i := x) ts_22 hV rfl rfl (by omega)) ?_
          refine HM.val (v := .int .i64 (D[x]!)) rfl rfl (want_by rfl rfl g1) rfl (fun _ ⟨hC, hM, hG, hO⟩ => q_loadElemQ to_3 hO.slice rfl (getE (by omega)) rfl) ?_
          refine HM.call ⟨⟨hC, hM, hG, hO⟩, Go.HL.at_nil _ _⟩ rfl (want_by rfl rfl g1) rfl (ec en_130 rfl rfl) (before_spec' c r m _ hC hM (D[a]!) (D[x]!)) ?_
          rintro _ h5 ⟨rfl, hx⟩
          replace hC := hC.ext hx
          replace hM := hM.ext hx
          replace hG := hG.ext hx
          replace hO := hO.ext hx
          have hxs := hx.size
          refine HM.val (v := .bool (decide ((bef m (D[a]!) (D[x]!)) < 0))) rfl rfl (want_by rfl rfl g1) rfl (fun _ ⟨hC, hM, hG, hO⟩ => q_lss rfl rfl) ?_
          refine HM.val (v := .bool (!(decide ((bef m (D[a]!) (D[x]!)) < 0)))) rfl rfl (want_by rfl rfl g1) rfl (fun _ ⟨hC, hM, hG, hO⟩ => q_not rfl) ?_
          refine HM.val (v := .bool (!(decide ((bef m (D[a]!) (D[x]!)) < 0)))) rfl rfl (want_none) rfl (fun _ ⟨hC, hM, hG, hO⟩ => q_pickK true rfl g1 rfl) ?_
          refine HM.nil ⟨⟨hC, hM, hG, hO⟩, Go.HL.at_nil _ _⟩ (thenQ_normal (?_))
          refine HW.cond (!(decide ((bef m (D[a]!) (D[x]!)) < 0))) rfl (fun c2 => ?_) (fun c2 => ?_)
          · have c2p : ¬ ((bef m (D[a]!) (D[x]!)) < 0) := by simpa using c2
            refine HW.skip (thenQ_normal (?_))
            refine HW.block ?_
            refine HW.region ?_
            refine HO.val (v := .int .i64 ((x : Nat) : Int)) (want_none) rfl (q_move rfl) ?_
            refine HO.val (v := .int .i64 ((x + 1 : Nat) : Int)) (want_none) rfl (q_addN ((x + 1 : Nat) : Int) rfl rfl (by omega) (by omega) (by omega)) ?_
            refine HO.val (v := .int .i64 ((x + 1 : Nat) : Int)) (want_none) rfl (q_assign rfl) ?_
            refine HO.nil (blockQ_normal (thenQ_normal (?_)))
            refine ⟨(x + 1), ⟨rfl, rfl, rfl, rfl, rfl, ?_, ?_, ?_, ?_, ?_, ?_⟩, ?_⟩
            · exact hC
            · exact hM
            · exact hG
            · exact hO
            · rw [up_go (p := (fun x => !(ltOf' (bef m)) D[a]! x)) (by omega) (congrArg not (show (ltOf' (bef m)) (D[a]!) (D[x]!) = false from by simpa [ltOf'] using c2))]; exact hxx
            · omega
            · omega
          · have c2p : ((bef m (D[a]!) (D[x]!)) < 0) := by simpa using c2
            refine HW.exit (thenQ_exit (thenQ_exit (blockQ_exit (thenQ_normal (?_)))))
            refine ⟨x, rfl, rfl, rfl, rfl, rfl, ?_, ?_, ?_, ?_, ?_, ?_⟩
            · exact hC
            · exact hM
            · exact hG
            · exact hO
            · rw [← hxx]; exact up_no (p := (fun x => !(ltOf' (bef m)) D[a]! x)) (congrArg not (show (ltOf' (bef m)) (D[a]!) (D[x]!) = true from by simpa [ltOf'] using c2))
            · omega
        · have g1p := of_decide_eq_false g1
          refine HM.past rfl rfl (past_by rfl rfl g1) rfl ?_
          refine HM.past rfl rfl (past_by rfl rfl g1) rfl ?_
          refine HM.past rfl rfl (past_by rfl rfl g1) rfl ?_
          refine HM.past rfl rfl (past_by rfl rfl g1) rfl ?_
          refine HM.past rfl rfl (past_by rfl rfl g1) rfl ?_
          refine HM.past rfl rfl (past_by rfl rfl g1) rfl ?_
          refine HM.past rfl rfl (past_by rfl rfl g1) rfl ?_
          refine HM.past rfl rfl (past_by rfl rfl g1) rfl ?_
          refine HM.past rfl rfl (past_by rfl rfl g1) rfl ?_
          refine HM.pastF ⟨⟨hC, hM, hG, hO⟩, Go.HL.at_nil _ _⟩ rfl (past_by rfl rfl g1) rfl ?_
          refine HM.past rfl rfl (past_by rfl rfl g1) rfl ?_
          refine HM.past rfl rfl (past_by rfl rfl g1) rfl ?_
          refine HM.val (v := .bool false) rfl rfl (want_none) rfl (fun _ ⟨hC, hM, hG, hO⟩ => q_pickK false rfl g1 rfl) ?_
          refine HM.nil ⟨⟨hC, hM, hG, hO⟩, Go.HL.at_nil _ _⟩ (thenQ_normal (?_))
          refine HW.condF rfl ?_
          refine HW.exit (thenQ_exit (thenQ_exit (blockQ_exit (thenQ_normal (?_)))))
          refine ⟨x, rfl, rfl, rfl, rfl, rfl, ?_, ?_, ?_, ?_, ?_, ?_⟩
          · exact hC
          · exact hM
          · exact hG
          · exact hO
          · rw [← hxx]; exact up_out (p := (fun x => !(ltOf' (bef m)) D[a]! x)) (by omega)
          · omega
    · rintro f6 hh6 ⟨y, e0, e1, e4, e11, e12, hC, hM, hG, hO, hy, hyb⟩
      refine HW.fr [(0, v), (1, .int .i64 ((a : Nat) : Int)), (4, .func (.func 130) #[.pointer (some ⟨c, 0, none⟩)] #[]), (11, .int .i64 ((y : Nat) : Int)), (12, .int .i64 ((j : Nat) : Int))] ⟨e0, e1, e4, e11, e12, trivial⟩ ?_
      refine HW.seq_mid (fun f h => ∃ (w : Nat), f 0 = v ∧ f 1 = .int .i64 ((a : Nat) : Int) ∧ f 4 = .func (.func 130) #[.pointer (some ⟨c, 0, none⟩)] #[] ∧ f 11 = .int .i64 ((y : Nat) : Int) ∧ f 12 = .int .i64 ((w : Nat) : Int) ∧ (Blk h c (.cells #[.map (some r)] 159 (0, 0))) ∧ (MapIs h r kI kI m) ∧ (Grown h0 h v v) ∧ (OwnIs h B 3 1 encI v D.toList) ∧ (scanDown (fun x => (ltOf' (bef m)) D[a]! x) D y j = w) ∧ (a ≤ w ∧ w ≤ j)) ?_ ?_
      · refine HW.block ?_
        refine HW.loop (S := Nat) (fun z f h => f 0 = v ∧ f 1 = .int .i64 ((a : Nat) : Int) ∧ f 4 = .func (.func 130) #[.pointer (some ⟨c, 0, none⟩)] #[] ∧ f 11 = .int .i64 ((y : Nat) : Int) ∧ f 12 = .int .i64 ((z : Nat) : Int) ∧ (Blk h c (.cells #[.map (some r)] 159 (0, 0))) ∧ (MapIs h r kI kI m) ∧ (Grown h0 h v v) ∧ (OwnIs h B 3 1 encI v D.toList) ∧ (scanDown (fun x => (ltOf' (bef m)) D[a]! x) D y z = scanDown (fun x => (ltOf' (bef m)) D[a]! x) D y j) ∧ (a ≤ z ∧ z ≤ j)) (fun z => z) (j) ?_ ?_
        · refine ⟨rfl, rfl, rfl, rfl, rfl, ?_, ?_, ?_, ?_, ?_, ?_⟩
          · exact hC
          · exact hM
          · exact hG
          · exact hO
          · rfl
          · omega
        · rintro z f7 hh7 ⟨e0, e1, e4, e11, e12, hC, hM, hG, hO, hxx, hxb⟩
          refine HW.fr [(0, v), (1, .int .i64 ((a : Nat) : Int)), (4, .func (.func 130) #[.pointer (some ⟨c, 0, none⟩)] #[]), (11, .int .i64 ((y : Nat) : Int)), (12, .int .i64 ((z : Nat) : Int))] ⟨e0, e1, e4, e11, e12, trivial⟩ ?_
          refine HW.seq ?_
          refine HW.seq ?_
          refine HW.regionD 16 mixed (fun h => (Blk h c (.cells #[.map (some r)] 159 (0, 0))) ∧ (MapIs h r kI kI m) ∧ (Grown h0 h v v) ∧ (OwnIs h B 3 1 encI v D.toList)) [] [(0, true), (1, true), (2, true), (3, true), (4, true), (5, true), (6, true), (7, true), (8, true), (9, true), (10, true), (11, true), (12, true), (13, false), (14, true), (15, true)] (by kernel_rfl) ?_
          refine HM.val (v := .int .i64 ((y : Nat) : Int)) rfl rfl (want_none) rfl (fun _ ⟨hC, hM, hG, hO⟩ => q_move rfl) ?_
          refine HM.val (v := .int .i64 ((z : Nat) : Int)) rfl rfl (want_none) rfl (fun _ ⟨hC, hM, hG, hO⟩ => q_move rfl) ?_
          refine HM.val (v := .bool (decide (((y : Nat) : Int) ≤ ((z : Nat) : Int)))) rfl rfl (want_none) rfl (fun _ ⟨hC, hM, hG, hO⟩ => q_leq rfl rfl) ?_
          refine HM.val (v := .bool (decide (((y : Nat) : Int) ≤ ((z : Nat) : Int)))) rfl rfl (want_none) rfl (fun _ ⟨hC, hM, hG, hO⟩ => q_move rfl) ?_
          rcases Bool.eq_false_or_eq_true (decide (((y : Nat) : Int) ≤ ((z : Nat) : Int))) with g3 | g3
          · have g3p := of_decide_eq_true g3
            refine HM.val (v := .func (.func 130) #[.pointer (some ⟨c, 0, none⟩)] #[]) rfl rfl (want_by rfl rfl g3) rfl (fun _ ⟨hC, hM, hG, hO⟩ => q_move rfl) ?_
            refine HM.val (v := v) rfl rfl (want_by rfl rfl g3) rfl (fun _ ⟨hC, hM, hG, hO⟩ => q_move rfl) ?_
            refine HM.val (v := .int .i64 ((a : Nat) : Int)) rfl rfl (want_by rfl rfl g3) rfl (fun _ ⟨hC, hM, hG, hO⟩ => q_move rfl) ?_
            refine HM.val (v := elemPtr 1 v a) rfl rfl (want_by rfl rfl g3) rfl (fun _ ⟨hC, hM, hG, hO⟩ => q_indexAddrV (i := a) ts_22 hV rfl rfl (by omega)) ?_
            refine HM.val (v := .int .i64 (D[a]!)) rfl rfl (want_by rfl rfl g3) rfl (fun _ ⟨hC, hM, hG, hO⟩ => q_loadElemQ to_3 hO.slice rfl (getE (by omega)) rfl) ?_
            refine HM.val (v := v) rfl rfl (want_by rfl rfl g3) rfl (fun _ ⟨hC, hM, hG, hO⟩ => q_move rfl) ?_
            refine HM.val (v := .int .i64 ((z : Nat) : Int)) rfl rfl (want_by rfl rfl g3) rfl (fun _ ⟨hC, hM, hG, hO⟩ => q_move rfl) ?_
            refine HM.val (v := elemPtr 1 v z) rfl rfl (want_by rfl rfl g3) rfl (fun _ ⟨hC, hM, hG, hO⟩ => q_indexAddrV (i := z) ts_22 hV rfl rfl (by omega)) ?_
            refine HM.val (v := .int .i64 (D[z]!)) rfl rfl (want_by rfl rfl g3) rfl (fun _ ⟨hC, hM, hG, hO⟩ => q_loadElemQ to_3 hO.slice rfl (getE (by omega)) rfl) ?_
            refine HM.call ⟨⟨hC, hM, hG, hO⟩, Go.HL.at_nil _ _⟩ rfl (want_by rfl rfl g3) rfl (ec en_130 rfl rfl) (before_spec' c r m _ hC hM (D[a]!) (D[z]!)) ?_
            rintro _ h8 ⟨rfl, hx⟩
            replace hC := hC.ext hx
            replace hM := hM.ext hx
            replace hG := hG.ext hx
            replace hO := hO.ext hx
            have hxs := hx.size
            refine HM.val (v := .bool (decide ((bef m (D[a]!) (D[z]!)) < 0))) rfl rfl (want_by rfl rfl g3) rfl (fun _ ⟨hC, hM, hG, hO⟩ => q_lss rfl rfl) ?_
            refine HM.val (v := .bool (decide ((bef m (D[a]!) (D[z]!)) < 0))) rfl rfl (want_none) rfl (fun _ ⟨hC, hM, hG, hO⟩ => q_pickK true rfl g3 rfl) ?_
            refine HM.nil ⟨⟨hC, hM, hG, hO⟩, Go.HL.at_nil _ _⟩ (thenQ_normal (?_))
            refine HW.cond (decide ((bef m (D[a]!) (D[z]!)) < 0)) rfl (fun c4 => ?_) (fun c4 => ?_)
            · have c4p := of_decide_eq_true c4
              refine HW.skip (thenQ_normal (?_))
              refine HW.block ?_
              refine HW.region ?_
              refine HO.val (v := .int .i64 ((z : Nat) : Int)) (want_none) rfl (q_move rfl) ?_
              refine HO.val (v := .int .i64 ((z - 1 : Nat) : Int)) (want_none) rfl (q_subN ((z - 1 : Nat) : Int) rfl rfl (by omega) (by omega) (by omega)) ?_
              refine HO.val (v := .int .i64 ((z - 1 : Nat) : Int)) (want_none) rfl (q_assign rfl) ?_
              refine HO.nil (blockQ_normal (thenQ_normal (?_)))
              refine ⟨(z - 1), ⟨rfl, rfl, rfl, rfl, rfl, ?_, ?_, ?_, ?_, ?_, ?_⟩, ?_⟩
              · exact hC
              · exact hM
              · exact hG
              · exact hO
              · rw [dn_go (p := (fun x => (ltOf' (bef m)) D[a]! x)) (by omega) (by omega) c4]; exact hxx
              · omega
              · omega
            · have c4p := of_decide_eq_false c4
              refine HW.exit (thenQ_exit (thenQ_exit (blockQ_exit (thenQ_normal (?_)))))
              refine ⟨z, rfl, rfl, rfl, rfl, rfl, ?_, ?_, ?_, ?_, ?_, ?_⟩
              · exact hC
              · exact hM
              · exact hG
              · exact hO
              · rw [← hxx]; exact dn_no (p := (fun x => (ltOf' (bef m)) D[a]! x)) c4
              · omega
          · have g3p := of_decide_eq_false g3
            refine HM.past rfl rfl (past_by rfl rfl g3) rfl ?_
            refine HM.past rfl rfl (past_by rfl rfl g3) rfl ?_
            refine HM.past rfl rfl (past_by rfl rfl g3) rfl ?_
            refine HM.past rfl rfl (past_by rfl rfl g3) rfl ?_
            refine HM.past rfl rfl (past_by rfl rfl g3) rfl ?_
            refine HM.past rfl rfl (past_by rfl rfl g3) rfl ?_
            refine HM.past rfl rfl (past_by rfl rfl g3) rfl ?_
            refine HM.past rfl rfl (past_by rfl rfl g3) rfl ?_
            refine HM.past rfl rfl (past_by rfl rfl g3) rfl ?_
            refine HM.pastF ⟨⟨hC, hM, hG, hO⟩, Go.HL.at_nil _ _⟩ rfl (past_by rfl rfl g3) rfl ?_
            refine HM.past rfl rfl (past_by rfl rfl g3) rfl ?_
            refine HM.val (v := .bool false) rfl rfl (want_none) rfl (fun _ ⟨hC, hM, hG, hO⟩ => q_pickK false rfl g3 rfl) ?_
            refine HM.nil ⟨⟨hC, hM, hG, hO⟩, Go.HL.at_nil _ _⟩ (thenQ_normal (?_))
            refine HW.condF rfl ?_
            refine HW.exit (thenQ_exit (thenQ_exit (blockQ_exit (thenQ_normal (?_)))))
            refine ⟨z, rfl, rfl, rfl, rfl, rfl, ?_, ?_, ?_, ?_, ?_, ?_⟩
            · exact hC
            · exact hM
            · exact hG
            · exact hO
            · rw [← hxx]; exact dn_out (p := (fun x => (ltOf' (bef m)) D[a]! x)) (by omega)
            · omega
      · rintro f9 hh9 ⟨w, e0, e1, e4, e11, e12, hC, hM, hG, hO, hw, hwb⟩
        refine HW.fr [(0, v), (1, .int .i64 ((a : Nat) : Int)), (4, .func (.func 130) #[.pointer (some ⟨c, 0, none⟩)] #[]), (11, .int .i64 ((y : Nat) : Int)), (12, .int .i64 ((w : Nat) : Int))] ⟨e0, e1, e4, e11, e12, trivial⟩ ?_
        refine HW.seq ?_
        refine HW.seq ?_
        refine HW.region ?_
        refine HO.val (v := .int .i64 ((y : Nat) : Int)) (want_none) rfl (q_move rfl) ?_
        refine HO.val (v := .int .i64 ((w : Nat) : Int)) (want_none) rfl (q_move rfl) ?_
        refine HO.val (v := .bool (decide (((w : Nat) : Int) < ((y : Nat) : Int)))) (want_none) rfl (q_gtr rfl rfl) ?_
        refine HO.nil (thenQ_normal (?_))
        refine HW.cond (decide (((w : Nat) : Int) < ((y : Nat) : Int))) rfl (fun c5 => ?_) (fun c5 => ?_)
        · have c5p := of_decide_eq_true c5
          refine HW.exit (thenQ_exit (blockQ_pass rfl (thenQ_exit (blockQ_exit (thenQ_normal (?_))))))
          refine HW.seq ?_
          refine HW.region ?_
          refine HO.val (v := .int .i64 ((y : Nat) : Int)) (want_none) rfl (q_move rfl) ?_
          refine HO.val (v := .int .i64 ((y : Nat) : Int)) (want_none) rfl (q_assign rfl) ?_
          refine HO.nil (thenQ_normal (?_))
          refine HW.ret (?_)
          refine ⟨.inr rfl, .int .i64 ((y : Nat) : Int), res_one rfl rfl, ?_⟩
          have hT2 := pe_stop hy hw (by omega)
          rw [hT] at hT2
          rw [hT2]; exact ⟨rfl, hO, hG, hC, hM⟩
        · have c5p := of_decide_eq_false c5
          refine HW.skip (thenQ_normal (?_))
          refine HW.seq ?_
          refine HW.regionD 16 mixed (fun h => (Blk h c (.cells #[.map (some r)] 159 (0, 0))) ∧ (MapIs h r kI kI m) ∧ (Grown h0 h v v)) [(13, fun h => OwnIs h B 3 1 encI v D.toList)] [(0, true), (1, true), (2, true), (3, true), (4, true), (5, true), (6, true), (7, true), (8, true), (9, true), (10, true), (11, true), (12, true), (13, false), (14, true), (15, false)] (by kernel_rfl) ?_
          refine HM.val (v := v) rfl rfl (want_none) rfl (fun _ ⟨hC, hM, hG⟩ => q_move rfl) ?_
          refine HM.val (v := .int .i64 ((y : Nat) : Int)) rfl rfl (want_none) rfl (fun _ ⟨hC, hM, hG⟩ => q_move rfl) ?_
          refine HM.val (v := v) rfl rfl (want_none) rfl (fun _ ⟨hC, hM, hG⟩ => q_move rfl) ?_
          refine HM.val (v := .int .i64 ((w : Nat) : Int)) rfl rfl (want_none) rfl (fun _ ⟨hC, hM, hG⟩ => q_move rfl) ?_
          refine HM.val (v := v) rfl rfl (want_none) rfl (fun _ ⟨hC, hM, hG⟩ => q_move rfl) ?_
          refine HM.val (v := .int .i64 ((w : Nat) : Int)) rfl rfl (want_none) rfl (fun _ ⟨hC, hM, hG⟩ => q_move rfl) ?_
          refine HM.val (v := elemPtr 1 v w) rfl rfl (want_none) rfl (fun _ ⟨hC, hM, hG⟩ => q_indexAddrV (i := w) ts_22 hV rfl rfl (by omega)) ?_
          refine HM.valT (v := .int .i64 (D[w]!)) 13 (fun h => OwnIs h B 3 1 encI v D.toList) rfl rfl (want_none) rfl (by simp) (by kernel_rfl) (fun _ _ hO => q_loadElemQ to_3 hO.slice rfl (getE (by omega)) rfl) ?_
          refine HM.val (v := v) rfl rfl (want_none) rfl (fun _ ⟨hC, hM, hG⟩ => q_move rfl) ?_
          refine HM.val (v := .int .i64 ((y : Nat) : Int)) rfl rfl (want_none) rfl (fun _ ⟨hC, hM, hG⟩ => q_move rfl) ?_
          refine HM.val (v := elemPtr 1 v y) rfl rfl (want_none) rfl (fun _ ⟨hC, hM, hG⟩ => q_indexAddrV (i := y) ts_22 hV rfl rfl (by omega)) ?_
          refine HM.valT (v := .int .i64 (D[y]!)) 13 (fun h => OwnIs h B 3 1 encI v D.toList) rfl rfl (want_none) rfl (by simp) (by kernel_rfl) (fun _ _ hO => q_loadElemQ to_3 hO.slice rfl (getE (by omega)) rfl) ?_
          refine HM.val (v := elemPtr 1 v y) rfl rfl (want_none) rfl (fun _ ⟨hC, hM, hG⟩ => q_indexAddrV (i := y) ts_22 hV rfl rfl (by omega)) ?_
          refine HM.sto ⟨⟨hC, hM, hG⟩, by intro c hc hl; obtain rfl := List.mem_singleton.1 hc; first | exact absurd hl (by dsimp only; decide) | exact hO⟩ rfl (want_none) rfl (s_storeElem (a := D[w]!) to_3 hO rfl (by first | omega | (simp only [List.length_set]; omega) | (simp; omega)) rfl rfl rfl rfl) ?_
          rintro h10 ⟨hO', hg⟩
          replace hC := hC.grown hg hvc
          replace hM := hM.grown hg hvr
          replace hG := hG.trans hg
          replace hO := hO'
          have hgs := hg.size; clear hg
          refine HM.val (v := elemPtr 1 v w) rfl rfl (want_none) rfl (fun _ ⟨hC, hM, hG⟩ => q_indexAddrV (i := w) ts_22 hV rfl rfl (by omega)) ?_
          refine HM.sto ⟨⟨hC, hM, hG⟩, by intro c hc hl; obtain rfl := List.mem_singleton.1 hc; first | exact absurd hl (by dsimp only; decide) | exact hO⟩ rfl (want_none) rfl (s_storeElem (a := D[y]!) to_3 hO rfl (by first | omega | (simp only [List.length_set]; omega) | (simp; omega)) rfl rfl rfl rfl) ?_
          rintro h11 ⟨hO', hg⟩
          replace hC := hC.grown hg hvc
          replace hM := hM.grown hg hvr
          replace hG := hG.trans hg
          replace hO := hO'
          have hgs := hg.size; clear hg
          refine HM.nil ⟨⟨hC, hM, hG⟩, by intro c hc hl; obtain rfl := List.mem_singleton.1 hc; first | exact absurd hl (by dsimp only; decide) | exact hO⟩ (thenQ_normal (?_))
          refine HW.seq ?_
          refine HW.region ?_
          refine HO.val (v := .int .i64 ((y : Nat) : Int)) (want_none) rfl (q_move rfl) ?_
          refine HO.val (v := .int .i64 ((y + 1 : Nat) : Int)) (want_none) rfl (q_addN ((y + 1 : Nat) : Int) rfl rfl (by omega) (by omega) (by omega)) ?_
          refine HO.val (v := .int .i64 ((y + 1 : Nat) : Int)) (want_none) rfl (q_assign rfl) ?_
          refine HO.nil (thenQ_normal (?_))
          refine HW.region ?_
          refine HO.val (v := .int .i64 ((w : Nat) : Int)) (want_none) rfl (q_move rfl) ?_
          refine HO.val (v := .int .i64 ((w - 1 : Nat) : Int)) (want_none) rfl (q_subN ((w - 1 : Nat) : Int) rfl rfl (by omega) (by omega) (by omega)) ?_
          refine HO.val (v := .int .i64 ((w - 1 : Nat) : Int)) (want_none) rfl (q_assign rfl) ?_
          refine HO.nil (blockQ_normal (thenQ_normal (?_)))
          refine ⟨(swp D y w, y + 1, w - 1), ⟨rfl, rfl, rfl, rfl, rfl, ?_, ?_, ?_, ?_, ?_, ?_, ?_⟩, ?_⟩
          · exact hC
          · exact hM
          · exact hG
          · rw [swpL] at hO; exact hO
          · rw [pe_go hy hw (by omega) (by omega) (by omega) (by omega)]; exact hT
          · exact swp_dl _ _ _ hD
          · omega
          · dsimp only; omega
end Go.HL.CI
