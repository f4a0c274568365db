/- Go's pdqsort by a clock's order: the insertions. -/
import Derived.Test.YtnemfpgfgblpbaaSortFull
set_option linter.unusedSimpArgs false
set_option linter.unusedVariables false
set_option linter.unusedSectionVars false
namespace Go.HL.CI
open Go.Proofs Go.Sort
theorem en_213 (args : Array Value) (w : World) : (callFunc 213 args).run Try.prog w = .ok (.enter 213 args) w := by kernel_rfl
theorem en_209 (args : Array Value) (w : World) : (callFunc 209 args).run Try.prog w = .ok (.enter 209 args) w := by kernel_rfl
theorem en_208 (args : Array Value) (w : World) : (callFunc 208 args).run Try.prog w = .ok (.enter 208 args) w := by kernel_rfl
theorem to_206 : TOne Try.prog 206 := ⟨Try.isAgg206, Try.sizeOf206⟩
theorem en_136 (args : Array Value) (w : World) : (callFunc 136 args).run Try.prog w = .ok (.enter 136 args) w := by kernel_rfl
theorem tz_206 : TZero Try.prog 206 (.int .u64 0) := Try.zeroValue206
theorem en_185 (args : Array Value) (w : World) : (callFunc 185 args).run Try.prog w = .ok (.enter 185 args) w := by kernel_rfl
theorem en_186 (args : Array Value) (w : World) : (callFunc 186 args).run Try.prog w = .ok (.enter 186 args) w := by kernel_rfl
section
variable {lt : Int → Int → Bool} {d : Array Int} {a b i j : Nat}
theorem scan_go (h : i < b) (h2 : lt d[i]! d[i - 1]! = false) : scanSorted lt d b (i + 1) = scanSorted lt d b i := by rw [scanSorted.eq_def lt d b i, if_pos (by simp [h, h2])]
theorem scan_end (h : ¬ i < b) : scanSorted lt d b i = i := by rw [scanSorted.eq_def, if_neg (by simp [h])]
theorem scan_stop (h2 : lt d[i]! d[i - 1]! = true) : scanSorted lt d b i = i := by rw [scanSorted.eq_def, if_neg (by simp [h2])]
theorem sd_go (hj : 1 ≤ j) (h : lt d[j]! d[j - 1]! = true) : Go.Sort.shiftDown lt (j - 1) (swp d j (j - 1)) = Go.Sort.shiftDown lt j d := by
  obtain ⟨k, rfl⟩ : ∃ k, j = k + 1 := ⟨j - 1, by omega⟩
  simp only [Nat.add_sub_cancel] at h ⊢
  rw [Go.Sort.shiftDown.eq_def lt (k + 1) d]; simp [h]
theorem sd_zero : Go.Sort.shiftDown lt 0 d = d := rfl
theorem sd_stop (hj : 1 ≤ j) (h : lt d[j]! d[j - 1]! = false) : Go.Sort.shiftDown lt j d = d := by
  obtain ⟨k, rfl⟩ : ∃ k, j = k + 1 := ⟨j - 1, by omega⟩
  simp only [Nat.add_sub_cancel] at h
  rw [Go.Sort.shiftDown.eq_def]; simp [h]
theorem su_go (hj : j < b) (h : lt d[j]! d[j - 1]! = true) : shiftUp lt b (j + 1) (swp d j (j - 1)) = shiftUp lt b j d := by rw [shiftUp.eq_def lt b j d, if_pos hj, if_neg (by simp [h])]
theorem su_end (hj : ¬ j < b) : shiftUp lt b j d = d := by rw [shiftUp.eq_def, if_neg hj]
theorem su_stop (hj : j < b) (h : lt d[j]! d[j - 1]! = false) : shiftUp lt b j d = d := by rw [shiftUp.eq_def, if_pos hj, if_pos (by simp [h])]
end
theorem scan_range {lt : Int → Int → Bool} {d : Array Int} {b : Nat} : ∀ k i, b - i ≤ k → i ≤ b → i ≤ scanSorted lt d b i ∧ scanSorted lt d b i ≤ b
  | 0, i, hk, h => by rw [scan_end (b := b) (by omega)]; omega
  | k + 1, i, hk, h => by
    rw [scanSorted.eq_def]; split
    · rename_i h1; simp at h1; have := scan_range (lt := lt) (d := d) (b := b) k (i + 1) (by omega) (by omega); omega
    · omega
theorem swp_dl (d : Array Int) (i j : Nat) {n : Nat} (h : d.toList.length = n) : (swp d i j).toList.length = n := (swp_len d i j).trans h

section
variable {lt : Int → Int → Bool} {d e1 e2 : Array Int} {a b i y s : Nat}
theorem pi_zero : partialIns lt a b 0 i d = (d, false) := rfl
theorem pi_done (hy : scanSorted lt d b i = y) (h : y = b) : partialIns lt a b (s + 1) i d = (d, true) := by subst hy; unfold partialIns; simp only [if_pos h]
theorem pi_small (hy : scanSorted lt d b i = y) (h : ¬ y = b) (h2 : b - a < 50) : partialIns lt a b (s + 1) i d = (d, false) := by subst hy; unfold partialIns; simp only [if_neg h, if_pos h2]
theorem pi_go (hy : scanSorted lt d b i = y) (h : ¬ y = b) (h2 : ¬ b - a < 50) (h3 : (if y - a ≥ 2 then Go.Sort.shiftDown lt (y - 1) (swp d y (y - 1)) else swp d y (y - 1)) = e1) (h4 : (if b - y ≥ 2 then shiftUp lt b (y + 1) e1 else e1) = e2) :
    partialIns lt a b s y e2 = partialIns lt a b (s + 1) i d := by subst hy; subst h4; subst h3; rw [partialIns.eq_def lt a b (s + 1)]; simp only [if_neg h, if_neg h2]
end

set_option maxRecDepth 100000 in
theorem partial_spec (c r : Nat) (m : List (Int × Int)) (B n : Nat) (v : Value) (d : Array Int) (h0 : Heap) (hC : Blk h0 c (.cells #[.map (some r)] 159 (0, 0))) (hM : MapIs h0 r kI kI m) (hO : OwnIs h0 B 3 1 encI v d.toList) (hvc : blockOf v ≠ some c) (hvr : blockOf v ≠ some r) (hd : d.toList.length = n) (hn : n ≤ 2305843009213693952) (a b : Nat) (hab : a < b) (hb : b ≤ n) :
    HC Try.prog 194 #[v, .int .i64 ((a : Nat) : Int), .int .i64 ((b : Nat) : Int), .func (.func 130) #[.pointer (some ⟨c, 0, none⟩)] #[]] h0 fun u h' => u = .bool (partialInsertionSort (ltOf' (bef m)) d a b).2 ∧ OwnIs h' B 3 1 encI v ((partialInsertionSort (ltOf' (bef m)) d a b).1).toList ∧ Grown h0 h' v v ∧ Blk h' c (.cells #[.map (some r)] 159 (0, 0)) ∧ MapIs h' r kI kI m := by
  refine HC.of_HW (n := 141) Try.func194 rfl rfl (Nat.le_of_ble_eq_true rfl) ?_
  have hG := Grown.refl h0 v
  have hV : IsSl v _ := hO.slice.shape (List.length_pos_iff.1 (by omega))
  refine HW.seq ?_
  refine HW.region ?_
  refine HO.val (v := .bool false) (want_none) rfl (q_assign rfl) ?_
  refine HO.nil (thenQ_normal (?_))
  refine HW.seq ?_
  refine HW.region ?_
  refine HO.val (v := .int .i64 ((a : Nat) : Int)) (want_none) rfl (q_move rfl) ?_
  refine HO.val (v := .int .i64 ((a + 1 : Nat) : Int)) (want_none) rfl (q_addN ((a + 1 : Nat) : Int) rfl rfl (by omega) (by omega) (by omega)) ?_
  refine HO.val (v := .int .i64 ((a + 1 : Nat) : Int)) (want_none) rfl (q_assign rfl) ?_
  refine HO.nil (thenQ_normal (?_))
  refine HW.seq ?_
  refine HW.seq ?_
  refine HW.region ?_
  refine HO.val (v := .int .i64 0) (want_none) rfl (q_assign rfl) ?_
  refine HO.nil (thenQ_normal (?_))
  refine HW.block ?_
  refine HW.loop (S := Array Int × Nat × Nat) (fun s f h => match s with | (D, i, j) => f 0 = v ∧ f 1 = .int .i64 ((a : Nat) : Int) ∧ f 2 = .int .i64 ((b : Nat) : Int) ∧ f 3 = .func (.func 130) #[.pointer (some ⟨c, 0, none⟩)] #[] ∧ f 9 = .int .i64 ((i : Nat) : Int) ∧ f 10 = .int .i64 ((j : Nat) : Int) ∧ (Blk h c (.cells #[.map (some r)] 159 (0, 0))) ∧ (MapIs h r kI kI m) ∧ (Grown h0 h v v) ∧ (OwnIs h B 3 1 encI v D.toList) ∧ (partialIns (ltOf' (bef m)) a b (5 - j) i D = partialInsertionSort (ltOf' (bef m)) d a b) ∧ (D.toList.length = n) ∧ (a + 1 ≤ i ∧ i ≤ b) ∧ (j ≤ 5)) (fun s => match s with | (D, i, j) => 5 - j) (d, a + 1, 0) ?_ ?_
  · refine ⟨rfl, rfl, rfl, rfl, rfl, rfl, ?_, ?_, ?_, ?_, ?_, ?_, ?_, ?_⟩
    · exact hC
    · exact hM
    · exact hG
    · exact hO
    · rfl
    · exact hd
    · omega
    · omega
  · rintro ⟨D, i, j⟩ f1 hh1 ⟨e0, e1, e2, e3, e9, e10, hC, hM, hG, hO, hT, hD, hi, hj⟩
    refine HW.fr [(0, v), (1, .int .i64 ((a : Nat) : Int)), (2, .int .i64 ((b : Nat) : Int)), (3, .func (.func 130) #[.pointer (some ⟨c, 0, none⟩)] #[]), (9, .int .i64 ((i : Nat) : Int)), (10, .int .i64 ((j : Nat) : Int))] ⟨e0, e1, e2, e3, e9, e10, trivial⟩ ?_
    refine HW.seq ?_
    refine HW.seq ?_
    refine HW.region ?_
    refine HO.val (v := .int .i64 ((j : Nat) : Int)) (want_none) rfl (q_move rfl) ?_
    refine HO.val (v := .bool (decide (((j : Nat) : Int) < 5))) (want_none) rfl (q_lss rfl rfl) ?_
    refine HO.nil (thenQ_normal (?_))
    refine HW.cond (decide (((j : Nat) : Int) < 5)) rfl (fun c1 => ?_) (fun c1 => ?_)
    · have c1p := of_decide_eq_true c1
      refine HW.skip (thenQ_normal (?_))
      refine HW.seq_mid (fun f h => ∃ (D3 : Array Int) (y3 : Nat), f 0 = v ∧ f 1 = .int .i64 ((a : Nat) : Int) ∧ f 2 = .int .i64 ((b : Nat) : Int) ∧ f 3 = .func (.func 130) #[.pointer (some ⟨c, 0, none⟩)] #[] ∧ f 9 = .int .i64 ((y3 : Nat) : Int) ∧ f 10 = .int .i64 ((j : Nat) : Int) ∧ (Blk h c (.cells #[.map (some r)] 159 (0, 0))) ∧ (MapIs h r kI kI m) ∧ (Grown h0 h v v) ∧ (OwnIs h B 3 1 encI v D3.toList) ∧ (partialIns (ltOf' (bef m)) a b (5 - (j + 1)) y3 D3 = partialInsertionSort (ltOf' (bef m)) d a b) ∧ (D3.toList.length = n) ∧ (a + 1 ≤ y3 ∧ y3 ≤ b)) ?_ ?_
      · refine HW.block ?_
        refine HW.seq_mid (fun f h => ∃ (y : Nat), f 0 = v ∧ f 1 = .int .i64 ((a : Nat) : Int) ∧ f 2 = .int .i64 ((b : Nat) : Int) ∧ f 3 = .func (.func 130) #[.pointer (some ⟨c, 0, none⟩)] #[] ∧ f 9 = .int .i64 ((y : Nat) : Int) ∧ f 10 = .int .i64 ((j : Nat) : Int) ∧ (Blk h c (.cells #[.map (some r)] 159 (0, 0))) ∧ (MapIs h r kI kI m) ∧ (Grown h0 h v v) ∧ (OwnIs h B 3 1 encI v D.toList) ∧ (scanSorted (ltOf' (bef m)) D b i = y) ∧ (a + 1 ≤ y ∧ y ≤ b)) ?_ ?_
        · refine HW.block ?_
          refine HW.loop (S := Nat) (fun x f h => f 0 = v ∧ f 1 = .int .i64 ((a : Nat) : Int) ∧ f 2 = .int .i64 ((b : Nat) : Int) ∧ f 3 = .func (.func 130) #[.pointer (some ⟨c, 0, none⟩)] #[] ∧ f 9 = .int .i64 ((x : Nat) : Int) ∧ f 10 = .int .i64 ((j : Nat) : Int) ∧ (Blk h c (.cells #[.map (some r)] 159 (0, 0))) ∧ (MapIs h r kI kI m) ∧ (Grown h0 h v v) ∧ (OwnIs h B 3 1 encI v D.toList) ∧ (scanSorted (ltOf' (bef m)) D b x = scanSorted (ltOf' (bef m)) D b i) ∧ (i ≤ x ∧ x ≤ b)) (fun x => b - x) (i) ?_ ?_
          · refine ⟨rfl, rfl, rfl, rfl, rfl, rfl, ?_, ?_, ?_, ?_, ?_, ?_⟩
            · exact hC
            · exact hM
            · exact hG
            · exact hO
            · rfl
            · omega
          · rintro x f2 hh2 ⟨e0, e1, e2, e3, e9, e10, hC, hM, hG, hO, hxx, hxb⟩
            refine HW.fr [(0, v), (1, .int .i64 ((a : Nat) : Int)), (2, .int .i64 ((b : Nat) : Int)), (3, .func (.func 130) #[.pointer (some ⟨c, 0, none⟩)] #[]), (9, .int .i64 ((x : Nat) : Int)), (10, .int .i64 ((j : Nat) : Int))] ⟨e0, e1, e2, e3, e9, e10, trivial⟩ ?_
            refine HW.seq ?_
            refine HW.seq ?_
            refine HW.regionD 18 mixed (fun h => (Blk h c (.cells #[.map (some r)] 159 (0, 0))) ∧ (MapIs h r kI kI m) ∧ (Grown h0 h v v) ∧ (OwnIs h B 3 1 encI v D.toList)) [] [(0, true), (1, true), (2, true), (3, true), (4, true), (5, true), (6, true), (7, true), (8, true), (9, true), (10, true), (11, true), (12, true), (13, true), (14, false), (15, true), (16, true), (17, true)] (by kernel_rfl) ?_
            refine HM.val (v := .int .i64 ((x : Nat) : Int)) rfl rfl (want_none) rfl (fun _ ⟨hC, hM, hG, hO⟩ => q_move rfl) ?_
            refine HM.val (v := .int .i64 ((b : Nat) : Int)) rfl rfl (want_none) rfl (fun _ ⟨hC, hM, hG, hO⟩ => q_move rfl) ?_
            refine HM.val (v := .bool (decide (((x : Nat) : Int) < ((b : Nat) : Int)))) rfl rfl (want_none) rfl (fun _ ⟨hC, hM, hG, hO⟩ => q_lss rfl rfl) ?_
            refine HM.val (v := .bool (decide (((x : Nat) : Int) < ((b : Nat) : Int)))) rfl rfl (want_none) rfl (fun _ ⟨hC, hM, hG, hO⟩ => q_move rfl) ?_
            rcases Bool.eq_false_or_eq_true (decide (((x : Nat) : Int) < ((b : Nat) : Int))) with g2 | g2
            · have g2p := of_decide_eq_true g2
              refine HM.val (v := .func (.func 130) #[.pointer (some ⟨c, 0, none⟩)] #[]) rfl rfl (want_by rfl rfl g2) rfl (fun _ ⟨hC, hM, hG, hO⟩ => q_move rfl) ?_
              refine HM.val (v := v) rfl rfl (want_by rfl rfl g2) rfl (fun _ ⟨hC, hM, hG, hO⟩ => q_move rfl) ?_
              refine HM.val (v := .int .i64 ((x : Nat) : Int)) rfl rfl (want_by rfl rfl g2) rfl (fun _ ⟨hC, hM, hG, hO⟩ => q_move rfl) ?_
              refine HM.val (v := elemPtr 1 v x) rfl rfl (want_by rfl rfl g2) rfl (fun _ ⟨hC, hM, hG, hO⟩ => q_indexAddrV (i := x) ts_22 hV rfl rfl (by omega)) ?_
              refine HM.val (v := .int .i64 (D[x]!)) rfl rfl (want_by rfl rfl g2) rfl (fun _ ⟨hC, hM, hG, hO⟩ => q_loadElemQ to_3 hO.slice rfl (getE (by omega)) rfl) ?_
              refine HM.val (v := v) rfl rfl (want_by rfl rfl g2) rfl (fun _ ⟨hC, hM, hG, hO⟩ => q_move rfl) ?_
              refine HM.val (v := .int .i64 ((x : Nat) : Int)) rfl rfl (want_by rfl rfl g2) rfl (fun _ ⟨hC, hM, hG, hO⟩ => q_move rfl) ?_
              refine HM.val (v := .int .i64 ((x - 1 : Nat) : Int)) rfl rfl (want_by rfl rfl g2) rfl (fun _ ⟨hC, hM, hG, hO⟩ => q_subN ((x - 1 : Nat) : Int) rfl rfl (by omega) (by omega) (by omega)) ?_
              refine HM.val (v := elemPtr 1 v (x - 1)) rfl rfl (want_by rfl rfl g2) rfl (fun _ ⟨hC, hM, hG, hO⟩ => q_indexAddrV (i := x - 1) ts_22 hV rfl rfl (by omega)) ?_
              refine HM.val (v := .int .i64 (D[x - 1]!)) rfl rfl (want_by rfl rfl g2) rfl (fun _ ⟨hC, hM, hG, hO⟩ => q_loadElemQ to_3 hO.slice rfl (getE (by omega)) rfl) ?_
              refine HM.call ⟨⟨hC, hM, hG, hO⟩, Go.HL.at_nil _ _⟩ rfl (want_by rfl rfl g2) rfl (ec en_130 rfl rfl) (before_spec' c r m _ hC hM (D[x]!) (D[x - 1]!)) ?_
              rintro _ h3 ⟨rfl, hx⟩
              replace hC := hC.ext hx
              replace hM := hM.ext hx
              replace hG := hG.ext hx
              replace hO := hO.ext hx
              have hxs := hx.size
              refine HM.val (v := .bool (decide ((bef m (D[x]!) (D[x - 1]!)) < 0))) rfl rfl (want_by rfl rfl g2) rfl (fun _ ⟨hC, hM, hG, hO⟩ => q_lss rfl rfl) ?_
              refine HM.val (v := .bool (!(decide ((bef m (D[x]!) (D[x - 1]!)) < 0)))) rfl rfl (want_by rfl rfl g2) rfl (fun _ ⟨hC, hM, hG, hO⟩ => q_not rfl) ?_
              refine HM.val (v := .bool (!(decide ((bef m (D[x]!) (D[x - 1]!)) < 0)))) rfl rfl (want_none) rfl (fun _ ⟨hC, hM, hG, hO⟩ => q_pickK true rfl g2 rfl) ?_
              refine HM.nil ⟨⟨hC, hM, hG, hO⟩, Go.HL.at_nil _ _⟩ (thenQ_normal (?_))
              refine HW.cond (!(decide ((bef m (D[x]!) (D[x - 1]!)) < 0))) rfl (fun c3 => ?_) (fun c3 => ?_)
              · have c3p : ¬ ((bef m (D[x]!) (D[x - 1]!)) < 0) := by simpa using c3
                refine HW.skip (thenQ_normal (?_))
                refine HW.block ?_
                refine HW.region ?_
                refine HO.val (v := .int .i64 ((x : Nat) : Int)) (want_none) rfl (q_move rfl) ?_
                refine HO.val (v := .int .i64 ((x + 1 : Nat) : Int)) (want_none) rfl (q_addN ((x + 1 : Nat) : Int) rfl rfl (by omega) (by omega) (by omega)) ?_
                refine HO.val (v := .int .i64 ((x + 1 : Nat) : Int)) (want_none) rfl (q_assign rfl) ?_
                refine HO.nil (blockQ_normal (thenQ_normal (?_)))
                refine ⟨(x + 1), ⟨rfl, rfl, rfl, rfl, rfl, rfl, ?_, ?_, ?_, ?_, ?_, ?_⟩, ?_⟩
                · exact hC
                · exact hM
                · exact hG
                · exact hO
                · rw [scan_go (by omega) (show (ltOf' (bef m)) (D[x]!) (D[x - 1]!) = false from by simpa [ltOf'] using c3)]; exact hxx
                · omega
                · omega
              · have c3p : ((bef m (D[x]!) (D[x - 1]!)) < 0) := by simpa using c3
                refine HW.exit (thenQ_exit (thenQ_exit (blockQ_exit (thenQ_normal (?_)))))
                refine ⟨x, rfl, rfl, rfl, rfl, rfl, rfl, ?_, ?_, ?_, ?_, ?_, ?_⟩
                · exact hC
                · exact hM
                · exact hG
                · exact hO
                · rw [← hxx]; exact scan_stop (show (ltOf' (bef m)) (D[x]!) (D[x - 1]!) = true from by simpa [ltOf'] using c3)
                · omega
            · have g2p := of_decide_eq_false g2
              refine HM.past rfl rfl (past_by rfl rfl g2) rfl ?_
              refine HM.past rfl rfl (past_by rfl rfl g2) rfl ?_
              refine HM.past rfl rfl (past_by rfl rfl g2) rfl ?_
              refine HM.past rfl rfl (past_by rfl rfl g2) rfl ?_
              refine HM.past rfl rfl (past_by rfl rfl g2) rfl ?_
              refine HM.past rfl rfl (past_by rfl rfl g2) rfl ?_
              refine HM.past rfl rfl (past_by rfl rfl g2) rfl ?_
              refine HM.past rfl rfl (past_by rfl rfl g2) rfl ?_
              refine HM.past rfl rfl (past_by rfl rfl g2) rfl ?_
              refine HM.past rfl rfl (past_by rfl rfl g2) rfl ?_
              refine HM.pastF ⟨⟨hC, hM, hG, hO⟩, Go.HL.at_nil _ _⟩ rfl (past_by rfl rfl g2) rfl ?_
              refine HM.past rfl rfl (past_by rfl rfl g2) rfl ?_
              refine HM.past rfl rfl (past_by rfl rfl g2) rfl ?_
              refine HM.val (v := .bool false) rfl rfl (want_none) rfl (fun _ ⟨hC, hM, hG, hO⟩ => q_pickK false rfl g2 rfl) ?_
              refine HM.nil ⟨⟨hC, hM, hG, hO⟩, Go.HL.at_nil _ _⟩ (thenQ_normal (?_))
              refine HW.condF rfl ?_
              refine HW.exit (thenQ_exit (thenQ_exit (blockQ_exit (thenQ_normal (?_)))))
              refine ⟨x, rfl, rfl, rfl, rfl, rfl, rfl, ?_, ?_, ?_, ?_, ?_, ?_⟩
              · exact hC
              · exact hM
              · exact hG
              · exact hO
              · rw [← hxx]; exact scan_end (by omega)
              · omega
        · rintro f4 hh4 ⟨y, e0, e1, e2, e3, e9, e10, hC, hM, hG, hO, hy, hyb⟩
          refine HW.fr [(0, v), (1, .int .i64 ((a : Nat) : Int)), (2, .int .i64 ((b : Nat) : Int)), (3, .func (.func 130) #[.pointer (some ⟨c, 0, none⟩)] #[]), (9, .int .i64 ((y : Nat) : Int)), (10, .int .i64 ((j : Nat) : Int))] ⟨e0, e1, e2, e3, e9, e10, trivial⟩ ?_
          refine HW.seq ?_
          refine HW.seq ?_
          refine HW.region ?_
          refine HO.val (v := .int .i64 ((y : Nat) : Int)) (want_none) rfl (q_move rfl) ?_
          refine HO.val (v := .int .i64 ((b : Nat) : Int)) (want_none) rfl (q_move rfl) ?_
          refine HO.val (v := .bool (decide (((y : Nat) : Int) = ((b : Nat) : Int)))) (want_none) rfl (q_eql rfl rfl) ?_
          refine HO.nil (thenQ_normal (?_))
          refine HW.cond (decide (((y : Nat) : Int) = ((b : Nat) : Int))) rfl (fun c4 => ?_) (fun c4 => ?_)
          · have c4p := of_decide_eq_true c4
            refine HW.seq ?_
            refine HW.region ?_
            refine HO.val (v := .bool true) (want_none) rfl (q_assign rfl) ?_
            refine HO.nil (thenQ_normal (?_))
            refine HW.ret (thenQ_ret (blockQ_ret (thenQ_ret (thenQ_ret (blockQ_ret (thenQ_ret (?_)))))))
            refine ⟨.inr rfl, .bool true, res_one rfl rfl, ?_⟩
            have hT2 := hT
            rw [show 5 - j = 5 - (j + 1) + 1 from by omega, pi_done hy (by omega)] at hT2
            rw [← hT2]
            exact ⟨rfl, hO, hG, hC, hM⟩
          · have c4p := of_decide_eq_false c4
            refine HW.skip (thenQ_normal (?_))
            refine HW.seq ?_
            refine HW.seq ?_
            refine HW.region ?_
            refine HO.val (v := .int .i64 ((b : Nat) : Int)) (want_none) rfl (q_move rfl) ?_
            refine HO.val (v := .int .i64 ((a : Nat) : Int)) (want_none) rfl (q_move rfl) ?_
            refine HO.val (v := .int .i64 ((b - a : Nat) : Int)) (want_none) rfl (q_subN ((b - a : Nat) : Int) rfl rfl (by omega) (by omega) (by omega)) ?_
            refine HO.val (v := .bool (decide (((b - a : Nat) : Int) < 50))) (want_none) rfl (q_lss rfl rfl) ?_
            refine HO.nil (thenQ_normal (?_))
            refine HW.cond (decide (((b - a : Nat) : Int) < 50)) rfl (fun c5 => ?_) (fun c5 => ?_)
            · have c5p := of_decide_eq_true c5
              refine HW.seq ?_
              refine HW.region ?_
              refine HO.val (v := .bool false) (want_none) rfl (q_assign rfl) ?_
              refine HO.nil (thenQ_normal (?_))
              refine HW.ret (thenQ_ret (blockQ_ret (thenQ_ret (thenQ_ret (blockQ_ret (thenQ_ret (?_)))))))
              refine ⟨.inr rfl, .bool false, res_one rfl rfl, ?_⟩
              have hT2 := hT
              rw [show 5 - j = 5 - (j + 1) + 1 from by omega, pi_small hy (by omega) (by omega)] at hT2
              rw [← hT2]
              exact ⟨rfl, hO, hG, hC, hM⟩
            · have c5p := of_decide_eq_false c5
              refine HW.skip (thenQ_normal (?_))
              refine HW.seq ?_
              refine HW.regionD 18 mixed (fun h => (Blk h c (.cells #[.map (some r)] 159 (0, 0))) ∧ (MapIs h r kI kI m) ∧ (Grown h0 h v v)) [(15, fun h => OwnIs h B 3 1 encI v D.toList)] [(0, true), (1, true), (2, true), (3, true), (4, true), (5, true), (6, true), (7, true), (8, true), (9, true), (10, true), (11, true), (12, true), (13, true), (14, true), (15, false), (16, true), (17, false)] (by kernel_rfl) ?_
              refine HM.val (v := v) rfl rfl (want_none) rfl (fun _ ⟨hC, hM, hG⟩ => q_move rfl) ?_
              refine HM.val (v := .int .i64 ((y : Nat) : Int)) rfl rfl (want_none) rfl (fun _ ⟨hC, hM, hG⟩ => q_move rfl) ?_
              refine HM.val (v := v) rfl rfl (want_none) rfl (fun _ ⟨hC, hM, hG⟩ => q_move rfl) ?_
              refine HM.val (v := .int .i64 ((y : Nat) : Int)) rfl rfl (want_none) rfl (fun _ ⟨hC, hM, hG⟩ => q_move rfl) ?_
              refine HM.val (v := .int .i64 ((y - 1 : Nat) : Int)) rfl rfl (want_none) rfl (fun _ ⟨hC, hM, hG⟩ => q_subN ((y - 1 : Nat) : Int) rfl rfl (by omega) (by omega) (by omega)) ?_
              refine HM.val (v := v) rfl rfl (want_none) rfl (fun _ ⟨hC, hM, hG⟩ => q_move rfl) ?_
              refine HM.val (v := .int .i64 ((y : Nat) : Int)) rfl rfl (want_none) rfl (fun _ ⟨hC, hM, hG⟩ => q_move rfl) ?_
              refine HM.val (v := .int .i64 ((y - 1 : Nat) : Int)) rfl rfl (want_none) rfl (fun _ ⟨hC, hM, hG⟩ => q_subN ((y - 1 : Nat) : Int) rfl rfl (by omega) (by omega) (by omega)) ?_
              refine HM.val (v := elemPtr 1 v (y - 1)) rfl rfl (want_none) rfl (fun _ ⟨hC, hM, hG⟩ => q_indexAddrV (i := y - 1) ts_22 hV rfl rfl (by omega)) ?_
              refine HM.valT (v := .int .i64 (D[y - 1]!)) 15 (fun h => OwnIs h B 3 1 encI v D.toList) rfl rfl (want_none) rfl (by simp) (by kernel_rfl) (fun _ _ hO => q_loadElemQ to_3 hO.slice rfl (getE (by omega)) rfl) ?_
              refine HM.val (v := v) rfl rfl (want_none) rfl (fun _ ⟨hC, hM, hG⟩ => q_move rfl) ?_
              refine HM.val (v := .int .i64 ((y : Nat) : Int)) rfl rfl (want_none) rfl (fun _ ⟨hC, hM, hG⟩ => q_move rfl) ?_
              refine HM.val (v := elemPtr 1 v y) rfl rfl (want_none) rfl (fun _ ⟨hC, hM, hG⟩ => q_indexAddrV (i := y) ts_22 hV rfl rfl (by omega)) ?_
              refine HM.valT (v := .int .i64 (D[y]!)) 15 (fun h => OwnIs h B 3 1 encI v D.toList) rfl rfl (want_none) rfl (by simp) (by kernel_rfl) (fun _ _ hO => q_loadElemQ to_3 hO.slice rfl (getE (by omega)) rfl) ?_
              refine HM.val (v := elemPtr 1 v y) rfl rfl (want_none) rfl (fun _ ⟨hC, hM, hG⟩ => q_indexAddrV (i := y) ts_22 hV rfl rfl (by omega)) ?_
              refine HM.sto ⟨⟨hC, hM, hG⟩, by intro c hc hl; obtain rfl := List.mem_singleton.1 hc; first | exact absurd hl (by dsimp only; decide) | exact hO⟩ rfl (want_none) rfl (s_storeElem (a := D[y - 1]!) to_3 hO rfl (by first | omega | (simp only [List.length_set]; omega) | (simp; omega)) rfl rfl rfl rfl) ?_
              rintro h5 ⟨hO', hg⟩
              replace hC := hC.grown hg hvc
              replace hM := hM.grown hg hvr
              replace hG := hG.trans hg
              replace hO := hO'
              have hgs := hg.size; clear hg
              refine HM.val (v := elemPtr 1 v (y - 1)) rfl rfl (want_none) rfl (fun _ ⟨hC, hM, hG⟩ => q_indexAddrV (i := y - 1) ts_22 hV rfl rfl (by omega)) ?_
              refine HM.sto ⟨⟨hC, hM, hG⟩, by intro c hc hl; obtain rfl := List.mem_singleton.1 hc; first | exact absurd hl (by dsimp only; decide) | exact hO⟩ rfl (want_none) rfl (s_storeElem (a := D[y]!) to_3 hO rfl (by first | omega | (simp only [List.length_set]; omega) | (simp; omega)) rfl rfl rfl rfl) ?_
              rintro h6 ⟨hO', hg⟩
              replace hC := hC.grown hg hvc
              replace hM := hM.grown hg hvr
              replace hG := hG.trans hg
              replace hO := hO'
              have hgs := hg.size; clear hg
              refine HM.nil ⟨⟨hC, hM, hG⟩, by intro c hc hl; obtain rfl := List.mem_singleton.1 hc; first | exact absurd hl (by dsimp only; decide) | exact hO⟩ (thenQ_normal (?_))
              refine HW.seq_mid (fun f h => ∃ (D2 : Array Int), f 0 = v ∧ f 1 = .int .i64 ((a : Nat) : Int) ∧ f 2 = .int .i64 ((b : Nat) : Int) ∧ f 3 = .func (.func 130) #[.pointer (some ⟨c, 0, none⟩)] #[] ∧ f 9 = .int .i64 ((y : Nat) : Int) ∧ f 10 = .int .i64 ((j : Nat) : Int) ∧ (Blk h c (.cells #[.map (some r)] 159 (0, 0))) ∧ (MapIs h r kI kI m) ∧ (Grown h0 h v v) ∧ (OwnIs h B 3 1 encI v D2.toList) ∧ ((if y - a ≥ 2 then Go.Sort.shiftDown (ltOf' (bef m)) (y - 1) (swp D y (y - 1)) else swp D y (y - 1)) = D2) ∧ (D2.toList.length = n)) ?_ ?_
              · refine HW.seq ?_
                refine HW.region ?_
                refine HO.val (v := .int .i64 ((y : Nat) : Int)) (want_none) rfl (q_move rfl) ?_
                refine HO.val (v := .int .i64 ((a : Nat) : Int)) (want_none) rfl (q_move rfl) ?_
                refine HO.val (v := .int .i64 ((y - a : Nat) : Int)) (want_none) rfl (q_subN ((y - a : Nat) : Int) rfl rfl (by omega) (by omega) (by omega)) ?_
                refine HO.val (v := .bool (decide (2 ≤ ((y - a : Nat) : Int)))) (want_none) rfl (q_geq rfl rfl) ?_
                refine HO.nil (thenQ_normal (?_))
                refine HW.cond (decide (2 ≤ ((y - a : Nat) : Int))) rfl (fun c6 => ?_) (fun c6 => ?_)
                · have c6p := of_decide_eq_true c6
                  refine HW.seq ?_
                  refine HW.region ?_
                  refine HO.val (v := .int .i64 ((y : Nat) : Int)) (want_none) rfl (q_move rfl) ?_
                  refine HO.val (v := .int .i64 ((y - 1 : Nat) : Int)) (want_none) rfl (q_subN ((y - 1 : Nat) : Int) rfl rfl (by omega) (by omega) (by omega)) ?_
                  refine HO.val (v := .int .i64 ((y - 1 : Nat) : Int)) (want_none) rfl (q_assign rfl) ?_
                  refine HO.nil (thenQ_normal (?_))
                  refine HW.block ?_
                  refine HW.loop (S := Array Int × Nat) (fun s f h => match s with | (E, z) => f 0 = v ∧ f 1 = .int .i64 ((a : Nat) : Int) ∧ f 2 = .int .i64 ((b : Nat) : Int) ∧ f 3 = .func (.func 130) #[.pointer (some ⟨c, 0, none⟩)] #[] ∧ f 9 = .int .i64 ((y : Nat) : Int) ∧ f 10 = .int .i64 ((j : Nat) : Int) ∧ f 11 = .int .i64 ((z : Nat) : Int) ∧ (Blk h c (.cells #[.map (some r)] 159 (0, 0))) ∧ (MapIs h r kI kI m) ∧ (Grown h0 h v v) ∧ (OwnIs h B 3 1 encI v E.toList) ∧ (Go.Sort.shiftDown (ltOf' (bef m)) z E = Go.Sort.shiftDown (ltOf' (bef m)) (y - 1) (swp D y (y - 1))) ∧ (E.toList.length = n) ∧ (z + 1 ≤ y)) (fun s => match s with | (E, z) => z) (swp D y (y - 1), y - 1) ?_ ?_
                  · refine ⟨rfl, rfl, rfl, rfl, rfl, rfl, rfl, ?_, ?_, ?_, ?_, ?_, ?_, ?_⟩
                    · exact hC
                    · exact hM
                    · exact hG
                    · rw [swpL] at hO; exact hO
                    · rfl
                    · exact swp_dl _ _ _ hD
                    · omega
                  · rintro ⟨E, z⟩ f7 hh7 ⟨e0, e1, e2, e3, e9, e10, e11, hC, hM, hG, hO, hU, hEl, hz⟩
                    refine HW.fr [(0, v), (1, .int .i64 ((a : Nat) : Int)), (2, .int .i64 ((b : Nat) : Int)), (3, .func (.func 130) #[.pointer (some ⟨c, 0, none⟩)] #[]), (9, .int .i64 ((y : Nat) : Int)), (10, .int .i64 ((j : Nat) : Int)), (11, .int .i64 ((z : Nat) : Int))] ⟨e0, e1, e2, e3, e9, e10, e11, trivial⟩ ?_
                    refine HW.seq ?_
                    refine HW.seq ?_
                    refine HW.region ?_
                    refine HO.val (v := .int .i64 ((z : Nat) : Int)) (want_none) rfl (q_move rfl) ?_
                    refine HO.val (v := .bool (decide (1 ≤ ((z : Nat) : Int)))) (want_none) rfl (q_geq rfl rfl) ?_
                    refine HO.nil (thenQ_normal (?_))
                    refine HW.cond (decide (1 ≤ ((z : Nat) : Int))) rfl (fun c7 => ?_) (fun c7 => ?_)
                    · have c7p := of_decide_eq_true c7
                      refine HW.skip (thenQ_normal (?_))
                      refine HW.seq ?_
                      refine HW.block ?_
                      refine HW.seq ?_
                      refine HW.seq ?_
                      refine HW.regionD 13 mixed (fun h => (Blk h c (.cells #[.map (some r)] 159 (0, 0))) ∧ (MapIs h r kI kI m) ∧ (Grown h0 h v v) ∧ (OwnIs h B 3 1 encI v E.toList)) [] [(0, true), (1, true), (2, true), (3, true), (4, true), (5, true), (6, true), (7, true), (8, true), (9, true), (10, false), (11, true), (12, true)] (by kernel_rfl) ?_
                      refine HM.val (v := .func (.func 130) #[.pointer (some ⟨c, 0, none⟩)] #[]) rfl rfl (want_none) rfl (fun _ ⟨hC, hM, hG, hO⟩ => q_move rfl) ?_
                      refine HM.val (v := v) rfl rfl (want_none) rfl (fun _ ⟨hC, hM, hG, hO⟩ => q_move rfl) ?_
                      refine HM.val (v := .int .i64 ((z : Nat) : Int)) rfl rfl (want_none) rfl (fun _ ⟨hC, hM, hG, hO⟩ => q_move rfl) ?_
                      refine HM.val (v := elemPtr 1 v z) rfl rfl (want_none) rfl (fun _ ⟨hC, hM, hG, hO⟩ => q_indexAddrV (i := z) ts_22 hV rfl rfl (by omega)) ?_
                      refine HM.val (v := .int .i64 (E[z]!)) rfl rfl (want_none) rfl (fun _ ⟨hC, hM, hG, hO⟩ => q_loadElemQ to_3 hO.slice rfl (getE (by omega)) rfl) ?_
                      refine HM.val (v := v) rfl rfl (want_none) rfl (fun _ ⟨hC, hM, hG, hO⟩ => q_move rfl) ?_
                      refine HM.val (v := .int .i64 ((z : Nat) : Int)) rfl rfl (want_none) rfl (fun _ ⟨hC, hM, hG, hO⟩ => q_move rfl) ?_
                      refine HM.val (v := .int .i64 ((z - 1 : Nat) : Int)) rfl rfl (want_none) rfl (fun _ ⟨hC, hM, hG, hO⟩ => q_subN ((z - 1 : Nat) : Int) rfl rfl (by omega) (by omega) (by omega)) ?_
                      refine HM.val (v := elemPtr 1 v (z - 1)) rfl rfl (want_none) rfl (fun _ ⟨hC, hM, hG, hO⟩ => q_indexAddrV (i := z - 1) ts_22 hV rfl rfl (by omega)) ?_
                      refine HM.val (v := .int .i64 (E[z - 1]!)) rfl rfl (want_none) rfl (fun _ ⟨hC, hM, hG, hO⟩ => q_loadElemQ to_3 hO.slice rfl (getE (by omega)) rfl) ?_
                      refine HM.call ⟨⟨hC, hM, hG, hO⟩, Go.HL.at_nil _ _⟩ rfl (want_none) rfl (ec en_130 rfl rfl) (before_spec' c r m _ hC hM (E[z]!) (E[z - 1]!)) ?_
                      rintro _ h8 ⟨rfl, hx⟩
                      replace hC := hC.ext hx
                      replace hM := hM.ext hx
                      replace hG := hG.ext hx
                      replace hO := hO.ext hx
                      have hxs := hx.size
                      refine HM.val (v := .bool (decide ((bef m (E[z]!) (E[z - 1]!)) < 0))) rfl rfl (want_none) rfl (fun _ ⟨hC, hM, hG, hO⟩ => q_lss rfl rfl) ?_
                      refine HM.val (v := .bool (!(decide ((bef m (E[z]!) (E[z - 1]!)) < 0)))) rfl rfl (want_none) rfl (fun _ ⟨hC, hM, hG, hO⟩ => q_not rfl) ?_
                      refine HM.nil ⟨⟨hC, hM, hG, hO⟩, Go.HL.at_nil _ _⟩ (thenQ_normal (?_))
                      refine HW.cond (!(decide ((bef m (E[z]!) (E[z - 1]!)) < 0))) rfl (fun c8 => ?_) (fun c8 => ?_)
                      · have c8p : ¬ ((bef m (E[z]!) (E[z - 1]!)) < 0) := by simpa using c8
                        refine HW.exit (thenQ_exit (blockQ_pass rfl (thenQ_exit (thenQ_exit (blockQ_exit (thenQ_normal (?_)))))))
                        refine ⟨E, rfl, rfl, rfl, rfl, rfl, rfl, ?_, ?_, ?_, ?_, ?_, ?_⟩
                        · exact hC
                        · exact hM
                        · exact hG
                        · exact hO
                        · rw [if_pos (by omega), ← hU]; exact sd_stop (by omega) (by simpa [ltOf'] using c8)
                        · exact hEl
                      · have c8p : ((bef m (E[z]!) (E[z - 1]!)) < 0) := by simpa using c8
                        refine HW.skip (thenQ_normal (?_))
                        refine HW.regionD 18 mixed (fun h => (Blk h c (.cells #[.map (some r)] 159 (0, 0))) ∧ (MapIs h r kI kI m) ∧ (Grown h0 h v v)) [(15, fun h => OwnIs h B 3 1 encI v E.toList)] [(0, true), (1, true), (2, true), (3, true), (4, true), (5, true), (6, true), (7, true), (8, true), (9, true), (10, true), (11, true), (12, true), (13, true), (14, true), (15, false), (16, true), (17, false)] (by kernel_rfl) ?_
                        refine HM.val (v := v) rfl rfl (want_none) rfl (fun _ ⟨hC, hM, hG⟩ => q_move rfl) ?_
                        refine HM.val (v := .int .i64 ((z : Nat) : Int)) rfl rfl (want_none) rfl (fun _ ⟨hC, hM, hG⟩ => q_move rfl) ?_
                        refine HM.val (v := v) rfl rfl (want_none) rfl (fun _ ⟨hC, hM, hG⟩ => q_move rfl) ?_
                        refine HM.val (v := .int .i64 ((z : Nat) : Int)) rfl rfl (want_none) rfl (fun _ ⟨hC, hM, hG⟩ => q_move rfl) ?_
                        refine HM.val (v := .int .i64 ((z - 1 : Nat) : Int)) rfl rfl (want_none) rfl (fun _ ⟨hC, hM, hG⟩ => q_subN ((z - 1 : Nat) : Int) rfl rfl (by omega) (by omega) (by omega)) ?_
                        refine HM.val (v := v) rfl rfl (want_none) rfl (fun _ ⟨hC, hM, hG⟩ => q_move rfl) ?_
                        refine HM.val (v := .int .i64 ((z : Nat) : Int)) rfl rfl (want_none) rfl (fun _ ⟨hC, hM, hG⟩ => q_move rfl) ?_
                        refine HM.val (v := .int .i64 ((z - 1 : Nat) : Int)) rfl rfl (want_none) rfl (fun _ ⟨hC, hM, hG⟩ => q_subN ((z - 1 : Nat) : Int) rfl rfl (by omega) (by omega) (by omega)) ?_
                        refine HM.val (v := elemPtr 1 v (z - 1)) rfl rfl (want_none) rfl (fun _ ⟨hC, hM, hG⟩ => q_indexAddrV (i := z - 1) ts_22 hV rfl rfl (by omega)) ?_
                        refine HM.valT (v := .int .i64 (E[z - 1]!)) 15 (fun h => OwnIs h B 3 1 encI v E.toList) rfl rfl (want_none) rfl (by simp) (by kernel_rfl) (fun _ _ hO => q_loadElemQ to_3 hO.slice rfl (getE (by omega)) rfl) ?_
                        refine HM.val (v := v) rfl rfl (want_none) rfl (fun _ ⟨hC, hM, hG⟩ => q_move rfl) ?_
                        refine HM.val (v := .int .i64 ((z : Nat) : Int)) rfl rfl (want_none) rfl (fun _ ⟨hC, hM, hG⟩ => q_move rfl) ?_
                        refine HM.val (v := elemPtr 1 v z) rfl rfl (want_none) rfl (fun _ ⟨hC, hM, hG⟩ => q_indexAddrV (i := z) ts_22 hV rfl rfl (by omega)) ?_
                        refine HM.valT (v := .int .i64 (E[z]!)) 15 (fun h => OwnIs h B 3 1 encI v E.toList) rfl rfl (want_none) rfl (by simp) (by kernel_rfl) (fun _ _ hO => q_loadElemQ to_3 hO.slice rfl (getE (by omega)) rfl) ?_
                        refine HM.val (v := elemPtr 1 v z) rfl rfl (want_none) rfl (fun _ ⟨hC, hM, hG⟩ => q_indexAddrV (i := z) ts_22 hV rfl rfl (by omega)) ?_
                        refine HM.sto ⟨⟨hC, hM, hG⟩, by intro c hc hl; obtain rfl := List.mem_singleton.1 hc; first | exact absurd hl (by dsimp only; decide) | exact hO⟩ rfl (want_none) rfl (s_storeElem (a := E[z - 1]!) to_3 hO rfl (by first | omega | (simp only [List.length_set]; omega) | (simp; omega)) rfl rfl rfl rfl) ?_
                        rintro h9 ⟨hO', hg⟩
                        replace hC := hC.grown hg hvc
                        replace hM := hM.grown hg hvr
                        replace hG := hG.trans hg
                        replace hO := hO'
                        have hgs := hg.size; clear hg
                        refine HM.val (v := elemPtr 1 v (z - 1)) rfl rfl (want_none) rfl (fun _ ⟨hC, hM, hG⟩ => q_indexAddrV (i := z - 1) ts_22 hV rfl rfl (by omega)) ?_
                        refine HM.sto ⟨⟨hC, hM, hG⟩, by intro c hc hl; obtain rfl := List.mem_singleton.1 hc; first | exact absurd hl (by dsimp only; decide) | exact hO⟩ rfl (want_none) rfl (s_storeElem (a := E[z]!) to_3 hO rfl (by first | omega | (simp only [List.length_set]; omega) | (simp; omega)) rfl rfl rfl rfl) ?_
                        rintro h10 ⟨hO', hg⟩
                        replace hC := hC.grown hg hvc
                        replace hM := hM.grown hg hvr
                        replace hG := hG.trans hg
                        replace hO := hO'
                        have hgs := hg.size; clear hg
                        refine HM.nil ⟨⟨hC, hM, hG⟩, by intro c hc hl; obtain rfl := List.mem_singleton.1 hc; first | exact absurd hl (by dsimp only; decide) | exact hO⟩ (blockQ_normal (thenQ_normal (?_)))
                        refine HW.region ?_
                        refine HO.val (v := .int .i64 ((z : Nat) : Int)) (want_none) rfl (q_move rfl) ?_
                        refine HO.val (v := .int .i64 ((z - 1 : Nat) : Int)) (want_none) rfl (q_subN ((z - 1 : Nat) : Int) rfl rfl (by omega) (by omega) (by omega)) ?_
                        refine HO.val (v := .int .i64 ((z - 1 : Nat) : Int)) (want_none) rfl (q_assign rfl) ?_
                        refine HO.nil (thenQ_normal (?_))
                        refine ⟨(swp E z (z - 1), z - 1), ⟨rfl, rfl, rfl, rfl, rfl, rfl, rfl, ?_, ?_, ?_, ?_, ?_, ?_, ?_⟩, ?_⟩
                        · exact hC
                        · exact hM
                        · exact hG
                        · rw [swpL] at hO; exact hO
                        · rw [sd_go (by omega) (by simpa [ltOf'] using c8)]; exact hU
                        · exact swp_dl _ _ _ hEl
                        · omega
                        · dsimp only; omega
                    · have c7p := of_decide_eq_false c7
                      refine HW.exit (thenQ_exit (thenQ_exit (blockQ_exit (thenQ_normal (?_)))))
                      refine ⟨E, rfl, rfl, rfl, rfl, rfl, rfl, ?_, ?_, ?_, ?_, ?_, ?_⟩
                      · exact hC
                      · exact hM
                      · exact hG
                      · exact hO
                      · rw [if_pos (by omega), ← hU]; rw [show z = 0 from by omega]; exact sd_zero
                      · exact hEl
                · have c6p := of_decide_eq_false c6
                  refine HW.skip (thenQ_normal (?_))
                  refine ⟨swp D y (y - 1), rfl, rfl, rfl, rfl, rfl, rfl, ?_, ?_, ?_, ?_, ?_, ?_⟩
                  · exact hC
                  · exact hM
                  · exact hG
                  · rw [swpL] at hO; exact hO
                  · rw [if_neg (by omega)]
                  · exact swp_dl _ _ _ hD
              · rintro f11 hh11 ⟨D2, e0, e1, e2, e3, e9, e10, hC, hM, hG, hO, hE2, hD2⟩
                refine HW.fr [(0, v), (1, .int .i64 ((a : Nat) : Int)), (2, .int .i64 ((b : Nat) : Int)), (3, .func (.func 130) #[.pointer (some ⟨c, 0, none⟩)] #[]), (9, .int .i64 ((y : Nat) : Int)), (10, .int .i64 ((j : Nat) : Int))] ⟨e0, e1, e2, e3, e9, e10, trivial⟩ ?_
                refine HW.seq ?_
                refine HW.region ?_
                refine HO.val (v := .int .i64 ((b : Nat) : Int)) (want_none) rfl (q_move rfl) ?_
                refine HO.val (v := .int .i64 ((y : Nat) : Int)) (want_none) rfl (q_move rfl) ?_
                refine HO.val (v := .int .i64 ((b - y : Nat) : Int)) (want_none) rfl (q_subN ((b - y : Nat) : Int) rfl rfl (by omega) (by omega) (by omega)) ?_
                refine HO.val (v := .bool (decide (2 ≤ ((b - y : Nat) : Int)))) (want_none) rfl (q_geq rfl rfl) ?_
                refine HO.nil (thenQ_normal (?_))
                refine HW.cond (decide (2 ≤ ((b - y : Nat) : Int))) rfl (fun c9 => ?_) (fun c9 => ?_)
                · have c9p := of_decide_eq_true c9
                  refine HW.seq ?_
                  refine HW.region ?_
                  refine HO.val (v := .int .i64 ((y : Nat) : Int)) (want_none) rfl (q_move rfl) ?_
                  refine HO.val (v := .int .i64 ((y + 1 : Nat) : Int)) (want_none) rfl (q_addN ((y + 1 : Nat) : Int) rfl rfl (by omega) (by omega) (by omega)) ?_
                  refine HO.val (v := .int .i64 ((y + 1 : Nat) : Int)) (want_none) rfl (q_assign rfl) ?_
                  refine HO.nil (thenQ_normal (?_))
                  refine HW.block ?_
                  refine HW.loop (S := Array Int × Nat) (fun s f h => match s with | (E, z) => f 0 = v ∧ f 1 = .int .i64 ((a : Nat) : Int) ∧ f 2 = .int .i64 ((b : Nat) : Int) ∧ f 3 = .func (.func 130) #[.pointer (some ⟨c, 0, none⟩)] #[] ∧ f 9 = .int .i64 ((y : Nat) : Int) ∧ f 10 = .int .i64 ((j : Nat) : Int) ∧ f 12 = .int .i64 ((z : Nat) : Int) ∧ (Blk h c (.cells #[.map (some r)] 159 (0, 0))) ∧ (MapIs h r kI kI m) ∧ (Grown h0 h v v) ∧ (OwnIs h B 3 1 encI v E.toList) ∧ (shiftUp (ltOf' (bef m)) b z E = shiftUp (ltOf' (bef m)) b (y + 1) D2) ∧ (E.toList.length = n) ∧ (y + 1 ≤ z ∧ z ≤ b)) (fun s => match s with | (E, z) => b - z) (D2, y + 1) ?_ ?_
                  · refine ⟨rfl, rfl, rfl, rfl, rfl, rfl, rfl, ?_, ?_, ?_, ?_, ?_, ?_, ?_⟩
                    · exact hC
                    · exact hM
                    · exact hG
                    · exact hO
                    · rfl
                    · exact hD2
                    · omega
                  · rintro ⟨E, z⟩ f12 hh12 ⟨e0, e1, e2, e3, e9, e10, e12, hC, hM, hG, hO, hU, hEl, hz⟩
                    refine HW.fr [(0, v), (1, .int .i64 ((a : Nat) : Int)), (2, .int .i64 ((b : Nat) : Int)), (3, .func (.func 130) #[.pointer (some ⟨c, 0, none⟩)] #[]), (9, .int .i64 ((y : Nat) : Int)), (10, .int .i64 ((j : Nat) : Int)), (12, .int .i64 ((z : Nat) : Int))] ⟨e0, e1, e2, e3, e9, e10, e12, trivial⟩ ?_
                    refine HW.seq ?_
                    refine HW.seq ?_
                    refine HW.region ?_
                    refine HO.val (v := .int .i64 ((z : Nat) : Int)) (want_none) rfl (q_move rfl) ?_
                    refine HO.val (v := .int .i64 ((b : Nat) : Int)) (want_none) rfl (q_move rfl) ?_
                    refine HO.val (v := .bool (decide (((z : Nat) : Int) < ((b : Nat) : Int)))) (want_none) rfl (q_lss rfl rfl) ?_
                    refine HO.nil (thenQ_normal (?_))
                    refine HW.cond (decide (((z : Nat) : Int) < ((b : Nat) : Int))) rfl (fun c10 => ?_) (fun c10 => ?_)
                    · have c10p := of_decide_eq_true c10
                      refine HW.skip (thenQ_normal (?_))
                      refine HW.seq ?_
                      refine HW.block ?_
                      refine HW.seq ?_
                      refine HW.seq ?_
                      refine HW.regionD 13 mixed (fun h => (Blk h c (.cells #[.map (some r)] 159 (0, 0))) ∧ (MapIs h r kI kI m) ∧ (Grown h0 h v v) ∧ (OwnIs h B 3 1 encI v E.toList)) [] [(0, true), (1, true), (2, true), (3, true), (4, true), (5, true), (6, true), (7, true), (8, true), (9, true), (10, false), (11, true), (12, true)] (by kernel_rfl) ?_
                      refine HM.val (v := .func (.func 130) #[.pointer (some ⟨c, 0, none⟩)] #[]) rfl rfl (want_none) rfl (fun _ ⟨hC, hM, hG, hO⟩ => q_move rfl) ?_
                      refine HM.val (v := v) rfl rfl (want_none) rfl (fun _ ⟨hC, hM, hG, hO⟩ => q_move rfl) ?_
                      refine HM.val (v := .int .i64 ((z : Nat) : Int)) rfl rfl (want_none) rfl (fun _ ⟨hC, hM, hG, hO⟩ => q_move rfl) ?_
                      refine HM.val (v := elemPtr 1 v z) rfl rfl (want_none) rfl (fun _ ⟨hC, hM, hG, hO⟩ => q_indexAddrV (i := z) ts_22 hV rfl rfl (by omega)) ?_
                      refine HM.val (v := .int .i64 (E[z]!)) rfl rfl (want_none) rfl (fun _ ⟨hC, hM, hG, hO⟩ => q_loadElemQ to_3 hO.slice rfl (getE (by omega)) rfl) ?_
                      refine HM.val (v := v) rfl rfl (want_none) rfl (fun _ ⟨hC, hM, hG, hO⟩ => q_move rfl) ?_
                      refine HM.val (v := .int .i64 ((z : Nat) : Int)) rfl rfl (want_none) rfl (fun _ ⟨hC, hM, hG, hO⟩ => q_move rfl) ?_
                      refine HM.val (v := .int .i64 ((z - 1 : Nat) : Int)) rfl rfl (want_none) rfl (fun _ ⟨hC, hM, hG, hO⟩ => q_subN ((z - 1 : Nat) : Int) rfl rfl (by omega) (by omega) (by omega)) ?_
                      refine HM.val (v := elemPtr 1 v (z - 1)) rfl rfl (want_none) rfl (fun _ ⟨hC, hM, hG, hO⟩ => q_indexAddrV (i := z - 1) ts_22 hV rfl rfl (by omega)) ?_
                      refine HM.val (v := .int .i64 (E[z - 1]!)) rfl rfl (want_none) rfl (fun _ ⟨hC, hM, hG, hO⟩ => q_loadElemQ to_3 hO.slice rfl (getE (by omega)) rfl) ?_
                      refine HM.call ⟨⟨hC, hM, hG, hO⟩, Go.HL.at_nil _ _⟩ rfl (want_none) rfl (ec en_130 rfl rfl) (before_spec' c r m _ hC hM (E[z]!) (E[z - 1]!)) ?_
                      rintro _ h13 ⟨rfl, hx⟩
                      replace hC := hC.ext hx
                      replace hM := hM.ext hx
                      replace hG := hG.ext hx
                      replace hO := hO.ext hx
                      have hxs := hx.size
                      refine HM.val (v := .bool (decide ((bef m (E[z]!) (E[z - 1]!)) < 0))) rfl rfl (want_none) rfl (fun _ ⟨hC, hM, hG, hO⟩ => q_lss rfl rfl) ?_
                      refine HM.val (v := .bool (!(decide ((bef m (E[z]!) (E[z - 1]!)) < 0)))) rfl rfl (want_none) rfl (fun _ ⟨hC, hM, hG, hO⟩ => q_not rfl) ?_
                      refine HM.nil ⟨⟨hC, hM, hG, hO⟩, Go.HL.at_nil _ _⟩ (thenQ_normal (?_))
                      refine HW.cond (!(decide ((bef m (E[z]!) (E[z - 1]!)) < 0))) rfl (fun c11 => ?_) (fun c11 => ?_)
                      · have c11p : ¬ ((bef m (E[z]!) (E[z - 1]!)) < 0) := by simpa using c11
                        refine HW.exit (thenQ_exit (blockQ_pass rfl (thenQ_exit (thenQ_exit (blockQ_exit (blockQ_normal (thenQ_normal (?_))))))))
                        refine ⟨E, y, rfl, rfl, rfl, rfl, rfl, rfl, ?_, ?_, ?_, ?_, ?_, ?_, ?_⟩
                        · exact hC
                        · exact hM
                        · exact hG
                        · exact hO
                        · rw [← hT, show 5 - j = 5 - (j + 1) + 1 from by omega]; refine pi_go hy (by omega) (by omega) hE2 ?_
                          rw [if_pos (by omega), ← hU]; exact su_stop (by omega) (by simpa [ltOf'] using c11)
                        · exact hEl
                        · omega
                      · have c11p : ((bef m (E[z]!) (E[z - 1]!)) < 0) := by simpa using c11
                        refine HW.skip (thenQ_normal (?_))
                        refine HW.regionD 18 mixed (fun h => (Blk h c (.cells #[.map (some r)] 159 (0, 0))) ∧ (MapIs h r kI kI m) ∧ (Grown h0 h v v)) [(15, fun h => OwnIs h B 3 1 encI v E.toList)] [(0, true), (1, true), (2, true), (3, true), (4, true), (5, true), (6, true), (7, true), (8, true), (9, true), (10, true), (11, true), (12, true), (13, true), (14, true), (15, false), (16, true), (17, false)] (by kernel_rfl) ?_
                        refine HM.val (v := v) rfl rfl (want_none) rfl (fun _ ⟨hC, hM, hG⟩ => q_move rfl) ?_
                        refine HM.val (v := .int .i64 ((z : Nat) : Int)) rfl rfl (want_none) rfl (fun _ ⟨hC, hM, hG⟩ => q_move rfl) ?_
                        refine HM.val (v := v) rfl rfl (want_none) rfl (fun _ ⟨hC, hM, hG⟩ => q_move rfl) ?_
                        refine HM.val (v := .int .i64 ((z : Nat) : Int)) rfl rfl (want_none) rfl (fun _ ⟨hC, hM, hG⟩ => q_move rfl) ?_
                        refine HM.val (v := .int .i64 ((z - 1 : Nat) : Int)) rfl rfl (want_none) rfl (fun _ ⟨hC, hM, hG⟩ => q_subN ((z - 1 : Nat) : Int) rfl rfl (by omega) (by omega) (by omega)) ?_
                        refine HM.val (v := v) rfl rfl (want_none) rfl (fun _ ⟨hC, hM, hG⟩ => q_move rfl) ?_
                        refine HM.val (v := .int .i64 ((z : Nat) : Int)) rfl rfl (want_none) rfl (fun _ ⟨hC, hM, hG⟩ => q_move rfl) ?_
                        refine HM.val (v := .int .i64 ((z - 1 : Nat) : Int)) rfl rfl (want_none) rfl (fun _ ⟨hC, hM, hG⟩ => q_subN ((z - 1 : Nat) : Int) rfl rfl (by omega) (by omega) (by omega)) ?_
                        refine HM.val (v := elemPtr 1 v (z - 1)) rfl rfl (want_none) rfl (fun _ ⟨hC, hM, hG⟩ => q_indexAddrV (i := z - 1) ts_22 hV rfl rfl (by omega)) ?_
                        refine HM.valT (v := .int .i64 (E[z - 1]!)) 15 (fun h => OwnIs h B 3 1 encI v E.toList) rfl rfl (want_none) rfl (by simp) (by kernel_rfl) (fun _ _ hO => q_loadElemQ to_3 hO.slice rfl (getE (by omega)) rfl) ?_
                        refine HM.val (v := v) rfl rfl (want_none) rfl (fun _ ⟨hC, hM, hG⟩ => q_move rfl) ?_
                        refine HM.val (v := .int .i64 ((z : Nat) : Int)) rfl rfl (want_none) rfl (fun _ ⟨hC, hM, hG⟩ => q_move rfl) ?_
                        refine HM.val (v := elemPtr 1 v z) rfl rfl (want_none) rfl (fun _ ⟨hC, hM, hG⟩ => q_indexAddrV (i := z) ts_22 hV rfl rfl (by omega)) ?_
                        refine HM.valT (v := .int .i64 (E[z]!)) 15 (fun h => OwnIs h B 3 1 encI v E.toList) rfl rfl (want_none) rfl (by simp) (by kernel_rfl) (fun _ _ hO => q_loadElemQ to_3 hO.slice rfl (getE (by omega)) rfl) ?_
                        refine HM.val (v := elemPtr 1 v z) rfl rfl (want_none) rfl (fun _ ⟨hC, hM, hG⟩ => q_indexAddrV (i := z) ts_22 hV rfl rfl (by omega)) ?_
                        refine HM.sto ⟨⟨hC, hM, hG⟩, by intro c hc hl; obtain rfl := List.mem_singleton.1 hc; first | exact absurd hl (by dsimp only; decide) | exact hO⟩ rfl (want_none) rfl (s_storeElem (a := E[z - 1]!) to_3 hO rfl (by first | omega | (simp only [List.length_set]; omega) | (simp; omega)) rfl rfl rfl rfl) ?_
                        rintro h14 ⟨hO', hg⟩
                        replace hC := hC.grown hg hvc
                        replace hM := hM.grown hg hvr
                        replace hG := hG.trans hg
                        replace hO := hO'
                        have hgs := hg.size; clear hg
                        refine HM.val (v := elemPtr 1 v (z - 1)) rfl rfl (want_none) rfl (fun _ ⟨hC, hM, hG⟩ => q_indexAddrV (i := z - 1) ts_22 hV rfl rfl (by omega)) ?_
                        refine HM.sto ⟨⟨hC, hM, hG⟩, by intro c hc hl; obtain rfl := List.mem_singleton.1 hc; first | exact absurd hl (by dsimp only; decide) | exact hO⟩ rfl (want_none) rfl (s_storeElem (a := E[z]!) to_3 hO rfl (by first | omega | (simp only [List.length_set]; omega) | (simp; omega)) rfl rfl rfl rfl) ?_
                        rintro h15 ⟨hO', hg⟩
                        replace hC := hC.grown hg hvc
                        replace hM := hM.grown hg hvr
                        replace hG := hG.trans hg
                        replace hO := hO'
                        have hgs := hg.size; clear hg
                        refine HM.nil ⟨⟨hC, hM, hG⟩, by intro c hc hl; obtain rfl := List.mem_singleton.1 hc; first | exact absurd hl (by dsimp only; decide) | exact hO⟩ (blockQ_normal (thenQ_normal (?_)))
                        refine HW.region ?_
                        refine HO.val (v := .int .i64 ((z : Nat) : Int)) (want_none) rfl (q_move rfl) ?_
                        refine HO.val (v := .int .i64 ((z + 1 : Nat) : Int)) (want_none) rfl (q_addN ((z + 1 : Nat) : Int) rfl rfl (by omega) (by omega) (by omega)) ?_
                        refine HO.val (v := .int .i64 ((z + 1 : Nat) : Int)) (want_none) rfl (q_assign rfl) ?_
                        refine HO.nil (thenQ_normal (?_))
                        refine ⟨(swp E z (z - 1), z + 1), ⟨rfl, rfl, rfl, rfl, rfl, rfl, rfl, ?_, ?_, ?_, ?_, ?_, ?_, ?_⟩, ?_⟩
                        · exact hC
                        · exact hM
                        · exact hG
                        · rw [swpL] at hO; exact hO
                        · rw [su_go (by omega) (by simpa [ltOf'] using c11)]; exact hU
                        · exact swp_dl _ _ _ hEl
                        · omega
                        · dsimp only; omega
                    · have c10p := of_decide_eq_false c10
                      refine HW.exit (thenQ_exit (thenQ_exit (blockQ_exit (blockQ_normal (thenQ_normal (?_))))))
                      refine ⟨E, y, rfl, rfl, rfl, rfl, rfl, rfl, ?_, ?_, ?_, ?_, ?_, ?_, ?_⟩
                      · exact hC
                      · exact hM
                      · exact hG
                      · exact hO
                      · rw [← hT, show 5 - j = 5 - (j + 1) + 1 from by omega]; refine pi_go hy (by omega) (by omega) hE2 ?_
                        rw [if_pos (by omega), ← hU]; exact su_end (by omega)
                      · exact hEl
                      · omega
                · have c9p := of_decide_eq_false c9
                  refine HW.skip (blockQ_normal (thenQ_normal (?_)))
                  refine ⟨D2, y, rfl, rfl, rfl, rfl, rfl, rfl, ?_, ?_, ?_, ?_, ?_, ?_, ?_⟩
                  · exact hC
                  · exact hM
                  · exact hG
                  · exact hO
                  · rw [← hT, show 5 - j = 5 - (j + 1) + 1 from by omega]; refine pi_go hy (by omega) (by omega) hE2 ?_
                    rw [if_neg (by omega)]
                  · exact hD2
                  · omega
      · rintro f16 hh16 ⟨D3, y3, e0, e1, e2, e3, e9, e10, hC, hM, hG, hO, hT3, hD3, hy3⟩
        refine HW.fr [(0, v), (1, .int .i64 ((a : Nat) : Int)), (2, .int .i64 ((b : Nat) : Int)), (3, .func (.func 130) #[.pointer (some ⟨c, 0, none⟩)] #[]), (9, .int .i64 ((y3 : Nat) : Int)), (10, .int .i64 ((j : Nat) : Int))] ⟨e0, e1, e2, e3, e9, e10, trivial⟩ ?_
        refine HW.region ?_
        refine HO.val (v := .int .i64 ((j : Nat) : Int)) (want_none) rfl (q_move rfl) ?_
        refine HO.val (v := .int .i64 ((j + 1 : Nat) : Int)) (want_none) rfl (q_addN ((j + 1 : Nat) : Int) rfl rfl (by omega) (by omega) (by omega)) ?_
        refine HO.val (v := .int .i64 ((j + 1 : Nat) : Int)) (want_none) rfl (q_assign rfl) ?_
        refine HO.nil (thenQ_normal (?_))
        refine ⟨(D3, y3, j + 1), ⟨rfl, rfl, rfl, rfl, rfl, rfl, ?_, ?_, ?_, ?_, ?_, ?_, ?_, ?_⟩, ?_⟩
        · exact hC
        · exact hM
        · exact hG
        · exact hO
        · exact hT3
        · exact hD3
        · omega
        · omega
        · dsimp only; omega
    · have c1p := of_decide_eq_false c1
      refine HW.exit (thenQ_exit (thenQ_exit (blockQ_exit (thenQ_normal (?_)))))
      refine HW.seq ?_
      refine HW.region ?_
      refine HO.val (v := .bool false) (want_none) rfl (q_assign rfl) ?_
      refine HO.nil (thenQ_normal (?_))
      refine HW.ret (?_)
      refine ⟨.inr rfl, .bool false, res_one rfl rfl, ?_⟩
      have hT2 := hT
      rw [show 5 - j = 0 from by omega, pi_zero] at hT2
      rw [← hT2]
      exact ⟨rfl, hO, hG, hC, hM⟩
end Go.HL.CI
