/- Go's pdqsort by a clock's order: walks: what the row holds is what the plain twin says. -/
import Derived.Test.YtnemfpgfgblpbaaOps2
import Derived.Test.YtnemfpgfgblpbaaProg
import Derived.Test.YtnemfpgfgblpbaaSortI
import Derived.Test.YtnemfpgfgblpbaaSortTwin
set_option linter.unusedSimpArgs false
set_option linter.unusedVariables false
set_option linter.unusedSectionVars false
namespace Go.HL.CI
open Go.Proofs Go.Sort
theorem en_207 (args : Array Value) (w : World) : (callFunc 207 args).run Try.prog w = .ok (.enter 207 args) w := by kernel_rfl
set_option maxRecDepth 100000 in
theorem reverse_spec (c r : Nat) (m : List (Int × Int)) (B n : Nat) (v : Value) (d : Array Int) (h0 : Heap) (hC : Blk h0 c (.cells #[.map (some r)] 159 (0, 0))) (hM : MapIs h0 r kI kI m) (hO : OwnIs h0 B 3 1 encI v d.toList) (hvc : blockOf v ≠ some c) (hvr : blockOf v ≠ some r) (hd : d.toList.length = n) (hn : n ≤ 2305843009213693952) (a b : Nat) (hab : a < b) (hb : b ≤ n) :
    HC Try.prog 193 #[v, .int .i64 ((a : Nat) : Int), .int .i64 ((b : Nat) : Int), .func (.func 130) #[.pointer (some ⟨c, 0, none⟩)] #[]] h0 fun u h' => u = .tuple #[] ∧ OwnIs h' B 3 1 encI v (reverseRange d a b).toList ∧ Grown h0 h' v v ∧ Blk h' c (.cells #[.map (some r)] 159 (0, 0)) ∧ MapIs h' r kI kI m := by
  refine HC.of_HW (n := 34) Try.func193 rfl rfl (Nat.le_of_ble_eq_true rfl) ?_
  have hG := Grown.refl h0 v
  refine HW.seq ?_
  refine HW.region ?_
  refine HO.val (v := .int .i64 ((a : Nat) : Int)) (want_none) rfl (q_move rfl) ?_
  refine HO.val (v := .int .i64 ((a : Nat) : Int)) (want_none) rfl (q_assign rfl) ?_
  refine HO.nil (thenQ_normal (?_))
  refine HW.seq ?_
  refine HW.region ?_
  refine HO.val (v := .int .i64 ((b : Nat) : Int)) (want_none) rfl (q_move rfl) ?_
  refine HO.val (v := .int .i64 ((b - 1 : Nat) : Int)) (want_none) rfl (q_subN ((b - 1 : Nat) : Int) rfl rfl (by omega) (by omega) (by omega)) ?_
  refine HO.val (v := .int .i64 ((b - 1 : Nat) : Int)) (want_none) rfl (q_assign rfl) ?_
  refine HO.nil (thenQ_normal (?_))
  refine HW.block ?_
  refine HW.loop (S := Array Int × Nat × Nat) (fun s f h => match s with | (D, i, j) => f 0 = v ∧ f 8 = .int .i64 ((i : Nat) : Int) ∧ f 9 = .int .i64 ((j : Nat) : Int) ∧ (Blk h c (.cells #[.map (some r)] 159 (0, 0))) ∧ (MapIs h r kI kI m) ∧ (Grown h0 h v v) ∧ (OwnIs h B 3 1 encI v D.toList) ∧ (reverseLoop i j D = reverseLoop a (b - 1) d) ∧ (D.toList.length = n) ∧ (j < n)) (fun s => match s with | (D, i, j) => j - i) (d, a, b - 1) ?_ ?_
  · refine ⟨rfl, rfl, rfl, ?_, ?_, ?_, ?_, ?_, ?_, ?_⟩
    · exact hC
    · exact hM
    · exact hG
    · exact hO
    · rfl
    · exact hd
    · omega
  · rintro ⟨D, i, j⟩ f1 hh1 ⟨e0, e8, e9, hC, hM, hG, hO, hT, hD, hj⟩
    refine HW.fr [(0, v), (8, .int .i64 ((i : Nat) : Int)), (9, .int .i64 ((j : Nat) : Int))] ⟨e0, e8, e9, trivial⟩ ?_
    have hV : IsSl v _ := hO.slice.shape (List.length_pos_iff.1 (by omega))
    refine HW.seq ?_
    refine HW.seq ?_
    refine HW.region ?_
    refine HO.val (v := .int .i64 ((i : Nat) : Int)) (want_none) rfl (q_move rfl) ?_
    refine HO.val (v := .int .i64 ((j : Nat) : Int)) (want_none) rfl (q_move rfl) ?_
    refine HO.val (v := .bool (decide (((i : Nat) : Int) < ((j : Nat) : Int)))) (want_none) rfl (q_lss rfl rfl) ?_
    refine HO.nil (thenQ_normal (?_))
    refine HW.cond (decide (((i : Nat) : Int) < ((j : Nat) : Int))) rfl (fun c1 => ?_) (fun c1 => ?_)
    · have c1p := of_decide_eq_true c1
      refine HW.skip (thenQ_normal (?_))
      refine HW.block ?_
      refine HW.seq ?_
      refine HW.regionD 16 mixed (fun h => (Blk h c (.cells #[.map (some r)] 159 (0, 0))) ∧ (MapIs h r kI kI m) ∧ (Grown h0 h v v)) [(13, fun h => OwnIs h B 3 1 encI v D.toList)] [(0, true), (1, true), (2, true), (3, true), (4, true), (5, true), (6, true), (7, true), (8, true), (9, true), (10, true), (11, true), (12, true), (13, false), (14, true), (15, false)] (by kernel_rfl) ?_
      refine HM.val (v := v) rfl rfl (want_none) rfl (fun _ ⟨hC, hM, hG⟩ => q_move rfl) ?_
      refine HM.val (v := .int .i64 ((i : Nat) : Int)) rfl rfl (want_none) rfl (fun _ ⟨hC, hM, hG⟩ => q_move rfl) ?_
      refine HM.val (v := v) rfl rfl (want_none) rfl (fun _ ⟨hC, hM, hG⟩ => q_move rfl) ?_
      refine HM.val (v := .int .i64 ((j : Nat) : Int)) rfl rfl (want_none) rfl (fun _ ⟨hC, hM, hG⟩ => q_move rfl) ?_
      refine HM.val (v := v) rfl rfl (want_none) rfl (fun _ ⟨hC, hM, hG⟩ => q_move rfl) ?_
      refine HM.val (v := .int .i64 ((j : Nat) : Int)) rfl rfl (want_none) rfl (fun _ ⟨hC, hM, hG⟩ => q_move rfl) ?_
      refine HM.val (v := elemPtr 1 v j) rfl rfl (want_none) rfl (fun _ ⟨hC, hM, hG⟩ => q_indexAddrV (i := j) ts_22 hV rfl rfl (by omega)) ?_
      refine HM.valT (v := .int .i64 (D[j]!)) 13 (fun h => OwnIs h B 3 1 encI v D.toList) rfl rfl (want_none) rfl (by simp) (by kernel_rfl) (fun _ _ hO => q_loadElemQ to_3 hO.slice rfl (getE (by omega)) rfl) ?_
      refine HM.val (v := v) rfl rfl (want_none) rfl (fun _ ⟨hC, hM, hG⟩ => q_move rfl) ?_
      refine HM.val (v := .int .i64 ((i : Nat) : Int)) rfl rfl (want_none) rfl (fun _ ⟨hC, hM, hG⟩ => q_move rfl) ?_
      refine HM.val (v := elemPtr 1 v i) rfl rfl (want_none) rfl (fun _ ⟨hC, hM, hG⟩ => q_indexAddrV (i := i) ts_22 hV rfl rfl (by omega)) ?_
      refine HM.valT (v := .int .i64 (D[i]!)) 13 (fun h => OwnIs h B 3 1 encI v D.toList) rfl rfl (want_none) rfl (by simp) (by kernel_rfl) (fun _ _ hO => q_loadElemQ to_3 hO.slice rfl (getE (by omega)) rfl) ?_
      refine HM.val (v := elemPtr 1 v i) rfl rfl (want_none) rfl (fun _ ⟨hC, hM, hG⟩ => q_indexAddrV (i := i) ts_22 hV rfl rfl (by omega)) ?_
      refine HM.sto ⟨⟨hC, hM, hG⟩, by intro c hc hl; obtain rfl := List.mem_singleton.1 hc; first | exact absurd hl (by dsimp only; decide) | exact hO⟩ rfl (want_none) rfl (s_storeElem (a := D[j]!) to_3 hO rfl (by first | omega | (simp only [List.length_set]; omega) | (simp; omega)) rfl rfl rfl rfl) ?_
      rintro h2 ⟨hO', hg⟩
      replace hC := hC.grown hg hvc
      replace hM := hM.grown hg hvr
      replace hG := hG.trans hg
      replace hO := hO'
      have hgs := hg.size; clear hg
      refine HM.val (v := elemPtr 1 v j) rfl rfl (want_none) rfl (fun _ ⟨hC, hM, hG⟩ => q_indexAddrV (i := j) ts_22 hV rfl rfl (by omega)) ?_
      refine HM.sto ⟨⟨hC, hM, hG⟩, by intro c hc hl; obtain rfl := List.mem_singleton.1 hc; first | exact absurd hl (by dsimp only; decide) | exact hO⟩ rfl (want_none) rfl (s_storeElem (a := D[i]!) to_3 hO rfl (by first | omega | (simp only [List.length_set]; omega) | (simp; omega)) rfl rfl rfl rfl) ?_
      rintro h3 ⟨hO', hg⟩
      replace hC := hC.grown hg hvc
      replace hM := hM.grown hg hvr
      replace hG := hG.trans hg
      replace hO := hO'
      have hgs := hg.size; clear hg
      refine HM.nil ⟨⟨hC, hM, hG⟩, by intro c hc hl; obtain rfl := List.mem_singleton.1 hc; first | exact absurd hl (by dsimp only; decide) | exact hO⟩ (thenQ_normal (?_))
      refine HW.seq ?_
      refine HW.region ?_
      refine HO.val (v := .int .i64 ((i : Nat) : Int)) (want_none) rfl (q_move rfl) ?_
      refine HO.val (v := .int .i64 ((i + 1 : Nat) : Int)) (want_none) rfl (q_addN ((i + 1 : Nat) : Int) rfl rfl (by omega) (by omega) (by omega)) ?_
      refine HO.val (v := .int .i64 ((i + 1 : Nat) : Int)) (want_none) rfl (q_assign rfl) ?_
      refine HO.nil (thenQ_normal (?_))
      refine HW.region ?_
      refine HO.val (v := .int .i64 ((j : Nat) : Int)) (want_none) rfl (q_move rfl) ?_
      refine HO.val (v := .int .i64 ((j - 1 : Nat) : Int)) (want_none) rfl (q_subN ((j - 1 : Nat) : Int) rfl rfl (by omega) (by omega) (by omega)) ?_
      refine HO.val (v := .int .i64 ((j - 1 : Nat) : Int)) (want_none) rfl (q_assign rfl) ?_
      refine HO.nil (blockQ_normal (thenQ_normal (?_)))
      refine ⟨(swp D i j, i + 1, j - 1), ⟨rfl, rfl, rfl, ?_, ?_, ?_, ?_, ?_, ?_, ?_⟩, ?_⟩
      · exact hC
      · exact hM
      · exact hG
      · rw [swpL] at hO; exact hO
      · rw [rev_go (by omega)]; exact hT
      · rw [swp_len]; exact hD
      · omega
      · dsimp only; omega
    · have c1p := of_decide_eq_false c1
      refine HW.exit (thenQ_exit (thenQ_exit (blockQ_exit (?_))))
      refine ⟨.inl rfl, .tuple #[], res_none rfl, ?_⟩
      have hT2 := rev_stop (d := D) (i := i) (j := j) (by omega)
      rw [hT] at hT2
      exact ⟨rfl, by rw [show reverseRange d a b = D from hT2]; exact hO, hG, hC, hM⟩

set_option maxRecDepth 100000 in
theorem sift_spec (c r : Nat) (m : List (Int × Int)) (B n : Nat) (v : Value) (d : Array Int) (h0 : Heap) (hC : Blk h0 c (.cells #[.map (some r)] 159 (0, 0))) (hM : MapIs h0 r kI kI m) (hO : OwnIs h0 B 3 1 encI v d.toList) (hvc : blockOf v ≠ some c) (hvr : blockOf v ≠ some r) (hd : d.toList.length = n) (hn : n ≤ 2305843009213693952) (lo hi first : Nat) (hlo : lo ≤ hi) (hhi : first + hi ≤ n) :
    HC Try.prog 207 #[v, .int .i64 ((lo : Nat) : Int), .int .i64 ((hi : Nat) : Int), .int .i64 ((first : Nat) : Int), .func (.func 130) #[.pointer (some ⟨c, 0, none⟩)] #[]] h0 fun u h' => u = .tuple #[] ∧ OwnIs h' B 3 1 encI v (siftDown (ltOf' (bef m)) hi first lo d).toList ∧ Grown h0 h' v v ∧ Blk h' c (.cells #[.map (some r)] 159 (0, 0)) ∧ MapIs h' r kI kI m := by
  refine HC.of_HW (n := 82) Try.func207 rfl rfl (Nat.le_of_ble_eq_true rfl) ?_
  have hG := Grown.refl h0 v
  refine HW.seq ?_
  refine HW.region ?_
  refine HO.val (v := .int .i64 ((lo : Nat) : Int)) (want_none) rfl (q_move rfl) ?_
  refine HO.val (v := .int .i64 ((lo : Nat) : Int)) (want_none) rfl (q_assign rfl) ?_
  refine HO.nil (thenQ_normal (?_))
  refine HW.block ?_
  refine HW.loop (S := Array Int × Nat) (fun s f h => match s with | (D, root) => f 0 = v ∧ f 2 = .int .i64 ((hi : Nat) : Int) ∧ f 3 = .int .i64 ((first : Nat) : Int) ∧ f 4 = .func (.func 130) #[.pointer (some ⟨c, 0, none⟩)] #[] ∧ f 10 = .int .i64 ((root : Nat) : Int) ∧ (Blk h c (.cells #[.map (some r)] 159 (0, 0))) ∧ (MapIs h r kI kI m) ∧ (Grown h0 h v v) ∧ (OwnIs h B 3 1 encI v D.toList) ∧ (siftDown (ltOf' (bef m)) hi first root D = siftDown (ltOf' (bef m)) hi first lo d) ∧ (D.toList.length = n) ∧ (root ≤ hi)) (fun s => match s with | (D, root) => hi - root) (d, lo) ?_ ?_
  · refine ⟨rfl, rfl, rfl, rfl, rfl, ?_, ?_, ?_, ?_, ?_, ?_, ?_⟩
    · exact hC
    · exact hM
    · exact hG
    · exact hO
    · rfl
    · exact hd
    · omega
  · rintro ⟨D, root⟩ f1 hh1 ⟨e0, e2, e3, e4, e10, hC, hM, hG, hO, hT, hD, hrt⟩
    refine HW.fr [(0, v), (2, .int .i64 ((hi : Nat) : Int)), (3, .int .i64 ((first : Nat) : Int)), (4, .func (.func 130) #[.pointer (some ⟨c, 0, none⟩)] #[]), (10, .int .i64 ((root : Nat) : Int))] ⟨e0, e2, e3, e4, e10, trivial⟩ ?_
    refine HW.block ?_
    refine HW.seq ?_
    refine HW.region ?_
    refine HO.val (v := .int .i64 ((root : Nat) : Int)) (want_none) rfl (q_move rfl) ?_
    refine HO.val (v := .int .i64 ((2 * root : Nat) : Int)) (want_none) rfl (q_mulN ((2 * root : Nat) : Int) rfl rfl (by omega) (by omega) (by omega)) ?_
    refine HO.val (v := .int .i64 ((2 * root + 1 : Nat) : Int)) (want_none) rfl (q_addN ((2 * root + 1 : Nat) : Int) rfl rfl (by omega) (by omega) (by omega)) ?_
    refine HO.val (v := .int .i64 ((2 * root + 1 : Nat) : Int)) (want_none) rfl (q_assign rfl) ?_
    refine HO.nil (thenQ_normal (?_))
    refine HW.seq ?_
    refine HW.seq ?_
    refine HW.region ?_
    refine HO.val (v := .int .i64 ((2 * root + 1 : Nat) : Int)) (want_none) rfl (q_move rfl) ?_
    refine HO.val (v := .int .i64 ((hi : Nat) : Int)) (want_none) rfl (q_move rfl) ?_
    refine HO.val (v := .bool (decide (((hi : Nat) : Int) ≤ ((2 * root + 1 : Nat) : Int)))) (want_none) rfl (q_geq rfl rfl) ?_
    refine HO.nil (thenQ_normal (?_))
    refine HW.cond (decide (((hi : Nat) : Int) ≤ ((2 * root + 1 : Nat) : Int))) rfl (fun c1 => ?_) (fun c1 => ?_)
    · have c1p := of_decide_eq_true c1
      refine HW.exit (thenQ_exit (blockQ_pass rfl (thenQ_exit (blockQ_exit (?_)))))
      refine ⟨.inl rfl, .tuple #[], res_none rfl, ?_⟩
      have hT2 := sift_stop (hi := hi) (first := first) (root := root) (d := D) (lt := (ltOf' (bef m))) (by omega)
      rw [hT] at hT2
      exact ⟨rfl, by rw [hT2]; exact hO, hG, hC, hM⟩
    · have c1p := of_decide_eq_false c1
      refine HW.skip (thenQ_normal (?_))
      refine HW.seq ?_
      refine HW.seq ?_
      refine HW.regionD 22 mixed (fun h => (Blk h c (.cells #[.map (some r)] 159 (0, 0))) ∧ (MapIs h r kI kI m) ∧ (Grown h0 h v v) ∧ (OwnIs h B 3 1 encI v D.toList)) [] [(0, true), (1, true), (2, true), (3, true), (4, true), (5, true), (6, true), (7, true), (8, true), (9, true), (10, true), (11, true), (12, true), (13, true), (14, true), (15, true), (16, true), (17, true), (18, true), (19, false), (20, true), (21, true)] (by kernel_rfl) ?_
      refine HM.val (v := .int .i64 ((2 * root + 1 : Nat) : Int)) rfl rfl (want_none) rfl (fun _ ⟨hC, hM, hG, hO⟩ => q_move rfl) ?_
      refine HM.val (v := .int .i64 ((2 * root + 2 : Nat) : Int)) rfl rfl (want_none) rfl (fun _ ⟨hC, hM, hG, hO⟩ => q_addN ((2 * root + 2 : Nat) : Int) rfl rfl (by omega) (by omega) (by omega)) ?_
      refine HM.val (v := .int .i64 ((hi : Nat) : Int)) rfl rfl (want_none) rfl (fun _ ⟨hC, hM, hG, hO⟩ => q_move rfl) ?_
      refine HM.val (v := .bool (decide (((2 * root + 2 : Nat) : Int) < ((hi : Nat) : Int)))) rfl rfl (want_none) rfl (fun _ ⟨hC, hM, hG, hO⟩ => q_lss rfl rfl) ?_
      refine HM.val (v := .bool (decide (((2 * root + 2 : Nat) : Int) < ((hi : Nat) : Int)))) rfl rfl (want_none) rfl (fun _ ⟨hC, hM, hG, hO⟩ => q_move rfl) ?_
      rcases Bool.eq_false_or_eq_true (decide (((2 * root + 2 : Nat) : Int) < ((hi : Nat) : Int))) with g2 | g2
      · have g2p := of_decide_eq_true g2
        refine HM.val (v := .func (.func 130) #[.pointer (some ⟨c, 0, none⟩)] #[]) rfl rfl (want_by rfl rfl g2) rfl (fun _ ⟨hC, hM, hG, hO⟩ => q_move rfl) ?_
        refine HM.val (v := v) rfl rfl (want_by rfl rfl g2) rfl (fun _ ⟨hC, hM, hG, hO⟩ => q_move rfl) ?_
        refine HM.val (v := .int .i64 ((first : Nat) : Int)) rfl rfl (want_by rfl rfl g2) rfl (fun _ ⟨hC, hM, hG, hO⟩ => q_move rfl) ?_
        refine HM.val (v := .int .i64 ((2 * root + 1 : Nat) : Int)) rfl rfl (want_by rfl rfl g2) rfl (fun _ ⟨hC, hM, hG, hO⟩ => q_move rfl) ?_
        refine HM.val (v := .int .i64 ((first + 2 * root + 1 : Nat) : Int)) rfl rfl (want_by rfl rfl g2) rfl (fun _ ⟨hC, hM, hG, hO⟩ => q_addN ((first + 2 * root + 1 : Nat) : Int) rfl rfl (by omega) (by omega) (by omega)) ?_
        refine HM.val (v := elemPtr 1 v (first + 2 * root + 1)) rfl rfl (want_by rfl rfl g2) rfl (fun _ ⟨hC, hM, hG, hO⟩ => q_indexAddr (i := first + 2 * root + 1) ts_22 hO.slice rfl rfl (by omega)) ?_
        refine HM.val (v := .int .i64 (D[first + 2 * root + 1]!)) rfl rfl (want_by rfl rfl g2) rfl (fun _ ⟨hC, hM, hG, hO⟩ => q_loadElemQ to_3 hO.slice rfl (getE (by omega)) rfl) ?_
        refine HM.val (v := v) rfl rfl (want_by rfl rfl g2) rfl (fun _ ⟨hC, hM, hG, hO⟩ => q_move rfl) ?_
        refine HM.val (v := .int .i64 ((first : Nat) : Int)) rfl rfl (want_by rfl rfl g2) rfl (fun _ ⟨hC, hM, hG, hO⟩ => q_move rfl) ?_
        refine HM.val (v := .int .i64 ((2 * root + 1 : Nat) : Int)) rfl rfl (want_by rfl rfl g2) rfl (fun _ ⟨hC, hM, hG, hO⟩ => q_move rfl) ?_
        refine HM.val (v := .int .i64 ((first + 2 * root + 1 : Nat) : Int)) rfl rfl (want_by rfl rfl g2) rfl (fun _ ⟨hC, hM, hG, hO⟩ => q_addN ((first + 2 * root + 1 : Nat) : Int) rfl rfl (by omega) (by omega) (by omega)) ?_
        refine HM.val (v := .int .i64 ((first + 2 * root + 2 : Nat) : Int)) rfl rfl (want_by rfl rfl g2) rfl (fun _ ⟨hC, hM, hG, hO⟩ => q_addN ((first + 2 * root + 2 : Nat) : Int) rfl rfl (by omega) (by omega) (by omega)) ?_
        refine HM.val (v := elemPtr 1 v (first + 2 * root + 2)) rfl rfl (want_by rfl rfl g2) rfl (fun _ ⟨hC, hM, hG, hO⟩ => q_indexAddr (i := first + 2 * root + 2) ts_22 hO.slice rfl rfl (by omega)) ?_
        refine HM.val (v := .int .i64 (D[first + 2 * root + 2]!)) rfl rfl (want_by rfl rfl g2) rfl (fun _ ⟨hC, hM, hG, hO⟩ => q_loadElemQ to_3 hO.slice rfl (getE (by omega)) rfl) ?_
        refine HM.call ⟨⟨hC, hM, hG, hO⟩, Go.HL.at_nil _ _⟩ rfl (want_by rfl rfl g2) rfl (ec en_130 rfl rfl) (before_spec' c r m _ hC hM (D[first + 2 * root + 1]!) (D[first + 2 * root + 2]!)) ?_
        rintro _ h2 ⟨rfl, hx⟩
        replace hC := hC.ext hx
        replace hM := hM.ext hx
        replace hG := hG.ext hx
        replace hO := hO.ext hx
        have hxs := hx.size
        refine HM.val (v := .bool (decide ((bef m (D[first + 2 * root + 1]!) (D[first + 2 * root + 2]!)) < 0))) rfl rfl (want_by rfl rfl g2) rfl (fun _ ⟨hC, hM, hG, hO⟩ => q_lss rfl rfl) ?_
        refine HM.val (v := .bool (decide ((bef m (D[first + 2 * root + 1]!) (D[first + 2 * root + 2]!)) < 0))) rfl rfl (want_none) rfl (fun _ ⟨hC, hM, hG, hO⟩ => q_pickK true rfl g2 rfl) ?_
        refine HM.nil ⟨⟨hC, hM, hG, hO⟩, Go.HL.at_nil _ _⟩ (thenQ_normal (?_))
        refine HW.cond (decide ((bef m (D[first + 2 * root + 1]!) (D[first + 2 * root + 2]!)) < 0)) rfl (fun c3 => ?_) (fun c3 => ?_)
        · have c3p := of_decide_eq_true c3
          refine HW.region ?_
          refine HO.val (v := .int .i64 ((2 * root + 1 : Nat) : Int)) (want_none) rfl (q_move rfl) ?_
          refine HO.val (v := .int .i64 ((2 * root + 2 : Nat) : Int)) (want_none) rfl (q_addN ((2 * root + 2 : Nat) : Int) rfl rfl (by omega) (by omega) (by omega)) ?_
          refine HO.val (v := .int .i64 ((2 * root + 2 : Nat) : Int)) (want_none) rfl (q_assign rfl) ?_
          refine HO.nil (thenQ_normal (?_))
          refine HW.seq ?_
          refine HW.seq ?_
          refine HW.regionD 16 mixed (fun h => (Blk h c (.cells #[.map (some r)] 159 (0, 0))) ∧ (MapIs h r kI kI m) ∧ (Grown h0 h v v) ∧ (OwnIs h B 3 1 encI v D.toList)) [] [(0, true), (1, true), (2, true), (3, true), (4, true), (5, true), (6, true), (7, true), (8, true), (9, true), (10, true), (11, true), (12, true), (13, false), (14, true), (15, true)] (by kernel_rfl) ?_
          refine HM.val (v := .func (.func 130) #[.pointer (some ⟨c, 0, none⟩)] #[]) rfl rfl (want_none) rfl (fun _ ⟨hC, hM, hG, hO⟩ => q_move rfl) ?_
          refine HM.val (v := v) rfl rfl (want_none) rfl (fun _ ⟨hC, hM, hG, hO⟩ => q_move rfl) ?_
          refine HM.val (v := .int .i64 ((first : Nat) : Int)) rfl rfl (want_none) rfl (fun _ ⟨hC, hM, hG, hO⟩ => q_move rfl) ?_
          refine HM.val (v := .int .i64 ((root : Nat) : Int)) rfl rfl (want_none) rfl (fun _ ⟨hC, hM, hG, hO⟩ => q_move rfl) ?_
          refine HM.val (v := .int .i64 ((first + root : Nat) : Int)) rfl rfl (want_none) rfl (fun _ ⟨hC, hM, hG, hO⟩ => q_addN ((first + root : Nat) : Int) rfl rfl (by omega) (by omega) (by omega)) ?_
          refine HM.val (v := elemPtr 1 v (first + root)) rfl rfl (want_none) rfl (fun _ ⟨hC, hM, hG, hO⟩ => q_indexAddr (i := first + root) ts_22 hO.slice rfl rfl (by omega)) ?_
          refine HM.val (v := .int .i64 (D[first + root]!)) rfl rfl (want_none) rfl (fun _ ⟨hC, hM, hG, hO⟩ => q_loadElemQ to_3 hO.slice rfl (getE (by omega)) rfl) ?_
          refine HM.val (v := v) rfl rfl (want_none) rfl (fun _ ⟨hC, hM, hG, hO⟩ => q_move rfl) ?_
          refine HM.val (v := .int .i64 ((first : Nat) : Int)) rfl rfl (want_none) rfl (fun _ ⟨hC, hM, hG, hO⟩ => q_move rfl) ?_
          refine HM.val (v := .int .i64 ((2 * root + 2 : Nat) : Int)) rfl rfl (want_none) rfl (fun _ ⟨hC, hM, hG, hO⟩ => q_move rfl) ?_
          refine HM.val (v := .int .i64 ((first + 2 * root + 2 : Nat) : Int)) rfl rfl (want_none) rfl (fun _ ⟨hC, hM, hG, hO⟩ => q_addN ((first + 2 * root + 2 : Nat) : Int) rfl rfl (by omega) (by omega) (by omega)) ?_
          refine HM.val (v := elemPtr 1 v (first + 2 * root + 2)) rfl rfl (want_none) rfl (fun _ ⟨hC, hM, hG, hO⟩ => q_indexAddr (i := first + 2 * root + 2) ts_22 hO.slice rfl rfl (by omega)) ?_
          refine HM.val (v := .int .i64 (D[first + 2 * root + 2]!)) rfl rfl (want_none) rfl (fun _ ⟨hC, hM, hG, hO⟩ => q_loadElemQ to_3 hO.slice rfl (getE (by omega)) rfl) ?_
          refine HM.call ⟨⟨hC, hM, hG, hO⟩, Go.HL.at_nil _ _⟩ rfl (want_none) rfl (ec en_130 rfl rfl) (before_spec' c r m _ hC hM (D[first + root]!) (D[first + 2 * root + 2]!)) ?_
          rintro _ h3 ⟨rfl, hx⟩
          replace hC := hC.ext hx
          replace hM := hM.ext hx
          replace hG := hG.ext hx
          replace hO := hO.ext hx
          have hxs := hx.size
          refine HM.val (v := .bool (decide ((bef m (D[first + root]!) (D[first + 2 * root + 2]!)) < 0))) rfl rfl (want_none) rfl (fun _ ⟨hC, hM, hG, hO⟩ => q_lss rfl rfl) ?_
          refine HM.val (v := .bool (!(decide ((bef m (D[first + root]!) (D[first + 2 * root + 2]!)) < 0)))) rfl rfl (want_none) rfl (fun _ ⟨hC, hM, hG, hO⟩ => q_not rfl) ?_
          refine HM.nil ⟨⟨hC, hM, hG, hO⟩, Go.HL.at_nil _ _⟩ (thenQ_normal (?_))
          refine HW.cond (!(decide ((bef m (D[first + root]!) (D[first + 2 * root + 2]!)) < 0))) rfl (fun c4 => ?_) (fun c4 => ?_)
          · have c4p : ¬ ((bef m (D[first + root]!) (D[first + 2 * root + 2]!)) < 0) := by simpa using c4
            refine HW.ret (thenQ_ret (blockQ_ret (thenQ_ret (blockQ_ret (?_)))))
            refine ⟨.inr rfl, .tuple #[], res_none rfl, ?_⟩
            have hT2 := sift_r_stop (hi := hi) (first := first) (root := root) (d := D) (lt := (ltOf' (bef m))) (x := first + 2 * root + 1) (y := first + 2 * root + 2) (r := first + root) (by omega) (by omega) (by omega) (by omega) (by omega) c3 (decide_eq_false c4p)
            rw [hT] at hT2
            exact ⟨rfl, by rw [hT2]; exact hO, hG, hC, hM⟩
          · have c4p : ((bef m (D[first + root]!) (D[first + 2 * root + 2]!)) < 0) := by simpa using c4
            have hV : IsSl v _ := hO.slice.shape (List.length_pos_iff.1 (by omega))
            refine HW.skip (thenQ_normal (?_))
            refine HW.seq ?_
            refine HW.regionD 24 mixed (fun h => (Blk h c (.cells #[.map (some r)] 159 (0, 0))) ∧ (MapIs h r kI kI m) ∧ (Grown h0 h v v)) [(21, fun h => OwnIs h B 3 1 encI v D.toList)] [(0, true), (1, true), (2, true), (3, true), (4, true), (5, true), (6, true), (7, true), (8, true), (9, true), (10, true), (11, true), (12, true), (13, true), (14, true), (15, true), (16, true), (17, true), (18, true), (19, true), (20, true), (21, false), (22, true), (23, false)] (by kernel_rfl) ?_
            refine HM.val (v := v) rfl rfl (want_none) rfl (fun _ ⟨hC, hM, hG⟩ => q_move rfl) ?_
            refine HM.val (v := .int .i64 ((first : Nat) : Int)) rfl rfl (want_none) rfl (fun _ ⟨hC, hM, hG⟩ => q_move rfl) ?_
            refine HM.val (v := .int .i64 ((root : Nat) : Int)) rfl rfl (want_none) rfl (fun _ ⟨hC, hM, hG⟩ => q_move rfl) ?_
            refine HM.val (v := .int .i64 ((first + root : Nat) : Int)) rfl rfl (want_none) rfl (fun _ ⟨hC, hM, hG⟩ => q_addN ((first + root : Nat) : Int) rfl rfl (by omega) (by omega) (by omega)) ?_
            refine HM.val (v := v) rfl rfl (want_none) rfl (fun _ ⟨hC, hM, hG⟩ => q_move rfl) ?_
            refine HM.val (v := .int .i64 ((first : Nat) : Int)) rfl rfl (want_none) rfl (fun _ ⟨hC, hM, hG⟩ => q_move rfl) ?_
            refine HM.val (v := .int .i64 ((2 * root + 2 : Nat) : Int)) rfl rfl (want_none) rfl (fun _ ⟨hC, hM, hG⟩ => q_move rfl) ?_
            refine HM.val (v := .int .i64 ((first + 2 * root + 2 : Nat) : Int)) rfl rfl (want_none) rfl (fun _ ⟨hC, hM, hG⟩ => q_addN ((first + 2 * root + 2 : Nat) : Int) rfl rfl (by omega) (by omega) (by omega)) ?_
            refine HM.val (v := v) rfl rfl (want_none) rfl (fun _ ⟨hC, hM, hG⟩ => q_move rfl) ?_
            refine HM.val (v := .int .i64 ((first : Nat) : Int)) rfl rfl (want_none) rfl (fun _ ⟨hC, hM, hG⟩ => q_move rfl) ?_
            refine HM.val (v := .int .i64 ((2 * root + 2 : Nat) : Int)) rfl rfl (want_none) rfl (fun _ ⟨hC, hM, hG⟩ => q_move rfl) ?_
            refine HM.val (v := .int .i64 ((first + 2 * root + 2 : Nat) : Int)) rfl rfl (want_none) rfl (fun _ ⟨hC, hM, hG⟩ => q_addN ((first + 2 * root + 2 : Nat) : Int) rfl rfl (by omega) (by omega) (by omega)) ?_
            refine HM.val (v := elemPtr 1 v (first + 2 * root + 2)) rfl rfl (want_none) rfl (fun _ ⟨hC, hM, hG⟩ => q_indexAddrV (i := first + 2 * root + 2) ts_22 hV rfl rfl (by omega)) ?_
            refine HM.valT (v := .int .i64 (D[first + 2 * root + 2]!)) 21 (fun h => OwnIs h B 3 1 encI v D.toList) rfl rfl (want_none) rfl (by simp) (by kernel_rfl) (fun _ _ hO => q_loadElemQ to_3 hO.slice rfl (getE (by omega)) rfl) ?_
            refine HM.val (v := v) rfl rfl (want_none) rfl (fun _ ⟨hC, hM, hG⟩ => q_move rfl) ?_
            refine HM.val (v := .int .i64 ((first : Nat) : Int)) rfl rfl (want_none) rfl (fun _ ⟨hC, hM, hG⟩ => q_move rfl) ?_
            refine HM.val (v := .int .i64 ((root : Nat) : Int)) rfl rfl (want_none) rfl (fun _ ⟨hC, hM, hG⟩ => q_move rfl) ?_
            refine HM.val (v := .int .i64 ((first + root : Nat) : Int)) rfl rfl (want_none) rfl (fun _ ⟨hC, hM, hG⟩ => q_addN ((first + root : Nat) : Int) rfl rfl (by omega) (by omega) (by omega)) ?_
            refine HM.val (v := elemPtr 1 v (first + root)) rfl rfl (want_none) rfl (fun _ ⟨hC, hM, hG⟩ => q_indexAddrV (i := first + root) ts_22 hV rfl rfl (by omega)) ?_
            refine HM.valT (v := .int .i64 (D[first + root]!)) 21 (fun h => OwnIs h B 3 1 encI v D.toList) rfl rfl (want_none) rfl (by simp) (by kernel_rfl) (fun _ _ hO => q_loadElemQ to_3 hO.slice rfl (getE (by omega)) rfl) ?_
            refine HM.val (v := elemPtr 1 v (first + root)) rfl rfl (want_none) rfl (fun _ ⟨hC, hM, hG⟩ => q_indexAddrV (i := first + root) ts_22 hV rfl rfl (by omega)) ?_
            refine HM.sto ⟨⟨hC, hM, hG⟩, by intro c hc hl; obtain rfl := List.mem_singleton.1 hc; first | exact absurd hl (by dsimp only; decide) | exact hO⟩ rfl (want_none) rfl (s_storeElem (a := D[first + 2 * root + 2]!) to_3 hO rfl (by first | omega | (simp only [List.length_set]; omega) | (simp; omega)) rfl rfl rfl rfl) ?_
            rintro h4 ⟨hO', hg⟩
            replace hC := hC.grown hg hvc
            replace hM := hM.grown hg hvr
            replace hG := hG.trans hg
            replace hO := hO'
            have hgs := hg.size; clear hg
            refine HM.val (v := elemPtr 1 v (first + 2 * root + 2)) rfl rfl (want_none) rfl (fun _ ⟨hC, hM, hG⟩ => q_indexAddrV (i := first + 2 * root + 2) ts_22 hV rfl rfl (by omega)) ?_
            refine HM.sto ⟨⟨hC, hM, hG⟩, by intro c hc hl; obtain rfl := List.mem_singleton.1 hc; first | exact absurd hl (by dsimp only; decide) | exact hO⟩ rfl (want_none) rfl (s_storeElem (a := D[first + root]!) to_3 hO rfl (by first | omega | (simp only [List.length_set]; omega) | (simp; omega)) rfl rfl rfl rfl) ?_
            rintro h5 ⟨hO', hg⟩
            replace hC := hC.grown hg hvc
            replace hM := hM.grown hg hvr
            replace hG := hG.trans hg
            replace hO := hO'
            have hgs := hg.size; clear hg
            refine HM.nil ⟨⟨hC, hM, hG⟩, by intro c hc hl; obtain rfl := List.mem_singleton.1 hc; first | exact absurd hl (by dsimp only; decide) | exact hO⟩ (thenQ_normal (?_))
            refine HW.region ?_
            refine HO.val (v := .int .i64 ((2 * root + 2 : Nat) : Int)) (want_none) rfl (q_move rfl) ?_
            refine HO.val (v := .int .i64 ((2 * root + 2 : Nat) : Int)) (want_none) rfl (q_assign rfl) ?_
            refine HO.nil (blockQ_normal (thenQ_normal (?_)))
            refine ⟨(swp D (first + root) (first + 2 * root + 2), 2 * root + 2), ⟨rfl, rfl, rfl, rfl, rfl, ?_, ?_, ?_, ?_, ?_, ?_, ?_⟩, ?_⟩
            · exact hC
            · exact hM
            · exact hG
            · rw [swpL] at hO; exact hO
            · exact (sift_r_go (hi := hi) (first := first) (root := root) (d := D) (lt := (ltOf' (bef m))) (x := first + 2 * root + 1) (y := first + 2 * root + 2) (r := first + root) (by omega) (by omega) (by omega) (by omega) (by omega) c3 (decide_eq_true c4p)).trans hT
            · rw [swp_len]; exact hD
            · omega
            · dsimp only; omega
        · have c3p := of_decide_eq_false c3
          refine HW.skip (thenQ_normal (?_))
          refine HW.seq ?_
          refine HW.seq ?_
          refine HW.regionD 16 mixed (fun h => (Blk h c (.cells #[.map (some r)] 159 (0, 0))) ∧ (MapIs h r kI kI m) ∧ (Grown h0 h v v) ∧ (OwnIs h B 3 1 encI v D.toList)) [] [(0, true), (1, true), (2, true), (3, true), (4, true), (5, true), (6, true), (7, true), (8, true), (9, true), (10, true), (11, true), (12, true), (13, false), (14, true), (15, true)] (by kernel_rfl) ?_
          refine HM.val (v := .func (.func 130) #[.pointer (some ⟨c, 0, none⟩)] #[]) rfl rfl (want_none) rfl (fun _ ⟨hC, hM, hG, hO⟩ => q_move rfl) ?_
          refine HM.val (v := v) rfl rfl (want_none) rfl (fun _ ⟨hC, hM, hG, hO⟩ => q_move rfl) ?_
          refine HM.val (v := .int .i64 ((first : Nat) : Int)) rfl rfl (want_none) rfl (fun _ ⟨hC, hM, hG, hO⟩ => q_move rfl) ?_
          refine HM.val (v := .int .i64 ((root : Nat) : Int)) rfl rfl (want_none) rfl (fun _ ⟨hC, hM, hG, hO⟩ => q_move rfl) ?_
          refine HM.val (v := .int .i64 ((first + root : Nat) : Int)) rfl rfl (want_none) rfl (fun _ ⟨hC, hM, hG, hO⟩ => q_addN ((first + root : Nat) : Int) rfl rfl (by omega) (by omega) (by omega)) ?_
          refine HM.val (v := elemPtr 1 v (first + root)) rfl rfl (want_none) rfl (fun _ ⟨hC, hM, hG, hO⟩ => q_indexAddr (i := first + root) ts_22 hO.slice rfl rfl (by omega)) ?_
          refine HM.val (v := .int .i64 (D[first + root]!)) rfl rfl (want_none) rfl (fun _ ⟨hC, hM, hG, hO⟩ => q_loadElemQ to_3 hO.slice rfl (getE (by omega)) rfl) ?_
          refine HM.val (v := v) rfl rfl (want_none) rfl (fun _ ⟨hC, hM, hG, hO⟩ => q_move rfl) ?_
          refine HM.val (v := .int .i64 ((first : Nat) : Int)) rfl rfl (want_none) rfl (fun _ ⟨hC, hM, hG, hO⟩ => q_move rfl) ?_
          refine HM.val (v := .int .i64 ((2 * root + 1 : Nat) : Int)) rfl rfl (want_none) rfl (fun _ ⟨hC, hM, hG, hO⟩ => q_move rfl) ?_
          refine HM.val (v := .int .i64 ((first + 2 * root + 1 : Nat) : Int)) rfl rfl (want_none) rfl (fun _ ⟨hC, hM, hG, hO⟩ => q_addN ((first + 2 * root + 1 : Nat) : Int) rfl rfl (by omega) (by omega) (by omega)) ?_
          refine HM.val (v := elemPtr 1 v (first + 2 * root + 1)) rfl rfl (want_none) rfl (fun _ ⟨hC, hM, hG, hO⟩ => q_indexAddr (i := first + 2 * root + 1) ts_22 hO.slice rfl rfl (by omega)) ?_
          refine HM.val (v := .int .i64 (D[first + 2 * root + 1]!)) rfl rfl (want_none) rfl (fun _ ⟨hC, hM, hG, hO⟩ => q_loadElemQ to_3 hO.slice rfl (getE (by omega)) rfl) ?_
          refine HM.call ⟨⟨hC, hM, hG, hO⟩, Go.HL.at_nil _ _⟩ rfl (want_none) rfl (ec en_130 rfl rfl) (before_spec' c r m _ hC hM (D[first + root]!) (D[first + 2 * root + 1]!)) ?_
          rintro _ h6 ⟨rfl, hx⟩
          replace hC := hC.ext hx
          replace hM := hM.ext hx
          replace hG := hG.ext hx
          replace hO := hO.ext hx
          have hxs := hx.size
          refine HM.val (v := .bool (decide ((bef m (D[first + root]!) (D[first + 2 * root + 1]!)) < 0))) rfl rfl (want_none) rfl (fun _ ⟨hC, hM, hG, hO⟩ => q_lss rfl rfl) ?_
          refine HM.val (v := .bool (!(decide ((bef m (D[first + root]!) (D[first + 2 * root + 1]!)) < 0)))) rfl rfl (want_none) rfl (fun _ ⟨hC, hM, hG, hO⟩ => q_not rfl) ?_
          refine HM.nil ⟨⟨hC, hM, hG, hO⟩, Go.HL.at_nil _ _⟩ (thenQ_normal (?_))
          refine HW.cond (!(decide ((bef m (D[first + root]!) (D[first + 2 * root + 1]!)) < 0))) rfl (fun c5 => ?_) (fun c5 => ?_)
          · have c5p : ¬ ((bef m (D[first + root]!) (D[first + 2 * root + 1]!)) < 0) := by simpa using c5
            refine HW.ret (thenQ_ret (blockQ_ret (thenQ_ret (blockQ_ret (?_)))))
            refine ⟨.inr rfl, .tuple #[], res_none rfl, ?_⟩
            have hT2 := sift_l_stop (hi := hi) (first := first) (root := root) (d := D) (lt := (ltOf' (bef m))) (x := first + 2 * root + 1) (y := first + 2 * root + 2) (r := first + root) (by omega) (by omega) (by omega) (by omega) (by rintro ⟨_, h⟩; exact absurd (h.symm.trans c3) (by decide)) (decide_eq_false c5p)
            rw [hT] at hT2
            exact ⟨rfl, by rw [hT2]; exact hO, hG, hC, hM⟩
          · have c5p : ((bef m (D[first + root]!) (D[first + 2 * root + 1]!)) < 0) := by simpa using c5
            have hV : IsSl v _ := hO.slice.shape (List.length_pos_iff.1 (by omega))
            refine HW.skip (thenQ_normal (?_))
            refine HW.seq ?_
            refine HW.regionD 24 mixed (fun h => (Blk h c (.cells #[.map (some r)] 159 (0, 0))) ∧ (MapIs h r kI kI m) ∧ (Grown h0 h v v)) [(21, fun h => OwnIs h B 3 1 encI v D.toList)] [(0, true), (1, true), (2, true), (3, true), (4, true), (5, true), (6, true), (7, true), (8, true), (9, true), (10, true), (11, true), (12, true), (13, true), (14, true), (15, true), (16, true), (17, true), (18, true), (19, true), (20, true), (21, false), (22, true), (23, false)] (by kernel_rfl) ?_
            refine HM.val (v := v) rfl rfl (want_none) rfl (fun _ ⟨hC, hM, hG⟩ => q_move rfl) ?_
            refine HM.val (v := .int .i64 ((first : Nat) : Int)) rfl rfl (want_none) rfl (fun _ ⟨hC, hM, hG⟩ => q_move rfl) ?_
            refine HM.val (v := .int .i64 ((root : Nat) : Int)) rfl rfl (want_none) rfl (fun _ ⟨hC, hM, hG⟩ => q_move rfl) ?_
            refine HM.val (v := .int .i64 ((first + root : Nat) : Int)) rfl rfl (want_none) rfl (fun _ ⟨hC, hM, hG⟩ => q_addN ((first + root : Nat) : Int) rfl rfl (by omega) (by omega) (by omega)) ?_
            refine HM.val (v := v) rfl rfl (want_none) rfl (fun _ ⟨hC, hM, hG⟩ => q_move rfl) ?_
            refine HM.val (v := .int .i64 ((first : Nat) : Int)) rfl rfl (want_none) rfl (fun _ ⟨hC, hM, hG⟩ => q_move rfl) ?_
            refine HM.val (v := .int .i64 ((2 * root + 1 : Nat) : Int)) rfl rfl (want_none) rfl (fun _ ⟨hC, hM, hG⟩ => q_move rfl) ?_
            refine HM.val (v := .int .i64 ((first + 2 * root + 1 : Nat) : Int)) rfl rfl (want_none) rfl (fun _ ⟨hC, hM, hG⟩ => q_addN ((first + 2 * root + 1 : Nat) : Int) rfl rfl (by omega) (by omega) (by omega)) ?_
            refine HM.val (v := v) rfl rfl (want_none) rfl (fun _ ⟨hC, hM, hG⟩ => q_move rfl) ?_
            refine HM.val (v := .int .i64 ((first : Nat) : Int)) rfl rfl (want_none) rfl (fun _ ⟨hC, hM, hG⟩ => q_move rfl) ?_
            refine HM.val (v := .int .i64 ((2 * root + 1 : Nat) : Int)) rfl rfl (want_none) rfl (fun _ ⟨hC, hM, hG⟩ => q_move rfl) ?_
            refine HM.val (v := .int .i64 ((first + 2 * root + 1 : Nat) : Int)) rfl rfl (want_none) rfl (fun _ ⟨hC, hM, hG⟩ => q_addN ((first + 2 * root + 1 : Nat) : Int) rfl rfl (by omega) (by omega) (by omega)) ?_
            refine HM.val (v := elemPtr 1 v (first + 2 * root + 1)) rfl rfl (want_none) rfl (fun _ ⟨hC, hM, hG⟩ => q_indexAddrV (i := first + 2 * root + 1) ts_22 hV rfl rfl (by omega)) ?_
            refine HM.valT (v := .int .i64 (D[first + 2 * root + 1]!)) 21 (fun h => OwnIs h B 3 1 encI v D.toList) rfl rfl (want_none) rfl (by simp) (by kernel_rfl) (fun _ _ hO => q_loadElemQ to_3 hO.slice rfl (getE (by omega)) rfl) ?_
            refine HM.val (v := v) rfl rfl (want_none) rfl (fun _ ⟨hC, hM, hG⟩ => q_move rfl) ?_
            refine HM.val (v := .int .i64 ((first : Nat) : Int)) rfl rfl (want_none) rfl (fun _ ⟨hC, hM, hG⟩ => q_move rfl) ?_
            refine HM.val (v := .int .i64 ((root : Nat) : Int)) rfl rfl (want_none) rfl (fun _ ⟨hC, hM, hG⟩ => q_move rfl) ?_
            refine HM.val (v := .int .i64 ((first + root : Nat) : Int)) rfl rfl (want_none) rfl (fun _ ⟨hC, hM, hG⟩ => q_addN ((first + root : Nat) : Int) rfl rfl (by omega) (by omega) (by omega)) ?_
            refine HM.val (v := elemPtr 1 v (first + root)) rfl rfl (want_none) rfl (fun _ ⟨hC, hM, hG⟩ => q_indexAddrV (i := first + root) ts_22 hV rfl rfl (by omega)) ?_
            refine HM.valT (v := .int .i64 (D[first + root]!)) 21 (fun h => OwnIs h B 3 1 encI v D.toList) rfl rfl (want_none) rfl (by simp) (by kernel_rfl) (fun _ _ hO => q_loadElemQ to_3 hO.slice rfl (getE (by omega)) rfl) ?_
            refine HM.val (v := elemPtr 1 v (first + root)) rfl rfl (want_none) rfl (fun _ ⟨hC, hM, hG⟩ => q_indexAddrV (i := first + root) ts_22 hV rfl rfl (by omega)) ?_
            refine HM.sto ⟨⟨hC, hM, hG⟩, by intro c hc hl; obtain rfl := List.mem_singleton.1 hc; first | exact absurd hl (by dsimp only; decide) | exact hO⟩ rfl (want_none) rfl (s_storeElem (a := D[first + 2 * root + 1]!) to_3 hO rfl (by first | omega | (simp only [List.length_set]; omega) | (simp; omega)) rfl rfl rfl rfl) ?_
            rintro h7 ⟨hO', hg⟩
            replace hC := hC.grown hg hvc
            replace hM := hM.grown hg hvr
            replace hG := hG.trans hg
            replace hO := hO'
            have hgs := hg.size; clear hg
            refine HM.val (v := elemPtr 1 v (first + 2 * root + 1)) rfl rfl (want_none) rfl (fun _ ⟨hC, hM, hG⟩ => q_indexAddrV (i := first + 2 * root + 1) ts_22 hV rfl rfl (by omega)) ?_
            refine HM.sto ⟨⟨hC, hM, hG⟩, by intro c hc hl; obtain rfl := List.mem_singleton.1 hc; first | exact absurd hl (by dsimp only; decide) | exact hO⟩ rfl (want_none) rfl (s_storeElem (a := D[first + root]!) to_3 hO rfl (by first | omega | (simp only [List.length_set]; omega) | (simp; omega)) rfl rfl rfl rfl) ?_
            rintro h8 ⟨hO', hg⟩
            replace hC := hC.grown hg hvc
            replace hM := hM.grown hg hvr
            replace hG := hG.trans hg
            replace hO := hO'
            have hgs := hg.size; clear hg
            refine HM.nil ⟨⟨hC, hM, hG⟩, by intro c hc hl; obtain rfl := List.mem_singleton.1 hc; first | exact absurd hl (by dsimp only; decide) | exact hO⟩ (thenQ_normal (?_))
            refine HW.region ?_
            refine HO.val (v := .int .i64 ((2 * root + 1 : Nat) : Int)) (want_none) rfl (q_move rfl) ?_
            refine HO.val (v := .int .i64 ((2 * root + 1 : Nat) : Int)) (want_none) rfl (q_assign rfl) ?_
            refine HO.nil (blockQ_normal (thenQ_normal (?_)))
            refine ⟨(swp D (first + root) (first + 2 * root + 1), 2 * root + 1), ⟨rfl, rfl, rfl, rfl, rfl, ?_, ?_, ?_, ?_, ?_, ?_, ?_⟩, ?_⟩
            · exact hC
            · exact hM
            · exact hG
            · rw [swpL] at hO; exact hO
            · exact (sift_l_go (hi := hi) (first := first) (root := root) (d := D) (lt := (ltOf' (bef m))) (x := first + 2 * root + 1) (y := first + 2 * root + 2) (r := first + root) (by omega) (by omega) (by omega) (by omega) (by rintro ⟨_, h⟩; exact absurd (h.symm.trans c3) (by decide)) (decide_eq_true c5p)).trans hT
            · rw [swp_len]; exact hD
            · omega
            · dsimp only; omega
      · have g2p := of_decide_eq_false g2
        refine HM.past rfl rfl (past_by rfl rfl g2) rfl ?_
        refine HM.past rfl rfl (past_by rfl rfl g2) rfl ?_
        refine HM.past rfl rfl (past_by rfl rfl g2) rfl ?_
        refine HM.past rfl rfl (past_by rfl rfl g2) rfl ?_
        refine HM.past rfl rfl (past_by rfl rfl g2) rfl ?_
        refine HM.past rfl rfl (past_by rfl rfl g2) rfl ?_
        refine HM.past rfl rfl (past_by rfl rfl g2) rfl ?_
        refine HM.past rfl rfl (past_by rfl rfl g2) rfl ?_
        refine HM.past rfl rfl (past_by rfl rfl g2) rfl ?_
        refine HM.past rfl rfl (past_by rfl rfl g2) rfl ?_
        refine HM.past rfl rfl (past_by rfl rfl g2) rfl ?_
        refine HM.past rfl rfl (past_by rfl rfl g2) rfl ?_
        refine HM.past rfl rfl (past_by rfl rfl g2) rfl ?_
        refine HM.past rfl rfl (past_by rfl rfl g2) rfl ?_
        refine HM.pastF ⟨⟨hC, hM, hG, hO⟩, Go.HL.at_nil _ _⟩ rfl (past_by rfl rfl g2) rfl ?_
        refine HM.past rfl rfl (past_by rfl rfl g2) rfl ?_
        refine HM.val (v := .bool false) rfl rfl (want_none) rfl (fun _ ⟨hC, hM, hG, hO⟩ => q_pickK false rfl g2 rfl) ?_
        refine HM.nil ⟨⟨hC, hM, hG, hO⟩, Go.HL.at_nil _ _⟩ (thenQ_normal (?_))
        refine HW.condF rfl ?_
        refine HW.skip (thenQ_normal (?_))
        refine HW.seq ?_
        refine HW.seq ?_
        refine HW.regionD 16 mixed (fun h => (Blk h c (.cells #[.map (some r)] 159 (0, 0))) ∧ (MapIs h r kI kI m) ∧ (Grown h0 h v v) ∧ (OwnIs h B 3 1 encI v D.toList)) [] [(0, true), (1, true), (2, true), (3, true), (4, true), (5, true), (6, true), (7, true), (8, true), (9, true), (10, true), (11, true), (12, true), (13, false), (14, true), (15, true)] (by kernel_rfl) ?_
        refine HM.val (v := .func (.func 130) #[.pointer (some ⟨c, 0, none⟩)] #[]) rfl rfl (want_none) rfl (fun _ ⟨hC, hM, hG, hO⟩ => q_move rfl) ?_
        refine HM.val (v := v) rfl rfl (want_none) rfl (fun _ ⟨hC, hM, hG, hO⟩ => q_move rfl) ?_
        refine HM.val (v := .int .i64 ((first : Nat) : Int)) rfl rfl (want_none) rfl (fun _ ⟨hC, hM, hG, hO⟩ => q_move rfl) ?_
        refine HM.val (v := .int .i64 ((root : Nat) : Int)) rfl rfl (want_none) rfl (fun _ ⟨hC, hM, hG, hO⟩ => q_move rfl) ?_
        refine HM.val (v := .int .i64 ((first + root : Nat) : Int)) rfl rfl (want_none) rfl (fun _ ⟨hC, hM, hG, hO⟩ => q_addN ((first + root : Nat) : Int) rfl rfl (by omega) (by omega) (by omega)) ?_
        refine HM.val (v := elemPtr 1 v (first + root)) rfl rfl (want_none) rfl (fun _ ⟨hC, hM, hG, hO⟩ => q_indexAddr (i := first + root) ts_22 hO.slice rfl rfl (by omega)) ?_
        refine HM.val (v := .int .i64 (D[first + root]!)) rfl rfl (want_none) rfl (fun _ ⟨hC, hM, hG, hO⟩ => q_loadElemQ to_3 hO.slice rfl (getE (by omega)) rfl) ?_
        refine HM.val (v := v) rfl rfl (want_none) rfl (fun _ ⟨hC, hM, hG, hO⟩ => q_move rfl) ?_
        refine HM.val (v := .int .i64 ((first : Nat) : Int)) rfl rfl (want_none) rfl (fun _ ⟨hC, hM, hG, hO⟩ => q_move rfl) ?_
        refine HM.val (v := .int .i64 ((2 * root + 1 : Nat) : Int)) rfl rfl (want_none) rfl (fun _ ⟨hC, hM, hG, hO⟩ => q_move rfl) ?_
        refine HM.val (v := .int .i64 ((first + 2 * root + 1 : Nat) : Int)) rfl rfl (want_none) rfl (fun _ ⟨hC, hM, hG, hO⟩ => q_addN ((first + 2 * root + 1 : Nat) : Int) rfl rfl (by omega) (by omega) (by omega)) ?_
        refine HM.val (v := elemPtr 1 v (first + 2 * root + 1)) rfl rfl (want_none) rfl (fun _ ⟨hC, hM, hG, hO⟩ => q_indexAddr (i := first + 2 * root + 1) ts_22 hO.slice rfl rfl (by omega)) ?_
        refine HM.val (v := .int .i64 (D[first + 2 * root + 1]!)) rfl rfl (want_none) rfl (fun _ ⟨hC, hM, hG, hO⟩ => q_loadElemQ to_3 hO.slice rfl (getE (by omega)) rfl) ?_
        refine HM.call ⟨⟨hC, hM, hG, hO⟩, Go.HL.at_nil _ _⟩ rfl (want_none) rfl (ec en_130 rfl rfl) (before_spec' c r m _ hC hM (D[first + root]!) (D[first + 2 * root + 1]!)) ?_
        rintro _ h9 ⟨rfl, hx⟩
        replace hC := hC.ext hx
        replace hM := hM.ext hx
        replace hG := hG.ext hx
        replace hO := hO.ext hx
        have hxs := hx.size
        refine HM.val (v := .bool (decide ((bef m (D[first + root]!) (D[first + 2 * root + 1]!)) < 0))) rfl rfl (want_none) rfl (fun _ ⟨hC, hM, hG, hO⟩ => q_lss rfl rfl) ?_
        refine HM.val (v := .bool (!(decide ((bef m (D[first + root]!) (D[first + 2 * root + 1]!)) < 0)))) rfl rfl (want_none) rfl (fun _ ⟨hC, hM, hG, hO⟩ => q_not rfl) ?_
        refine HM.nil ⟨⟨hC, hM, hG, hO⟩, Go.HL.at_nil _ _⟩ (thenQ_normal (?_))
        refine HW.cond (!(decide ((bef m (D[first + root]!) (D[first + 2 * root + 1]!)) < 0))) rfl (fun c6 => ?_) (fun c6 => ?_)
        · have c6p : ¬ ((bef m (D[first + root]!) (D[first + 2 * root + 1]!)) < 0) := by simpa using c6
          refine HW.ret (thenQ_ret (blockQ_ret (thenQ_ret (blockQ_ret (?_)))))
          refine ⟨.inr rfl, .tuple #[], res_none rfl, ?_⟩
          have hT2 := sift_l_stop (hi := hi) (first := first) (root := root) (d := D) (lt := (ltOf' (bef m))) (x := first + 2 * root + 1) (y := first + 2 * root + 2) (r := first + root) (by omega) (by omega) (by omega) (by omega) (by rintro ⟨h, _⟩; omega) (decide_eq_false c6p)
          rw [hT] at hT2
          exact ⟨rfl, by rw [hT2]; exact hO, hG, hC, hM⟩
        · have c6p : ((bef m (D[first + root]!) (D[first + 2 * root + 1]!)) < 0) := by simpa using c6
          have hV : IsSl v _ := hO.slice.shape (List.length_pos_iff.1 (by omega))
          refine HW.skip (thenQ_normal (?_))
          refine HW.seq ?_
          refine HW.regionD 24 mixed (fun h => (Blk h c (.cells #[.map (some r)] 159 (0, 0))) ∧ (MapIs h r kI kI m) ∧ (Grown h0 h v v)) [(21, fun h => OwnIs h B 3 1 encI v D.toList)] [(0, true), (1, true), (2, true), (3, true), (4, true), (5, true), (6, true), (7, true), (8, true), (9, true), (10, true), (11, true), (12, true), (13, true), (14, true), (15, true), (16, true), (17, true), (18, true), (19, true), (20, true), (21, false), (22, true), (23, false)] (by kernel_rfl) ?_
          refine HM.val (v := v) rfl rfl (want_none) rfl (fun _ ⟨hC, hM, hG⟩ => q_move rfl) ?_
          refine HM.val (v := .int .i64 ((first : Nat) : Int)) rfl rfl (want_none) rfl (fun _ ⟨hC, hM, hG⟩ => q_move rfl) ?_
          refine HM.val (v := .int .i64 ((root : Nat) : Int)) rfl rfl (want_none) rfl (fun _ ⟨hC, hM, hG⟩ => q_move rfl) ?_
          refine HM.val (v := .int .i64 ((first + root : Nat) : Int)) rfl rfl (want_none) rfl (fun _ ⟨hC, hM, hG⟩ => q_addN ((first + root : Nat) : Int) rfl rfl (by omega) (by omega) (by omega)) ?_
          refine HM.val (v := v) rfl rfl (want_none) rfl (fun _ ⟨hC, hM, hG⟩ => q_move rfl) ?_
          refine HM.val (v := .int .i64 ((first : Nat) : Int)) rfl rfl (want_none) rfl (fun _ ⟨hC, hM, hG⟩ => q_move rfl) ?_
          refine HM.val (v := .int .i64 ((2 * root + 1 : Nat) : Int)) rfl rfl (want_none) rfl (fun _ ⟨hC, hM, hG⟩ => q_move rfl) ?_
          refine HM.val (v := .int .i64 ((first + 2 * root + 1 : Nat) : Int)) rfl rfl (want_none) rfl (fun _ ⟨hC, hM, hG⟩ => q_addN ((first + 2 * root + 1 : Nat) : Int) rfl rfl (by omega) (by omega) (by omega)) ?_
          refine HM.val (v := v) rfl rfl (want_none) rfl (fun _ ⟨hC, hM, hG⟩ => q_move rfl) ?_
          refine HM.val (v := .int .i64 ((first : Nat) : Int)) rfl rfl (want_none) rfl (fun _ ⟨hC, hM, hG⟩ => q_move rfl) ?_
          refine HM.val (v := .int .i64 ((2 * root + 1 : Nat) : Int)) rfl rfl (want_none) rfl (fun _ ⟨hC, hM, hG⟩ => q_move rfl) ?_
          refine HM.val (v := .int .i64 ((first + 2 * root + 1 : Nat) : Int)) rfl rfl (want_none) rfl (fun _ ⟨hC, hM, hG⟩ => q_addN ((first + 2 * root + 1 : Nat) : Int) rfl rfl (by omega) (by omega) (by omega)) ?_
          refine HM.val (v := elemPtr 1 v (first + 2 * root + 1)) rfl rfl (want_none) rfl (fun _ ⟨hC, hM, hG⟩ => q_indexAddrV (i := first + 2 * root + 1) ts_22 hV rfl rfl (by omega)) ?_
          refine HM.valT (v := .int .i64 (D[first + 2 * root + 1]!)) 21 (fun h => OwnIs h B 3 1 encI v D.toList) rfl rfl (want_none) rfl (by simp) (by kernel_rfl) (fun _ _ hO => q_loadElemQ to_3 hO.slice rfl (getE (by omega)) rfl) ?_
          refine HM.val (v := v) rfl rfl (want_none) rfl (fun _ ⟨hC, hM, hG⟩ => q_move rfl) ?_
          refine HM.val (v := .int .i64 ((first : Nat) : Int)) rfl rfl (want_none) rfl (fun _ ⟨hC, hM, hG⟩ => q_move rfl) ?_
          refine HM.val (v := .int .i64 ((root : Nat) : Int)) rfl rfl (want_none) rfl (fun _ ⟨hC, hM, hG⟩ => q_move rfl) ?_
          refine HM.val (v := .int .i64 ((first + root : Nat) : Int)) rfl rfl (want_none) rfl (fun _ ⟨hC, hM, hG⟩ => q_addN ((first + root : Nat) : Int) rfl rfl (by omega) (by omega) (by omega)) ?_
          refine HM.val (v := elemPtr 1 v (first + root)) rfl rfl (want_none) rfl (fun _ ⟨hC, hM, hG⟩ => q_indexAddrV (i := first + root) ts_22 hV rfl rfl (by omega)) ?_
          refine HM.valT (v := .int .i64 (D[first + root]!)) 21 (fun h => OwnIs h B 3 1 encI v D.toList) rfl rfl (want_none) rfl (by simp) (by kernel_rfl) (fun _ _ hO => q_loadElemQ to_3 hO.slice rfl (getE (by omega)) rfl) ?_
          refine HM.val (v := elemPtr 1 v (first + root)) rfl rfl (want_none) rfl (fun _ ⟨hC, hM, hG⟩ => q_indexAddrV (i := first + root) ts_22 hV rfl rfl (by omega)) ?_
          refine HM.sto ⟨⟨hC, hM, hG⟩, by intro c hc hl; obtain rfl := List.mem_singleton.1 hc; first | exact absurd hl (by dsimp only; decide) | exact hO⟩ rfl (want_none) rfl (s_storeElem (a := D[first + 2 * root + 1]!) to_3 hO rfl (by first | omega | (simp only [List.length_set]; omega) | (simp; omega)) rfl rfl rfl rfl) ?_
          rintro h10 ⟨hO', hg⟩
          replace hC := hC.grown hg hvc
          replace hM := hM.grown hg hvr
          replace hG := hG.trans hg
          replace hO := hO'
          have hgs := hg.size; clear hg
          refine HM.val (v := elemPtr 1 v (first + 2 * root + 1)) rfl rfl (want_none) rfl (fun _ ⟨hC, hM, hG⟩ => q_indexAddrV (i := first + 2 * root + 1) ts_22 hV rfl rfl (by omega)) ?_
          refine HM.sto ⟨⟨hC, hM, hG⟩, by intro c hc hl; obtain rfl := List.mem_singleton.1 hc; first | exact absurd hl (by dsimp only; decide) | exact hO⟩ rfl (want_none) rfl (s_storeElem (a := D[first + root]!) to_3 hO rfl (by first | omega | (simp only [List.length_set]; omega) | (simp; omega)) rfl rfl rfl rfl) ?_
          rintro h11 ⟨hO', hg⟩
          replace hC := hC.grown hg hvc
          replace hM := hM.grown hg hvr
          replace hG := hG.trans hg
          replace hO := hO'
          have hgs := hg.size; clear hg
          refine HM.nil ⟨⟨hC, hM, hG⟩, by intro c hc hl; obtain rfl := List.mem_singleton.1 hc; first | exact absurd hl (by dsimp only; decide) | exact hO⟩ (thenQ_normal (?_))
          refine HW.region ?_
          refine HO.val (v := .int .i64 ((2 * root + 1 : Nat) : Int)) (want_none) rfl (q_move rfl) ?_
          refine HO.val (v := .int .i64 ((2 * root + 1 : Nat) : Int)) (want_none) rfl (q_assign rfl) ?_
          refine HO.nil (blockQ_normal (thenQ_normal (?_)))
          refine ⟨(swp D (first + root) (first + 2 * root + 1), 2 * root + 1), ⟨rfl, rfl, rfl, rfl, rfl, ?_, ?_, ?_, ?_, ?_, ?_, ?_⟩, ?_⟩
          · exact hC
          · exact hM
          · exact hG
          · rw [swpL] at hO; exact hO
          · exact (sift_l_go (hi := hi) (first := first) (root := root) (d := D) (lt := (ltOf' (bef m))) (x := first + 2 * root + 1) (y := first + 2 * root + 2) (r := first + root) (by omega) (by omega) (by omega) (by omega) (by rintro ⟨h, _⟩; omega) (decide_eq_true c6p)).trans hT
          · rw [swp_len]; exact hD
          · omega
          · dsimp only; omega

theorem sift_at (c r : Nat) (m : List (Int × Int)) (B n : Nat) (v : Value) (d : Array Int) (h0 : Heap) (hC : Blk h0 c (.cells #[.map (some r)] 159 (0, 0))) (hM : MapIs h0 r kI kI m) (hO : OwnIs h0 B 3 1 encI v d.toList) (hvc : blockOf v ≠ some c) (hvr : blockOf v ≠ some r) (hd : d.toList.length = n) (hn : n ≤ 2305843009213693952) (lo hi first : Nat) (x y z : Int) (hx : x = (lo : Int)) (hy : y = (hi : Int)) (hz : z = (first : Int)) (hlo : lo ≤ hi) (hhi : first + hi ≤ n) :
    HC Try.prog 207 #[v, .int .i64 x, .int .i64 y, .int .i64 z, .func (.func 130) #[.pointer (some ⟨c, 0, none⟩)] #[]] h0 fun u h' => u = .tuple #[] ∧ OwnIs h' B 3 1 encI v (siftDown (ltOf' (bef m)) hi first lo d).toList ∧ Grown h0 h' v v ∧ Blk h' c (.cells #[.map (some r)] 159 (0, 0)) ∧ MapIs h' r kI kI m := by
  subst hx; subst hy; subst hz; exact sift_spec c r m B n v d h0 hC hM hO hvc hvr hd hn lo hi first hlo hhi

theorem build_go {lt : Int → Int → Bool} {hi first : Nat} {d : Array Int} (k : Nat) : heapBuild lt hi first k (siftDown lt hi first k d) = heapBuild lt hi first (k + 1) d := rfl
theorem pop_go {lt : Int → Int → Bool} {first : Nat} {d : Array Int} (k : Nat) : heapPop lt first k (siftDown lt k first 0 (swp d first (first + k))) = heapPop lt first (k + 1) d := rfl

set_option maxRecDepth 100000 in
theorem heap_spec (c r : Nat) (m : List (Int × Int)) (B n : Nat) (v : Value) (d : Array Int) (h0 : Heap) (hC : Blk h0 c (.cells #[.map (some r)] 159 (0, 0))) (hM : MapIs h0 r kI kI m) (hO : OwnIs h0 B 3 1 encI v d.toList) (hvc : blockOf v ≠ some c) (hvr : blockOf v ≠ some r) (hd : d.toList.length = n) (hn : n ≤ 2305843009213693952) (a b : Nat) (hab : a < b) (hb : b ≤ n) :
    HC Try.prog 190 #[v, .int .i64 ((a : Nat) : Int), .int .i64 ((b : Nat) : Int), .func (.func 130) #[.pointer (some ⟨c, 0, none⟩)] #[]] h0 fun u h' => u = .tuple #[] ∧ OwnIs h' B 3 1 encI v (heapSort (ltOf' (bef m)) d a b).toList ∧ Grown h0 h' v v ∧ Blk h' c (.cells #[.map (some r)] 159 (0, 0)) ∧ MapIs h' r kI kI m := by
  refine HC.of_HW (n := 60) Try.func190 rfl rfl (Nat.le_of_ble_eq_true rfl) ?_
  have hG := Grown.refl h0 v
  refine HW.seq ?_
  refine HW.region ?_
  refine HO.val (v := .int .i64 ((a : Nat) : Int)) (want_none) rfl (q_move rfl) ?_
  refine HO.val (v := .int .i64 ((a : Nat) : Int)) (want_none) rfl (q_assign rfl) ?_
  refine HO.nil (thenQ_normal (?_))
  refine HW.seq ?_
  refine HW.region ?_
  refine HO.val (v := .int .i64 0) (want_none) rfl (q_assign rfl) ?_
  refine HO.nil (thenQ_normal (?_))
  refine HW.seq ?_
  refine HW.region ?_
  refine HO.val (v := .int .i64 ((b : Nat) : Int)) (want_none) rfl (q_move rfl) ?_
  refine HO.val (v := .int .i64 ((a : Nat) : Int)) (want_none) rfl (q_move rfl) ?_
  refine HO.val (v := .int .i64 ((b - a : Nat) : Int)) (want_none) rfl (q_subN ((b - a : Nat) : Int) rfl rfl (by omega) (by omega) (by omega)) ?_
  refine HO.val (v := .int .i64 ((b - a : Nat) : Int)) (want_none) rfl (q_assign rfl) ?_
  refine HO.nil (thenQ_normal (?_))
  refine HW.seq ?_
  refine HW.seq ?_
  refine HW.region ?_
  refine HO.val (v := .int .i64 ((b - a : Nat) : Int)) (want_none) rfl (q_move rfl) ?_
  refine HO.val (v := .int .i64 ((b - a - 1 : Nat) : Int)) (want_none) rfl (q_subN ((b - a - 1 : Nat) : Int) rfl rfl (by omega) (by omega) (by omega)) ?_
  refine HO.val (v := .int .i64 (((b - a - 1) / 2 : Nat) : Int)) (want_none) rfl (q_quoN _ rfl rfl (by decide) (by rw [Int.tdiv_eq_ediv_of_nonneg (by omega)]; omega) (by omega) (by omega)) ?_
  refine HO.val (v := .int .i64 (((b - a - 1) / 2 : Nat) : Int)) (want_none) rfl (q_assign rfl) ?_
  refine HO.nil (thenQ_normal (?_))
  refine HW.block ?_
  refine HW.loop (S := Array Int × Int) (fun s f h => match s with | (D, i) => f 0 = v ∧ f 3 = .func (.func 130) #[.pointer (some ⟨c, 0, none⟩)] #[] ∧ f 8 = .int .i64 ((a : Nat) : Int) ∧ f 9 = .int .i64 0 ∧ f 10 = .int .i64 ((b - a : Nat) : Int) ∧ f 11 = .int .i64 i ∧ (Blk h c (.cells #[.map (some r)] 159 (0, 0))) ∧ (MapIs h r kI kI m) ∧ (Grown h0 h v v) ∧ (OwnIs h B 3 1 encI v D.toList) ∧ (heapBuild (ltOf' (bef m)) (b - a) a (i + 1).toNat D = heapBuild (ltOf' (bef m)) (b - a) a ((b - a - 1) / 2 + 1) d) ∧ (D.toList.length = n) ∧ (-1 ≤ i ∧ 2 * i ≤ ((b - a : Nat) : Int))) (fun s => match s with | (D, i) => (i + 1).toNat) (d, (((b - a - 1) / 2 : Nat) : Int)) ?_ ?_
  · refine ⟨rfl, rfl, rfl, rfl, rfl, rfl, ?_, ?_, ?_, ?_, ?_, ?_, ?_⟩
    · exact hC
    · exact hM
    · exact hG
    · exact hO
    · rw [show ((((b - a - 1) / 2 : Nat) : Int) + 1).toNat = (b - a - 1) / 2 + 1 from by omega]
    · exact hd
    · omega
  · rintro ⟨D, i⟩ f1 hh1 ⟨e0, e3, e8, e9, e10, e11, hC, hM, hG, hO, hT, hD, hi⟩
    refine HW.fr [(0, v), (3, .func (.func 130) #[.pointer (some ⟨c, 0, none⟩)] #[]), (8, .int .i64 ((a : Nat) : Int)), (9, .int .i64 0), (10, .int .i64 ((b - a : Nat) : Int)), (11, .int .i64 i)] ⟨e0, e3, e8, e9, e10, e11, trivial⟩ ?_
    refine HW.seq ?_
    refine HW.seq ?_
    refine HW.region ?_
    refine HO.val (v := .int .i64 i) (want_none) rfl (q_move rfl) ?_
    refine HO.val (v := .bool (decide (0 ≤ i))) (want_none) rfl (q_geq rfl rfl) ?_
    refine HO.nil (thenQ_normal (?_))
    refine HW.cond (decide (0 ≤ i)) rfl (fun c1 => ?_) (fun c1 => ?_)
    · have c1p := of_decide_eq_true c1
      obtain ⟨k, rfl⟩ : ∃ k : Nat, i = (k : Int) := ⟨i.toNat, by omega⟩
      have hV : IsSl v _ := hO.slice.shape (List.length_pos_iff.1 (by omega))
      simp only [show ((k : Int) + 1).toNat = k + 1 from by omega] at hT
      refine HW.skip (thenQ_normal (?_))
      refine HW.seq ?_
      refine HW.block ?_
      refine HW.region ?_
      refine HO.val (v := v) (want_none) rfl (q_move rfl) ?_
      refine HO.val (v := .int .i64 ((k : Nat) : Int)) (want_none) rfl (q_move rfl) ?_
      refine HO.val (v := .int .i64 ((b - a : Nat) : Int)) (want_none) rfl (q_move rfl) ?_
      refine HO.val (v := .int .i64 ((a : Nat) : Int)) (want_none) rfl (q_move rfl) ?_
      refine HO.val (v := .func (.func 130) #[.pointer (some ⟨c, 0, none⟩)] #[]) (want_none) rfl (q_move rfl) ?_
      refine HO.call (want_none) rfl (ec en_207 rfl rfl) (sift_at c r m B n v D _ hC hM hO hvc hvr hD hn k (b - a) a ((k : Nat) : Int) ((b - a : Nat) : Int) ((a : Nat) : Int) (by omega) (by omega) (by omega) (by omega) (by omega)) ?_
      rintro _ h2 ⟨rfl, hO', hG', hC', hM'⟩
      replace hC := hC'; replace hM := hM'; replace hG := hG.trans hG'; replace hO := hO'
      have hgs := hG.size
      have hD2 : (siftDown (ltOf' (bef m)) (b - a) a k D).toList.length = n := by rw [sift_len]; omega
      refine HO.nil (blockQ_normal (thenQ_normal (?_)))
      refine HW.region ?_
      refine HO.val (v := .int .i64 ((k : Nat) : Int)) (want_none) rfl (q_move rfl) ?_
      refine HO.val (v := .int .i64 (((k : Nat) : Int) - 1)) (want_none) rfl (q_subN (((k : Nat) : Int) - 1) rfl rfl rfl (by omega) (by omega)) ?_
      refine HO.val (v := .int .i64 (((k : Nat) : Int) - 1)) (want_none) rfl (q_assign rfl) ?_
      refine HO.nil (thenQ_normal (?_))
      refine ⟨(siftDown (ltOf' (bef m)) (b - a) a k D, ((k : Nat) : Int) - 1), ⟨rfl, rfl, rfl, rfl, rfl, rfl, ?_, ?_, ?_, ?_, ?_, ?_, ?_⟩, ?_⟩
      · exact hC
      · exact hM
      · exact hG
      · exact hO
      · rw [show ((k : Int) - 1 + 1).toNat = k from by omega, build_go]; exact hT
      · rw [sift_len]; exact hD
      · omega
      · dsimp only; omega
    · have c1p := of_decide_eq_false c1
      refine HW.exit (thenQ_exit (thenQ_exit (blockQ_exit (thenQ_normal (?_)))))
      refine HW.seq ?_
      refine HW.region ?_
      refine HO.val (v := .int .i64 ((b - a : Nat) : Int)) (want_none) rfl (q_move rfl) ?_
      refine HO.val (v := .int .i64 ((b - a - 1 : Nat) : Int)) (want_none) rfl (q_subN ((b - a - 1 : Nat) : Int) rfl rfl (by omega) (by omega) (by omega)) ?_
      refine HO.val (v := .int .i64 ((b - a - 1 : Nat) : Int)) (want_none) rfl (q_assign rfl) ?_
      refine HO.nil (thenQ_normal (?_))
      refine HW.block ?_
      refine HW.loop (S := Array Int × Int) (fun s f h => match s with | (D, i) => f 0 = v ∧ f 3 = .func (.func 130) #[.pointer (some ⟨c, 0, none⟩)] #[] ∧ f 8 = .int .i64 ((a : Nat) : Int) ∧ f 9 = .int .i64 0 ∧ f 10 = .int .i64 ((b - a : Nat) : Int) ∧ f 12 = .int .i64 i ∧ (Blk h c (.cells #[.map (some r)] 159 (0, 0))) ∧ (MapIs h r kI kI m) ∧ (Grown h0 h v v) ∧ (OwnIs h B 3 1 encI v D.toList) ∧ (heapPop (ltOf' (bef m)) a (i + 1).toNat D = heapSort (ltOf' (bef m)) d a b) ∧ (D.toList.length = n) ∧ (-1 ≤ i ∧ i < ((b - a : Nat) : Int))) (fun s => match s with | (D, i) => (i + 1).toNat) (D, ((b - a - 1 : Nat) : Int)) ?_ ?_
      · refine ⟨rfl, rfl, rfl, rfl, rfl, rfl, ?_, ?_, ?_, ?_, ?_, ?_, ?_⟩
        · exact hC
        · exact hM
        · exact hG
        · exact hO
        · rw [show (((b - a - 1 : Nat) : Int) + 1).toNat = b - a from by omega]
          rw [show (i + 1).toNat = 0 from by omega] at hT
          rw [show D = _ from hT]; rfl
        · exact hD
        · omega
      · rintro ⟨D, i⟩ f3 hh3 ⟨e0, e3, e8, e9, e10, e12, hC, hM, hG, hO, hT, hD, hi⟩
        refine HW.fr [(0, v), (3, .func (.func 130) #[.pointer (some ⟨c, 0, none⟩)] #[]), (8, .int .i64 ((a : Nat) : Int)), (9, .int .i64 0), (10, .int .i64 ((b - a : Nat) : Int)), (12, .int .i64 i)] ⟨e0, e3, e8, e9, e10, e12, trivial⟩ ?_
        refine HW.seq ?_
        refine HW.seq ?_
        refine HW.region ?_
        refine HO.val (v := .int .i64 i) (want_none) rfl (q_move rfl) ?_
        refine HO.val (v := .bool (decide (0 ≤ i))) (want_none) rfl (q_geq rfl rfl) ?_
        refine HO.nil (thenQ_normal (?_))
        refine HW.cond (decide (0 ≤ i)) rfl (fun c3 => ?_) (fun c3 => ?_)
        · have c3p := of_decide_eq_true c3
          obtain ⟨k, rfl⟩ : ∃ k : Nat, i = (k : Int) := ⟨i.toNat, by omega⟩
          have hV : IsSl v _ := hO.slice.shape (List.length_pos_iff.1 (by omega))
          simp only [show ((k : Int) + 1).toNat = k + 1 from by omega] at hT
          refine HW.skip (thenQ_normal (?_))
          refine HW.seq ?_
          refine HW.block ?_
          refine HW.seq ?_
          refine HW.regionD 20 mixed (fun h => (Blk h c (.cells #[.map (some r)] 159 (0, 0))) ∧ (MapIs h r kI kI m) ∧ (Grown h0 h v v)) [(17, fun h => OwnIs h B 3 1 encI v D.toList)] [(0, true), (1, true), (2, true), (3, true), (4, true), (5, true), (6, true), (7, true), (8, true), (9, true), (10, true), (11, true), (12, true), (13, true), (14, true), (15, true), (16, true), (17, false), (18, true), (19, false)] (by kernel_rfl) ?_
          refine HM.val (v := v) rfl rfl (want_none) rfl (fun _ ⟨hC, hM, hG⟩ => q_move rfl) ?_
          refine HM.val (v := .int .i64 ((a : Nat) : Int)) rfl rfl (want_none) rfl (fun _ ⟨hC, hM, hG⟩ => q_move rfl) ?_
          refine HM.val (v := v) rfl rfl (want_none) rfl (fun _ ⟨hC, hM, hG⟩ => q_move rfl) ?_
          refine HM.val (v := .int .i64 ((a : Nat) : Int)) rfl rfl (want_none) rfl (fun _ ⟨hC, hM, hG⟩ => q_move rfl) ?_
          refine HM.val (v := .int .i64 ((k : Nat) : Int)) rfl rfl (want_none) rfl (fun _ ⟨hC, hM, hG⟩ => q_move rfl) ?_
          refine HM.val (v := .int .i64 ((a + k : Nat) : Int)) rfl rfl (want_none) rfl (fun _ ⟨hC, hM, hG⟩ => q_addN ((a + k : Nat) : Int) rfl rfl (by omega) (by omega) (by omega)) ?_
          refine HM.val (v := v) rfl rfl (want_none) rfl (fun _ ⟨hC, hM, hG⟩ => q_move rfl) ?_
          refine HM.val (v := .int .i64 ((a : Nat) : Int)) rfl rfl (want_none) rfl (fun _ ⟨hC, hM, hG⟩ => q_move rfl) ?_
          refine HM.val (v := .int .i64 ((k : Nat) : Int)) rfl rfl (want_none) rfl (fun _ ⟨hC, hM, hG⟩ => q_move rfl) ?_
          refine HM.val (v := .int .i64 ((a + k : Nat) : Int)) rfl rfl (want_none) rfl (fun _ ⟨hC, hM, hG⟩ => q_addN ((a + k : Nat) : Int) rfl rfl (by omega) (by omega) (by omega)) ?_
          refine HM.val (v := elemPtr 1 v (a + k)) rfl rfl (want_none) rfl (fun _ ⟨hC, hM, hG⟩ => q_indexAddrV (i := a + k) ts_22 hV rfl rfl (by omega)) ?_
          refine HM.valT (v := .int .i64 (D[a + k]!)) 17 (fun h => OwnIs h B 3 1 encI v D.toList) rfl rfl (want_none) rfl (by simp) (by kernel_rfl) (fun _ _ hO => q_loadElemQ to_3 hO.slice rfl (getE (by omega)) rfl) ?_
          refine HM.val (v := v) rfl rfl (want_none) rfl (fun _ ⟨hC, hM, hG⟩ => q_move rfl) ?_
          refine HM.val (v := .int .i64 ((a : Nat) : Int)) rfl rfl (want_none) rfl (fun _ ⟨hC, hM, hG⟩ => q_move rfl) ?_
          refine HM.val (v := elemPtr 1 v a) rfl rfl (want_none) rfl (fun _ ⟨hC, hM, hG⟩ => q_indexAddrV (i := a) ts_22 hV rfl rfl (by omega)) ?_
          refine HM.valT (v := .int .i64 (D[a]!)) 17 (fun h => OwnIs h B 3 1 encI v D.toList) rfl rfl (want_none) rfl (by simp) (by kernel_rfl) (fun _ _ hO => q_loadElemQ to_3 hO.slice rfl (getE (by omega)) rfl) ?_
          refine HM.val (v := elemPtr 1 v a) rfl rfl (want_none) rfl (fun _ ⟨hC, hM, hG⟩ => q_indexAddrV (i := a) ts_22 hV rfl rfl (by omega)) ?_
          refine HM.sto ⟨⟨hC, hM, hG⟩, by intro c hc hl; obtain rfl := List.mem_singleton.1 hc; first | exact absurd hl (by dsimp only; decide) | exact hO⟩ rfl (want_none) rfl (s_storeElem (a := D[a + k]!) to_3 hO rfl (by first | omega | (simp only [List.length_set]; omega) | (simp; omega)) rfl rfl rfl rfl) ?_
          rintro h4 ⟨hO', hg⟩
          replace hC := hC.grown hg hvc
          replace hM := hM.grown hg hvr
          replace hG := hG.trans hg
          replace hO := hO'
          have hgs := hg.size; clear hg
          refine HM.val (v := elemPtr 1 v (a + k)) rfl rfl (want_none) rfl (fun _ ⟨hC, hM, hG⟩ => q_indexAddrV (i := a + k) ts_22 hV rfl rfl (by omega)) ?_
          refine HM.sto ⟨⟨hC, hM, hG⟩, by intro c hc hl; obtain rfl := List.mem_singleton.1 hc; first | exact absurd hl (by dsimp only; decide) | exact hO⟩ rfl (want_none) rfl (s_storeElem (a := D[a]!) to_3 hO rfl (by first | omega | (simp only [List.length_set]; omega) | (simp; omega)) rfl rfl rfl rfl) ?_
          rintro h5 ⟨hO', hg⟩
          replace hC := hC.grown hg hvc
          replace hM := hM.grown hg hvr
          replace hG := hG.trans hg
          replace hO := hO'
          have hgs := hg.size; clear hg
          refine HM.nil ⟨⟨hC, hM, hG⟩, by intro c hc hl; obtain rfl := List.mem_singleton.1 hc; first | exact absurd hl (by dsimp only; decide) | exact hO⟩ (thenQ_normal (?_))
          refine HW.region ?_
          refine HO.val (v := v) (want_none) rfl (q_move rfl) ?_
          refine HO.val (v := .int .i64 0) (want_none) rfl (q_move rfl) ?_
          refine HO.val (v := .int .i64 ((k : Nat) : Int)) (want_none) rfl (q_move rfl) ?_
          refine HO.val (v := .int .i64 ((a : Nat) : Int)) (want_none) rfl (q_move rfl) ?_
          refine HO.val (v := .func (.func 130) #[.pointer (some ⟨c, 0, none⟩)] #[]) (want_none) rfl (q_move rfl) ?_
          rw [swpL] at hO
          have hDs := (swp_len D a (a + k)).trans hD
          refine HO.call (want_none) rfl (ec en_207 rfl rfl) (sift_at c r m B n v (swp D a (a + k)) _ hC hM hO hvc hvr hDs hn 0 k a 0 ((k : Nat) : Int) ((a : Nat) : Int) (by omega) (by omega) (by omega) (by omega) (by omega)) ?_
          rintro _ h6 ⟨rfl, hO', hG', hC', hM'⟩
          replace hC := hC'; replace hM := hM'; replace hG := hG.trans hG'; replace hO := hO'
          have hgs := hG.size
          have hD4 : (siftDown (ltOf' (bef m)) k a 0 (swp D a (a + k))).toList.length = n := by rw [sift_len]; omega
          refine HO.nil (blockQ_normal (thenQ_normal (?_)))
          refine HW.region ?_
          refine HO.val (v := .int .i64 ((k : Nat) : Int)) (want_none) rfl (q_move rfl) ?_
          refine HO.val (v := .int .i64 (((k : Nat) : Int) - 1)) (want_none) rfl (q_subN (((k : Nat) : Int) - 1) rfl rfl rfl (by omega) (by omega)) ?_
          refine HO.val (v := .int .i64 (((k : Nat) : Int) - 1)) (want_none) rfl (q_assign rfl) ?_
          refine HO.nil (thenQ_normal (?_))
          refine ⟨(siftDown (ltOf' (bef m)) k a 0 (swp D a (a + k)), ((k : Nat) : Int) - 1), ⟨rfl, rfl, rfl, rfl, rfl, rfl, ?_, ?_, ?_, ?_, ?_, ?_, ?_⟩, ?_⟩
          · exact hC
          · exact hM
          · exact hG
          · exact hO
          · rw [show ((k : Int) - 1 + 1).toNat = k from by omega, pop_go]; exact hT
          · rw [sift_len, swp_len]; exact hD
          · omega
          · dsimp only; omega
        · have c3p := of_decide_eq_false c3
          refine HW.exit (thenQ_exit (thenQ_exit (blockQ_exit (?_))))
          refine ⟨.inl rfl, .tuple #[], res_none rfl, ?_⟩
          rw [show (i + 1).toNat = 0 from by omega] at hT
          exact ⟨rfl, by rw [← hT]; exact hO, hG, hC, hM⟩
end Go.HL.CI
