/- Go's pdqsort by a clock's order: the partition. -/
import Derived.Test.YtnemfpgfgblpbaaSortPart
set_option linter.unusedSimpArgs false
set_option linter.unusedVariables false
set_option linter.unusedSectionVars false
namespace Go.HL.CI
open Go.Proofs Go.Sort

set_option maxRecDepth 100000 in
theorem part_spec (c r : Nat) (m : List (Int × Int)) (B n : Nat) (v : Value) (d : Array Int) (h0 : Heap) (hC : Blk h0 c (.cells #[.map (some r)] 159 (0, 0))) (hM : MapIs h0 r kI kI m) (hO : OwnIs h0 B 3 1 encI v d.toList) (hvc : blockOf v ≠ some c) (hvr : blockOf v ≠ some r) (hd : d.toList.length = n) (hn : n ≤ 2305843009213693952) (a b pivot : Nat) (hab : a < b) (hb : b ≤ n) (hp1 : a ≤ pivot) (hp2 : pivot < b) :
    HC Try.prog 196 #[v, .int .i64 ((a : Nat) : Int), .int .i64 ((b : Nat) : Int), .int .i64 ((pivot : Nat) : Int), .func (.func 130) #[.pointer (some ⟨c, 0, none⟩)] #[]] h0 fun u h' => u = .tuple #[.int .i64 (((partition (ltOf' (bef m)) d a b pivot).1 : Nat) : Int), .bool (partition (ltOf' (bef m)) d a b pivot).2.1] ∧ OwnIs h' B 3 1 encI v ((partition (ltOf' (bef m)) d a b pivot).2.2).toList ∧ Grown h0 h' v v ∧ Blk h' c (.cells #[.map (some r)] 159 (0, 0)) ∧ MapIs h' r kI kI m := by
  refine HC.of_HW (n := 178) Try.func196 rfl rfl (Nat.le_of_ble_eq_true rfl) ?_
  have hG := Grown.refl h0 v
  have hV : IsSl v _ := hO.slice.shape (List.length_pos_iff.1 (by omega))
  refine HW.seq ?_
  refine HW.region ?_
  refine HO.val (v := .int .i64 0) (want_none) rfl (q_assign rfl) ?_
  refine HO.val (v := .bool false) (want_none) rfl (q_assign rfl) ?_
  refine HO.nil (thenQ_normal (?_))
  refine HW.seq ?_
  refine HW.regionD 16 mixed (fun h => (Blk h c (.cells #[.map (some r)] 159 (0, 0))) ∧ (MapIs h r kI kI m) ∧ (Grown h0 h v v)) [(13, fun h => OwnIs h B 3 1 encI v d.toList)] [(0, true), (1, true), (2, true), (3, true), (4, true), (5, true), (6, true), (7, true), (8, true), (9, true), (10, true), (11, true), (12, true), (13, false), (14, true), (15, false)] (by kernel_rfl) ?_
  refine HM.val (v := v) rfl rfl (want_none) rfl (fun _ ⟨hC, hM, hG⟩ => q_move rfl) ?_
  refine HM.val (v := .int .i64 ((a : Nat) : Int)) rfl rfl (want_none) rfl (fun _ ⟨hC, hM, hG⟩ => q_move rfl) ?_
  refine HM.val (v := v) rfl rfl (want_none) rfl (fun _ ⟨hC, hM, hG⟩ => q_move rfl) ?_
  refine HM.val (v := .int .i64 ((pivot : Nat) : Int)) rfl rfl (want_none) rfl (fun _ ⟨hC, hM, hG⟩ => q_move rfl) ?_
  refine HM.val (v := v) rfl rfl (want_none) rfl (fun _ ⟨hC, hM, hG⟩ => q_move rfl) ?_
  refine HM.val (v := .int .i64 ((pivot : Nat) : Int)) rfl rfl (want_none) rfl (fun _ ⟨hC, hM, hG⟩ => q_move rfl) ?_
  refine HM.val (v := elemPtr 1 v pivot) rfl rfl (want_none) rfl (fun _ ⟨hC, hM, hG⟩ => q_indexAddrV (i := pivot) ts_22 hV rfl rfl (by omega)) ?_
  refine HM.valT (v := .int .i64 (d[pivot]!)) 13 (fun h => OwnIs h B 3 1 encI v d.toList) rfl rfl (want_none) rfl (by simp) (by kernel_rfl) (fun _ _ hO => q_loadElemQ to_3 hO.slice rfl (getE (by omega)) rfl) ?_
  refine HM.val (v := v) rfl rfl (want_none) rfl (fun _ ⟨hC, hM, hG⟩ => q_move rfl) ?_
  refine HM.val (v := .int .i64 ((a : Nat) : Int)) rfl rfl (want_none) rfl (fun _ ⟨hC, hM, hG⟩ => q_move rfl) ?_
  refine HM.val (v := elemPtr 1 v a) rfl rfl (want_none) rfl (fun _ ⟨hC, hM, hG⟩ => q_indexAddrV (i := a) ts_22 hV rfl rfl (by omega)) ?_
  refine HM.valT (v := .int .i64 (d[a]!)) 13 (fun h => OwnIs h B 3 1 encI v d.toList) rfl rfl (want_none) rfl (by simp) (by kernel_rfl) (fun _ _ hO => q_loadElemQ to_3 hO.slice rfl (getE (by omega)) rfl) ?_
  refine HM.val (v := elemPtr 1 v a) rfl rfl (want_none) rfl (fun _ ⟨hC, hM, hG⟩ => q_indexAddrV (i := a) ts_22 hV rfl rfl (by omega)) ?_
  refine HM.sto ⟨⟨hC, hM, hG⟩, by intro c hc hl; obtain rfl := List.mem_singleton.1 hc; first | exact absurd hl (by dsimp only; decide) | exact hO⟩ rfl (want_none) rfl (s_storeElem (a := d[pivot]!) to_3 hO rfl (by first | omega | (simp only [List.length_set]; omega) | (simp; omega)) rfl rfl rfl rfl) ?_
  rintro h1 ⟨hO', hg⟩
  replace hC := hC.grown hg hvc
  replace hM := hM.grown hg hvr
  replace hG := hG.trans hg
  replace hO := hO'
  have hgs := hg.size; clear hg
  refine HM.val (v := elemPtr 1 v pivot) rfl rfl (want_none) rfl (fun _ ⟨hC, hM, hG⟩ => q_indexAddrV (i := pivot) ts_22 hV rfl rfl (by omega)) ?_
  refine HM.sto ⟨⟨hC, hM, hG⟩, by intro c hc hl; obtain rfl := List.mem_singleton.1 hc; first | exact absurd hl (by dsimp only; decide) | exact hO⟩ rfl (want_none) rfl (s_storeElem (a := d[a]!) to_3 hO rfl (by first | omega | (simp only [List.length_set]; omega) | (simp; omega)) rfl rfl rfl rfl) ?_
  rintro h2 ⟨hO', hg⟩
  replace hC := hC.grown hg hvc
  replace hM := hM.grown hg hvr
  replace hG := hG.trans hg
  replace hO := hO'
  have hgs := hg.size; clear hg
  refine HM.nil ⟨⟨hC, hM, hG⟩, by intro c hc hl; obtain rfl := List.mem_singleton.1 hc; first | exact absurd hl (by dsimp only; decide) | exact hO⟩ (thenQ_normal (?_))
  refine HW.seq ?_
  refine HW.region ?_
  refine HO.val (v := .int .i64 ((a : Nat) : Int)) (want_none) rfl (q_move rfl) ?_
  refine HO.val (v := .int .i64 ((a + 1 : Nat) : Int)) (want_none) rfl (q_addN ((a + 1 : Nat) : Int) rfl rfl (by omega) (by omega) (by omega)) ?_
  refine HO.val (v := .int .i64 ((b : Nat) : Int)) (want_none) rfl (q_move rfl) ?_
  refine HO.val (v := .int .i64 ((b - 1 : Nat) : Int)) (want_none) rfl (q_subN ((b - 1 : Nat) : Int) rfl rfl (by omega) (by omega) (by omega)) ?_
  refine HO.val (v := .int .i64 ((a + 1 : Nat) : Int)) (want_none) rfl (q_assign rfl) ?_
  refine HO.val (v := .int .i64 ((b - 1 : Nat) : Int)) (want_none) rfl (q_assign rfl) ?_
  refine HO.nil (thenQ_normal (?_))
  rw [swpL] at hO
  obtain ⟨D, hDD⟩ : ∃ D, swp d a pivot = D := ⟨_, rfl⟩
  rw [hDD] at hO
  have hD : D.toList.length = n := by rw [← hDD]; exact swp_dl _ _ _ hd
  refine HW.seq_mid (fun f h => ∃ (y : Nat), f 0 = v ∧ f 1 = .int .i64 ((a : Nat) : Int) ∧ f 4 = .func (.func 130) #[.pointer (some ⟨c, 0, none⟩)] #[] ∧ f 12 = .int .i64 ((y : Nat) : Int) ∧ f 13 = .int .i64 ((b - 1 : Nat) : Int) ∧ (Blk h c (.cells #[.map (some r)] 159 (0, 0))) ∧ (MapIs h r kI kI m) ∧ (Grown h0 h v v) ∧ (OwnIs h B 3 1 encI v D.toList) ∧ (scanUp (fun x => (ltOf' (bef m)) x D[a]!) D (b - 1) (a + 1) = y) ∧ ((a + 1) ≤ y ∧ y ≤ (b - 1) + 2)) ?_ ?_
  · refine HW.block ?_
    refine HW.loop (S := Nat) (fun x f h => f 0 = v ∧ f 1 = .int .i64 ((a : Nat) : Int) ∧ f 4 = .func (.func 130) #[.pointer (some ⟨c, 0, none⟩)] #[] ∧ f 12 = .int .i64 ((x : Nat) : Int) ∧ f 13 = .int .i64 ((b - 1 : Nat) : Int) ∧ (Blk h c (.cells #[.map (some r)] 159 (0, 0))) ∧ (MapIs h r kI kI m) ∧ (Grown h0 h v v) ∧ (OwnIs h B 3 1 encI v D.toList) ∧ (scanUp (fun x => (ltOf' (bef m)) x D[a]!) D (b - 1) x = scanUp (fun x => (ltOf' (bef m)) x D[a]!) D (b - 1) (a + 1)) ∧ ((a + 1) ≤ x ∧ x ≤ (b - 1) + 2)) (fun x => (b - 1) + 2 - x) ((a + 1)) ?_ ?_
    · refine ⟨rfl, rfl, rfl, rfl, rfl, ?_, ?_, ?_, ?_, ?_, ?_⟩
      · exact hC
      · exact hM
      · exact hG
      · exact hO
      · rfl
      · omega
    · rintro x f3 hh3 ⟨e0, e1, e4, e12, e13, hC, hM, hG, hO, hxx, hxb⟩
      refine HW.fr [(0, v), (1, .int .i64 ((a : Nat) : Int)), (4, .func (.func 130) #[.pointer (some ⟨c, 0, none⟩)] #[]), (12, .int .i64 ((x : Nat) : Int)), (13, .int .i64 ((b - 1 : Nat) : Int))] ⟨e0, e1, e4, e12, e13, trivial⟩ ?_
      refine HW.seq ?_
      refine HW.seq ?_
      refine HW.regionD 16 mixed (fun h => (Blk h c (.cells #[.map (some r)] 159 (0, 0))) ∧ (MapIs h r kI kI m) ∧ (Grown h0 h v v) ∧ (OwnIs h B 3 1 encI v D.toList)) [] [(0, true), (1, true), (2, true), (3, true), (4, true), (5, true), (6, true), (7, true), (8, true), (9, true), (10, true), (11, true), (12, true), (13, false), (14, true), (15, true)] (by kernel_rfl) ?_
      refine HM.val (v := .int .i64 ((x : Nat) : Int)) rfl rfl (want_none) rfl (fun _ ⟨hC, hM, hG, hO⟩ => q_move rfl) ?_
      refine HM.val (v := .int .i64 ((b - 1 : Nat) : Int)) rfl rfl (want_none) rfl (fun _ ⟨hC, hM, hG, hO⟩ => q_move rfl) ?_
      refine HM.val (v := .bool (decide (((x : Nat) : Int) ≤ ((b - 1 : Nat) : Int)))) rfl rfl (want_none) rfl (fun _ ⟨hC, hM, hG, hO⟩ => q_leq rfl rfl) ?_
      refine HM.val (v := .bool (decide (((x : Nat) : Int) ≤ ((b - 1 : Nat) : Int)))) rfl rfl (want_none) rfl (fun _ ⟨hC, hM, hG, hO⟩ => q_move rfl) ?_
      rcases Bool.eq_false_or_eq_true (decide (((x : Nat) : Int) ≤ ((b - 1 : Nat) : Int))) with g1 | g1
      · have g1p := of_decide_eq_true g1
        refine HM.val (v := .func (.func 130) #[.pointer (some ⟨c, 0, none⟩)] #[]) rfl rfl (want_by rfl rfl g1) rfl (fun _ ⟨hC, hM, hG, hO⟩ => q_move rfl) ?_
        refine HM.val (v := v) rfl rfl (want_by rfl rfl g1) rfl (fun _ ⟨hC, hM, hG, hO⟩ => q_move rfl) ?_
        refine HM.val (v := .int .i64 ((x : Nat) : Int)) rfl rfl (want_by rfl rfl g1) rfl (fun _ ⟨hC, hM, hG, hO⟩ => q_move rfl) ?_
        refine HM.val (v := elemPtr 1 v x) rfl rfl (want_by rfl rfl g1) rfl (fun _ ⟨hC, hM, hG, hO⟩ => q_indexAddrV (i := x) ts_22 hV rfl rfl (by omega)) ?_
        refine HM.val (v := .int .i64 (D[x]!)) rfl rfl (want_by rfl rfl g1) rfl (fun _ ⟨hC, hM, hG, hO⟩ => q_loadElemQ to_3 hO.slice rfl (getE (by omega)) rfl) ?_
        refine HM.val (v := v) rfl rfl (want_by rfl rfl g1) rfl (fun _ ⟨hC, hM, hG, hO⟩ => q_move rfl) ?_
        refine HM.val (v := .int .i64 ((a : Nat) : Int)) rfl rfl (want_by rfl rfl g1) rfl (fun _ ⟨hC, hM, hG, hO⟩ => q_move rfl) ?_
        refine HM.val (v := elemPtr 1 v a) rfl rfl (want_by rfl rfl g1) rfl (fun _ ⟨hC, hM, hG, hO⟩ => q_indexAddrV (i := a) ts_22 hV rfl rfl (by omega)) ?_
        refine HM.val (v := .int .i64 (D[a]!)) rfl rfl (want_by rfl rfl g1) rfl (fun _ ⟨hC, hM, hG, hO⟩ => q_loadElemQ to_3 hO.slice rfl (getE (by omega)) rfl) ?_
        refine HM.call ⟨⟨hC, hM, hG, hO⟩, Go.HL.at_nil _ _⟩ rfl (want_by rfl rfl g1) rfl (ec en_130 rfl rfl) (before_spec' c r m _ hC hM (D[x]!) (D[a]!)) ?_
        rintro _ h4 ⟨rfl, hx⟩
        replace hC := hC.ext hx
        replace hM := hM.ext hx
        replace hG := hG.ext hx
        replace hO := hO.ext hx
        have hxs := hx.size
        refine HM.val (v := .bool (decide ((bef m (D[x]!) (D[a]!)) < 0))) rfl rfl (want_by rfl rfl g1) rfl (fun _ ⟨hC, hM, hG, hO⟩ => q_lss rfl rfl) ?_
        refine HM.val (v := .bool (decide ((bef m (D[x]!) (D[a]!)) < 0))) rfl rfl (want_none) rfl (fun _ ⟨hC, hM, hG, hO⟩ => q_pickK true rfl g1 rfl) ?_
        refine HM.nil ⟨⟨hC, hM, hG, hO⟩, Go.HL.at_nil _ _⟩ (thenQ_normal (?_))
        refine HW.cond (decide ((bef m (D[x]!) (D[a]!)) < 0)) rfl (fun c2 => ?_) (fun c2 => ?_)
        · have c2p := of_decide_eq_true c2
          refine HW.skip (thenQ_normal (?_))
          refine HW.block ?_
          refine HW.region ?_
          refine HO.val (v := .int .i64 ((x : Nat) : Int)) (want_none) rfl (q_move rfl) ?_
          refine HO.val (v := .int .i64 ((x + 1 : Nat) : Int)) (want_none) rfl (q_addN ((x + 1 : Nat) : Int) rfl rfl (by omega) (by omega) (by omega)) ?_
          refine HO.val (v := .int .i64 ((x + 1 : Nat) : Int)) (want_none) rfl (q_assign rfl) ?_
          refine HO.nil (blockQ_normal (thenQ_normal (?_)))
          refine ⟨(x + 1), ⟨rfl, rfl, rfl, rfl, rfl, ?_, ?_, ?_, ?_, ?_, ?_⟩, ?_⟩
          · exact hC
          · exact hM
          · exact hG
          · exact hO
          · rw [up_go (p := (fun x => (ltOf' (bef m)) x D[a]!)) (by omega) c2]; exact hxx
          · omega
          · omega
        · have c2p := of_decide_eq_false c2
          refine HW.exit (thenQ_exit (thenQ_exit (blockQ_exit (thenQ_normal (?_)))))
          refine ⟨x, rfl, rfl, rfl, rfl, rfl, ?_, ?_, ?_, ?_, ?_, ?_⟩
          · exact hC
          · exact hM
          · exact hG
          · exact hO
          · rw [← hxx]; exact up_no (p := (fun x => (ltOf' (bef m)) x D[a]!)) c2
          · omega
      · have g1p := of_decide_eq_false g1
        refine HM.past rfl rfl (past_by rfl rfl g1) rfl ?_
        refine HM.past rfl rfl (past_by rfl rfl g1) rfl ?_
        refine HM.past rfl rfl (past_by rfl rfl g1) rfl ?_
        refine HM.past rfl rfl (past_by rfl rfl g1) rfl ?_
        refine HM.past rfl rfl (past_by rfl rfl g1) rfl ?_
        refine HM.past rfl rfl (past_by rfl rfl g1) rfl ?_
        refine HM.past rfl rfl (past_by rfl rfl g1) rfl ?_
        refine HM.past rfl rfl (past_by rfl rfl g1) rfl ?_
        refine HM.past rfl rfl (past_by rfl rfl g1) rfl ?_
        refine HM.pastF ⟨⟨hC, hM, hG, hO⟩, Go.HL.at_nil _ _⟩ rfl (past_by rfl rfl g1) rfl ?_
        refine HM.past rfl rfl (past_by rfl rfl g1) rfl ?_
        refine HM.val (v := .bool false) rfl rfl (want_none) rfl (fun _ ⟨hC, hM, hG, hO⟩ => q_pickK false rfl g1 rfl) ?_
        refine HM.nil ⟨⟨hC, hM, hG, hO⟩, Go.HL.at_nil _ _⟩ (thenQ_normal (?_))
        refine HW.condF rfl ?_
        refine HW.exit (thenQ_exit (thenQ_exit (blockQ_exit (thenQ_normal (?_)))))
        refine ⟨x, rfl, rfl, rfl, rfl, rfl, ?_, ?_, ?_, ?_, ?_, ?_⟩
        · exact hC
        · exact hM
        · exact hG
        · exact hO
        · rw [← hxx]; exact up_out (p := (fun x => (ltOf' (bef m)) x D[a]!)) (by omega)
        · omega
  · rintro f5 hh5 ⟨y, e0, e1, e4, e12, e13, hC, hM, hG, hO, hy, hyb⟩
    refine HW.fr [(0, v), (1, .int .i64 ((a : Nat) : Int)), (4, .func (.func 130) #[.pointer (some ⟨c, 0, none⟩)] #[]), (12, .int .i64 ((y : Nat) : Int)), (13, .int .i64 ((b - 1 : Nat) : Int))] ⟨e0, e1, e4, e12, e13, trivial⟩ ?_
    refine HW.seq_mid (fun f h => ∃ (w : Nat), f 0 = v ∧ f 1 = .int .i64 ((a : Nat) : Int) ∧ f 4 = .func (.func 130) #[.pointer (some ⟨c, 0, none⟩)] #[] ∧ f 12 = .int .i64 ((y : Nat) : Int) ∧ f 13 = .int .i64 ((w : Nat) : Int) ∧ (Blk h c (.cells #[.map (some r)] 159 (0, 0))) ∧ (MapIs h r kI kI m) ∧ (Grown h0 h v v) ∧ (OwnIs h B 3 1 encI v D.toList) ∧ (scanDown (fun x => !(ltOf' (bef m)) x D[a]!) D y (b - 1) = w) ∧ (a ≤ w ∧ w ≤ (b - 1))) ?_ ?_
    · refine HW.block ?_
      refine HW.loop (S := Nat) (fun z f h => f 0 = v ∧ f 1 = .int .i64 ((a : Nat) : Int) ∧ f 4 = .func (.func 130) #[.pointer (some ⟨c, 0, none⟩)] #[] ∧ f 12 = .int .i64 ((y : Nat) : Int) ∧ f 13 = .int .i64 ((z : Nat) : Int) ∧ (Blk h c (.cells #[.map (some r)] 159 (0, 0))) ∧ (MapIs h r kI kI m) ∧ (Grown h0 h v v) ∧ (OwnIs h B 3 1 encI v D.toList) ∧ (scanDown (fun x => !(ltOf' (bef m)) x D[a]!) D y z = scanDown (fun x => !(ltOf' (bef m)) x D[a]!) D y (b - 1)) ∧ (a ≤ z ∧ z ≤ (b - 1))) (fun z => z) ((b - 1)) ?_ ?_
      · refine ⟨rfl, rfl, rfl, rfl, rfl, ?_, ?_, ?_, ?_, ?_, ?_⟩
        · exact hC
        · exact hM
        · exact hG
        · exact hO
        · rfl
        · omega
      · rintro z f6 hh6 ⟨e0, e1, e4, e12, e13, hC, hM, hG, hO, hxx, hxb⟩
        refine HW.fr [(0, v), (1, .int .i64 ((a : Nat) : Int)), (4, .func (.func 130) #[.pointer (some ⟨c, 0, none⟩)] #[]), (12, .int .i64 ((y : Nat) : Int)), (13, .int .i64 ((z : Nat) : Int))] ⟨e0, e1, e4, e12, e13, trivial⟩ ?_
        refine HW.seq ?_
        refine HW.seq ?_
        refine HW.regionD 17 mixed (fun h => (Blk h c (.cells #[.map (some r)] 159 (0, 0))) ∧ (MapIs h r kI kI m) ∧ (Grown h0 h v v) ∧ (OwnIs h B 3 1 encI v D.toList)) [] [(0, true), (1, true), (2, true), (3, true), (4, true), (5, true), (6, true), (7, true), (8, true), (9, true), (10, true), (11, true), (12, true), (13, false), (14, true), (15, true), (16, true)] (by kernel_rfl) ?_
        refine HM.val (v := .int .i64 ((y : Nat) : Int)) rfl rfl (want_none) rfl (fun _ ⟨hC, hM, hG, hO⟩ => q_move rfl) ?_
        refine HM.val (v := .int .i64 ((z : Nat) : Int)) rfl rfl (want_none) rfl (fun _ ⟨hC, hM, hG, hO⟩ => q_move rfl) ?_
        refine HM.val (v := .bool (decide (((y : Nat) : Int) ≤ ((z : Nat) : Int)))) rfl rfl (want_none) rfl (fun _ ⟨hC, hM, hG, hO⟩ => q_leq rfl rfl) ?_
        refine HM.val (v := .bool (decide (((y : Nat) : Int) ≤ ((z : Nat) : Int)))) rfl rfl (want_none) rfl (fun _ ⟨hC, hM, hG, hO⟩ => q_move rfl) ?_
        rcases Bool.eq_false_or_eq_true (decide (((y : Nat) : Int) ≤ ((z : Nat) : Int))) with g3 | g3
        · have g3p := of_decide_eq_true g3
          refine HM.val (v := .func (.func 130) #[.pointer (some ⟨c, 0, none⟩)] #[]) rfl rfl (want_by rfl rfl g3) rfl (fun _ ⟨hC, hM, hG, hO⟩ => q_move rfl) ?_
          refine HM.val (v := v) rfl rfl (want_by rfl rfl g3) rfl (fun _ ⟨hC, hM, hG, hO⟩ => q_move rfl) ?_
          refine HM.val (v := .int .i64 ((z : Nat) : Int)) rfl rfl (want_by rfl rfl g3) rfl (fun _ ⟨hC, hM, hG, hO⟩ => q_move rfl) ?_
          refine HM.val (v := elemPtr 1 v z) rfl rfl (want_by rfl rfl g3) rfl (fun _ ⟨hC, hM, hG, hO⟩ => q_indexAddrV (i := z) ts_22 hV rfl rfl (by omega)) ?_
          refine HM.val (v := .int .i64 (D[z]!)) rfl rfl (want_by rfl rfl g3) rfl (fun _ ⟨hC, hM, hG, hO⟩ => q_loadElemQ to_3 hO.slice rfl (getE (by omega)) rfl) ?_
          refine HM.val (v := v) rfl rfl (want_by rfl rfl g3) rfl (fun _ ⟨hC, hM, hG, hO⟩ => q_move rfl) ?_
          refine HM.val (v := .int .i64 ((a : Nat) : Int)) rfl rfl (want_by rfl rfl g3) rfl (fun _ ⟨hC, hM, hG, hO⟩ => q_move rfl) ?_
          refine HM.val (v := elemPtr 1 v a) rfl rfl (want_by rfl rfl g3) rfl (fun _ ⟨hC, hM, hG, hO⟩ => q_indexAddrV (i := a) ts_22 hV rfl rfl (by omega)) ?_
          refine HM.val (v := .int .i64 (D[a]!)) rfl rfl (want_by rfl rfl g3) rfl (fun _ ⟨hC, hM, hG, hO⟩ => q_loadElemQ to_3 hO.slice rfl (getE (by omega)) rfl) ?_
          refine HM.call ⟨⟨hC, hM, hG, hO⟩, Go.HL.at_nil _ _⟩ rfl (want_by rfl rfl g3) rfl (ec en_130 rfl rfl) (before_spec' c r m _ hC hM (D[z]!) (D[a]!)) ?_
          rintro _ h7 ⟨rfl, hx⟩
          replace hC := hC.ext hx
          replace hM := hM.ext hx
          replace hG := hG.ext hx
          replace hO := hO.ext hx
          have hxs := hx.size
          refine HM.val (v := .bool (decide ((bef m (D[z]!) (D[a]!)) < 0))) rfl rfl (want_by rfl rfl g3) rfl (fun _ ⟨hC, hM, hG, hO⟩ => q_lss rfl rfl) ?_
          refine HM.val (v := .bool (!(decide ((bef m (D[z]!) (D[a]!)) < 0)))) rfl rfl (want_by rfl rfl g3) rfl (fun _ ⟨hC, hM, hG, hO⟩ => q_not rfl) ?_
          refine HM.val (v := .bool (!(decide ((bef m (D[z]!) (D[a]!)) < 0)))) rfl rfl (want_none) rfl (fun _ ⟨hC, hM, hG, hO⟩ => q_pickK true rfl g3 rfl) ?_
          refine HM.nil ⟨⟨hC, hM, hG, hO⟩, Go.HL.at_nil _ _⟩ (thenQ_normal (?_))
          refine HW.cond (!(decide ((bef m (D[z]!) (D[a]!)) < 0))) rfl (fun c4 => ?_) (fun c4 => ?_)
          · have c4p : ¬ ((bef m (D[z]!) (D[a]!)) < 0) := by simpa using c4
            refine HW.skip (thenQ_normal (?_))
            refine HW.block ?_
            refine HW.region ?_
            refine HO.val (v := .int .i64 ((z : Nat) : Int)) (want_none) rfl (q_move rfl) ?_
            refine HO.val (v := .int .i64 ((z - 1 : Nat) : Int)) (want_none) rfl (q_subN ((z - 1 : Nat) : Int) rfl rfl (by omega) (by omega) (by omega)) ?_
            refine HO.val (v := .int .i64 ((z - 1 : Nat) : Int)) (want_none) rfl (q_assign rfl) ?_
            refine HO.nil (blockQ_normal (thenQ_normal (?_)))
            refine ⟨(z - 1), ⟨rfl, rfl, rfl, rfl, rfl, ?_, ?_, ?_, ?_, ?_, ?_⟩, ?_⟩
            · exact hC
            · exact hM
            · exact hG
            · exact hO
            · rw [dn_go (p := (fun x => !(ltOf' (bef m)) x D[a]!)) (by omega) (by omega) (congrArg not (show (ltOf' (bef m)) (D[z]!) (D[a]!) = false from by simpa [ltOf'] using c4))]; exact hxx
            · omega
            · omega
          · have c4p : ((bef m (D[z]!) (D[a]!)) < 0) := by simpa using c4
            refine HW.exit (thenQ_exit (thenQ_exit (blockQ_exit (thenQ_normal (?_)))))
            refine ⟨z, rfl, rfl, rfl, rfl, rfl, ?_, ?_, ?_, ?_, ?_, ?_⟩
            · exact hC
            · exact hM
            · exact hG
            · exact hO
            · rw [← hxx]; exact dn_no (p := (fun x => !(ltOf' (bef m)) x D[a]!)) (congrArg not (show (ltOf' (bef m)) (D[z]!) (D[a]!) = true from by simpa [ltOf'] using c4))
            · omega
        · have g3p := of_decide_eq_false g3
          refine HM.past rfl rfl (past_by rfl rfl g3) rfl ?_
          refine HM.past rfl rfl (past_by rfl rfl g3) rfl ?_
          refine HM.past rfl rfl (past_by rfl rfl g3) rfl ?_
          refine HM.past rfl rfl (past_by rfl rfl g3) rfl ?_
          refine HM.past rfl rfl (past_by rfl rfl g3) rfl ?_
          refine HM.past rfl rfl (past_by rfl rfl g3) rfl ?_
          refine HM.past rfl rfl (past_by rfl rfl g3) rfl ?_
          refine HM.past rfl rfl (past_by rfl rfl g3) rfl ?_
          refine HM.past rfl rfl (past_by rfl rfl g3) rfl ?_
          refine HM.pastF ⟨⟨hC, hM, hG, hO⟩, Go.HL.at_nil _ _⟩ rfl (past_by rfl rfl g3) rfl ?_
          refine HM.past rfl rfl (past_by rfl rfl g3) rfl ?_
          refine HM.past rfl rfl (past_by rfl rfl g3) rfl ?_
          refine HM.val (v := .bool false) rfl rfl (want_none) rfl (fun _ ⟨hC, hM, hG, hO⟩ => q_pickK false rfl g3 rfl) ?_
          refine HM.nil ⟨⟨hC, hM, hG, hO⟩, Go.HL.at_nil _ _⟩ (thenQ_normal (?_))
          refine HW.condF rfl ?_
          refine HW.exit (thenQ_exit (thenQ_exit (blockQ_exit (thenQ_normal (?_)))))
          refine ⟨z, rfl, rfl, rfl, rfl, rfl, ?_, ?_, ?_, ?_, ?_, ?_⟩
          · exact hC
          · exact hM
          · exact hG
          · exact hO
          · rw [← hxx]; exact dn_out (p := (fun x => !(ltOf' (bef m)) x D[a]!)) (by omega)
          · omega
    · rintro f8 hh8 ⟨w, e0, e1, e4, e12, e13, hC, hM, hG, hO, hw, hwb⟩
      refine HW.fr [(0, v), (1, .int .i64 ((a : Nat) : Int)), (4, .func (.func 130) #[.pointer (some ⟨c, 0, none⟩)] #[]), (12, .int .i64 ((y : Nat) : Int)), (13, .int .i64 ((w : Nat) : Int))] ⟨e0, e1, e4, e12, e13, trivial⟩ ?_
      refine HW.seq ?_
      refine HW.seq ?_
      refine HW.region ?_
      refine HO.val (v := .int .i64 ((y : Nat) : Int)) (want_none) rfl (q_move rfl) ?_
      refine HO.val (v := .int .i64 ((w : Nat) : Int)) (want_none) rfl (q_move rfl) ?_
      refine HO.val (v := .bool (decide (((w : Nat) : Int) < ((y : Nat) : Int)))) (want_none) rfl (q_gtr rfl rfl) ?_
      refine HO.nil (thenQ_normal (?_))
      refine HW.cond (decide (((w : Nat) : Int) < ((y : Nat) : Int))) rfl (fun c5 => ?_) (fun c5 => ?_)
      · have c5p := of_decide_eq_true c5
        refine HW.seq ?_
        refine HW.regionD 16 mixed (fun h => (Blk h c (.cells #[.map (some r)] 159 (0, 0))) ∧ (MapIs h r kI kI m) ∧ (Grown h0 h v v)) [(13, fun h => OwnIs h B 3 1 encI v D.toList)] [(0, true), (1, true), (2, true), (3, true), (4, true), (5, true), (6, true), (7, true), (8, true), (9, true), (10, true), (11, true), (12, true), (13, false), (14, true), (15, false)] (by kernel_rfl) ?_
        refine HM.val (v := v) rfl rfl (want_none) rfl (fun _ ⟨hC, hM, hG⟩ => q_move rfl) ?_
        refine HM.val (v := .int .i64 ((w : Nat) : Int)) rfl rfl (want_none) rfl (fun _ ⟨hC, hM, hG⟩ => q_move rfl) ?_
        refine HM.val (v := v) rfl rfl (want_none) rfl (fun _ ⟨hC, hM, hG⟩ => q_move rfl) ?_
        refine HM.val (v := .int .i64 ((a : Nat) : Int)) rfl rfl (want_none) rfl (fun _ ⟨hC, hM, hG⟩ => q_move rfl) ?_
        refine HM.val (v := v) rfl rfl (want_none) rfl (fun _ ⟨hC, hM, hG⟩ => q_move rfl) ?_
        refine HM.val (v := .int .i64 ((a : Nat) : Int)) rfl rfl (want_none) rfl (fun _ ⟨hC, hM, hG⟩ => q_move rfl) ?_
        refine HM.val (v := elemPtr 1 v a) rfl rfl (want_none) rfl (fun _ ⟨hC, hM, hG⟩ => q_indexAddrV (i := a) ts_22 hV rfl rfl (by omega)) ?_
        refine HM.valT (v := .int .i64 (D[a]!)) 13 (fun h => OwnIs h B 3 1 encI v D.toList) rfl rfl (want_none) rfl (by simp) (by kernel_rfl) (fun _ _ hO => q_loadElemQ to_3 hO.slice rfl (getE (by omega)) rfl) ?_
        refine HM.val (v := v) rfl rfl (want_none) rfl (fun _ ⟨hC, hM, hG⟩ => q_move rfl) ?_
        refine HM.val (v := .int .i64 ((w : Nat) : Int)) rfl rfl (want_none) rfl (fun _ ⟨hC, hM, hG⟩ => q_move rfl) ?_
        refine HM.val (v := elemPtr 1 v w) rfl rfl (want_none) rfl (fun _ ⟨hC, hM, hG⟩ => q_indexAddrV (i := w) ts_22 hV rfl rfl (by omega)) ?_
        refine HM.valT (v := .int .i64 (D[w]!)) 13 (fun h => OwnIs h B 3 1 encI v D.toList) rfl rfl (want_none) rfl (by simp) (by kernel_rfl) (fun _ _ hO => q_loadElemQ to_3 hO.slice rfl (getE (by omega)) rfl) ?_
        refine HM.val (v := elemPtr 1 v w) rfl rfl (want_none) rfl (fun _ ⟨hC, hM, hG⟩ => q_indexAddrV (i := w) ts_22 hV rfl rfl (by omega)) ?_
        refine HM.sto ⟨⟨hC, hM, hG⟩, by intro c hc hl; obtain rfl := List.mem_singleton.1 hc; first | exact absurd hl (by dsimp only; decide) | exact hO⟩ rfl (want_none) rfl (s_storeElem (a := D[a]!) to_3 hO rfl (by first | omega | (simp only [List.length_set]; omega) | (simp; omega)) rfl rfl rfl rfl) ?_
        rintro h9 ⟨hO', hg⟩
        replace hC := hC.grown hg hvc
        replace hM := hM.grown hg hvr
        replace hG := hG.trans hg
        replace hO := hO'
        have hgs := hg.size; clear hg
        refine HM.val (v := elemPtr 1 v a) rfl rfl (want_none) rfl (fun _ ⟨hC, hM, hG⟩ => q_indexAddrV (i := a) ts_22 hV rfl rfl (by omega)) ?_
        refine HM.sto ⟨⟨hC, hM, hG⟩, by intro c hc hl; obtain rfl := List.mem_singleton.1 hc; first | exact absurd hl (by dsimp only; decide) | exact hO⟩ rfl (want_none) rfl (s_storeElem (a := D[w]!) to_3 hO rfl (by first | omega | (simp only [List.length_set]; omega) | (simp; omega)) rfl rfl rfl rfl) ?_
        rintro h10 ⟨hO', hg⟩
        replace hC := hC.grown hg hvc
        replace hM := hM.grown hg hvr
        replace hG := hG.trans hg
        replace hO := hO'
        have hgs := hg.size; clear hg
        refine HM.nil ⟨⟨hC, hM, hG⟩, by intro c hc hl; obtain rfl := List.mem_singleton.1 hc; first | exact absurd hl (by dsimp only; decide) | exact hO⟩ (thenQ_normal (?_))
        refine HW.seq ?_
        refine HW.region ?_
        refine HO.val (v := .int .i64 ((w : Nat) : Int)) (want_none) rfl (q_move rfl) ?_
        refine HO.val (v := .int .i64 ((w : Nat) : Int)) (want_none) rfl (q_assign rfl) ?_
        refine HO.val (v := .bool true) (want_none) rfl (q_assign rfl) ?_
        refine HO.nil (thenQ_normal (?_))
        refine HW.ret (thenQ_ret (?_))
        refine ⟨.inr rfl, .tuple #[.int .i64 ((w : Nat) : Int), .bool true], res_two rfl rfl rfl, ?_⟩
        have q := pt_a hDD hy hw (by omega)
        rw [swpL] at hO
        rw [q]; exact ⟨rfl, hO, hG, hC, hM⟩
      · have c5p := of_decide_eq_false c5
        refine HW.skip (thenQ_normal (?_))
        refine HW.seq ?_
        refine HW.regionD 16 mixed (fun h => (Blk h c (.cells #[.map (some r)] 159 (0, 0))) ∧ (MapIs h r kI kI m) ∧ (Grown h0 h v v)) [(13, fun h => OwnIs h B 3 1 encI v D.toList)] [(0, true), (1, true), (2, true), (3, true), (4, true), (5, true), (6, true), (7, true), (8, true), (9, true), (10, true), (11, true), (12, true), (13, false), (14, true), (15, false)] (by kernel_rfl) ?_
        refine HM.val (v := v) rfl rfl (want_none) rfl (fun _ ⟨hC, hM, hG⟩ => q_move rfl) ?_
        refine HM.val (v := .int .i64 ((y : Nat) : Int)) rfl rfl (want_none) rfl (fun _ ⟨hC, hM, hG⟩ => q_move rfl) ?_
        refine HM.val (v := v) rfl rfl (want_none) rfl (fun _ ⟨hC, hM, hG⟩ => q_move rfl) ?_
        refine HM.val (v := .int .i64 ((w : Nat) : Int)) rfl rfl (want_none) rfl (fun _ ⟨hC, hM, hG⟩ => q_move rfl) ?_
        refine HM.val (v := v) rfl rfl (want_none) rfl (fun _ ⟨hC, hM, hG⟩ => q_move rfl) ?_
        refine HM.val (v := .int .i64 ((w : Nat) : Int)) rfl rfl (want_none) rfl (fun _ ⟨hC, hM, hG⟩ => q_move rfl) ?_
        refine HM.val (v := elemPtr 1 v w) rfl rfl (want_none) rfl (fun _ ⟨hC, hM, hG⟩ => q_indexAddrV (i := w) ts_22 hV rfl rfl (by omega)) ?_
        refine HM.valT (v := .int .i64 (D[w]!)) 13 (fun h => OwnIs h B 3 1 encI v D.toList) rfl rfl (want_none) rfl (by simp) (by kernel_rfl) (fun _ _ hO => q_loadElemQ to_3 hO.slice rfl (getE (by omega)) rfl) ?_
        refine HM.val (v := v) rfl rfl (want_none) rfl (fun _ ⟨hC, hM, hG⟩ => q_move rfl) ?_
        refine HM.val (v := .int .i64 ((y : Nat) : Int)) rfl rfl (want_none) rfl (fun _ ⟨hC, hM, hG⟩ => q_move rfl) ?_
        refine HM.val (v := elemPtr 1 v y) rfl rfl (want_none) rfl (fun _ ⟨hC, hM, hG⟩ => q_indexAddrV (i := y) ts_22 hV rfl rfl (by omega)) ?_
        refine HM.valT (v := .int .i64 (D[y]!)) 13 (fun h => OwnIs h B 3 1 encI v D.toList) rfl rfl (want_none) rfl (by simp) (by kernel_rfl) (fun _ _ hO => q_loadElemQ to_3 hO.slice rfl (getE (by omega)) rfl) ?_
        refine HM.val (v := elemPtr 1 v y) rfl rfl (want_none) rfl (fun _ ⟨hC, hM, hG⟩ => q_indexAddrV (i := y) ts_22 hV rfl rfl (by omega)) ?_
        refine HM.sto ⟨⟨hC, hM, hG⟩, by intro c hc hl; obtain rfl := List.mem_singleton.1 hc; first | exact absurd hl (by dsimp only; decide) | exact hO⟩ rfl (want_none) rfl (s_storeElem (a := D[w]!) to_3 hO rfl (by first | omega | (simp only [List.length_set]; omega) | (simp; omega)) rfl rfl rfl rfl) ?_
        rintro h11 ⟨hO', hg⟩
        replace hC := hC.grown hg hvc
        replace hM := hM.grown hg hvr
        replace hG := hG.trans hg
        replace hO := hO'
        have hgs := hg.size; clear hg
        refine HM.val (v := elemPtr 1 v w) rfl rfl (want_none) rfl (fun _ ⟨hC, hM, hG⟩ => q_indexAddrV (i := w) ts_22 hV rfl rfl (by omega)) ?_
        refine HM.sto ⟨⟨hC, hM, hG⟩, by intro c hc hl; obtain rfl := List.mem_singleton.1 hc; first | exact absurd hl (by dsimp only; decide) | exact hO⟩ rfl (want_none) rfl (s_storeElem (a := D[y]!) to_3 hO rfl (by first | omega | (simp only [List.length_set]; omega) | (simp; omega)) rfl rfl rfl rfl) ?_
        rintro h12 ⟨hO', hg⟩
        replace hC := hC.grown hg hvc
        replace hM := hM.grown hg hvr
        replace hG := hG.trans hg
        replace hO := hO'
        have hgs := hg.size; clear hg
        refine HM.nil ⟨⟨hC, hM, hG⟩, by intro c hc hl; obtain rfl := List.mem_singleton.1 hc; first | exact absurd hl (by dsimp only; decide) | exact hO⟩ (thenQ_normal (?_))
        refine HW.seq ?_
        refine HW.region ?_
        refine HO.val (v := .int .i64 ((y : Nat) : Int)) (want_none) rfl (q_move rfl) ?_
        refine HO.val (v := .int .i64 ((y + 1 : Nat) : Int)) (want_none) rfl (q_addN ((y + 1 : Nat) : Int) rfl rfl (by omega) (by omega) (by omega)) ?_
        refine HO.val (v := .int .i64 ((y + 1 : Nat) : Int)) (want_none) rfl (q_assign rfl) ?_
        refine HO.nil (thenQ_normal (?_))
        refine HW.seq ?_
        refine HW.region ?_
        refine HO.val (v := .int .i64 ((w : Nat) : Int)) (want_none) rfl (q_move rfl) ?_
        refine HO.val (v := .int .i64 ((w - 1 : Nat) : Int)) (want_none) rfl (q_subN ((w - 1 : Nat) : Int) rfl rfl (by omega) (by omega) (by omega)) ?_
        refine HO.val (v := .int .i64 ((w - 1 : Nat) : Int)) (want_none) rfl (q_assign rfl) ?_
        refine HO.nil (thenQ_normal (?_))
        refine HW.seq ?_
        refine HW.block ?_
        refine HW.loop (S := Array Int × Nat × Nat) (fun s f h => match s with | (E, i, j) => f 0 = v ∧ f 1 = .int .i64 ((a : Nat) : Int) ∧ f 4 = .func (.func 130) #[.pointer (some ⟨c, 0, none⟩)] #[] ∧ f 12 = .int .i64 ((i : Nat) : Int) ∧ f 13 = .int .i64 ((j : Nat) : Int) ∧ (Blk h c (.cells #[.map (some r)] 159 (0, 0))) ∧ (MapIs h r kI kI m) ∧ (Grown h0 h v v) ∧ (OwnIs h B 3 1 encI v E.toList) ∧ (partLoop (ltOf' (bef m)) a i j E = partLoop (ltOf' (bef m)) a (y + 1) (w - 1) (swp D y w)) ∧ (E.toList.length = n) ∧ (a + 1 ≤ i ∧ i ≤ j + 2 ∧ a ≤ j ∧ j + 1 ≤ b)) (fun s => match s with | (E, i, j) => j + 2 - i) (swp D y w, y + 1, w - 1) ?_ ?_
        · refine ⟨rfl, rfl, rfl, rfl, rfl, ?_, ?_, ?_, ?_, ?_, ?_, ?_⟩
          · exact hC
          · exact hM
          · exact hG
          · rw [swpL] at hO; exact hO
          · rfl
          · exact swp_dl _ _ _ hD
          · omega
        · rintro ⟨E, i, j⟩ f13 hh13 ⟨e0, e1, e4, e12, e13, hC, hM, hG, hO, hT, hEl, hij⟩
          refine HW.fr [(0, v), (1, .int .i64 ((a : Nat) : Int)), (4, .func (.func 130) #[.pointer (some ⟨c, 0, none⟩)] #[]), (12, .int .i64 ((i : Nat) : Int)), (13, .int .i64 ((j : Nat) : Int))] ⟨e0, e1, e4, e12, e13, trivial⟩ ?_
          refine HW.block ?_
          refine HW.seq_mid (fun f h => ∃ (y2 : Nat), f 0 = v ∧ f 1 = .int .i64 ((a : Nat) : Int) ∧ f 4 = .func (.func 130) #[.pointer (some ⟨c, 0, none⟩)] #[] ∧ f 12 = .int .i64 ((y2 : Nat) : Int) ∧ f 13 = .int .i64 ((j : Nat) : Int) ∧ (Blk h c (.cells #[.map (some r)] 159 (0, 0))) ∧ (MapIs h r kI kI m) ∧ (Grown h0 h v v) ∧ (OwnIs h B 3 1 encI v E.toList) ∧ (scanUp (fun x => (ltOf' (bef m)) x E[a]!) E j i = y2) ∧ (i ≤ y2 ∧ y2 ≤ j + 2)) ?_ ?_
          · refine HW.block ?_
            refine HW.loop (S := Nat) (fun x f h => f 0 = v ∧ f 1 = .int .i64 ((a : Nat) : Int) ∧ f 4 = .func (.func 130) #[.pointer (some ⟨c, 0, none⟩)] #[] ∧ f 12 = .int .i64 ((x : Nat) : Int) ∧ f 13 = .int .i64 ((j : Nat) : Int) ∧ (Blk h c (.cells #[.map (some r)] 159 (0, 0))) ∧ (MapIs h r kI kI m) ∧ (Grown h0 h v v) ∧ (OwnIs h B 3 1 encI v E.toList) ∧ (scanUp (fun x => (ltOf' (bef m)) x E[a]!) E j x = scanUp (fun x => (ltOf' (bef m)) x E[a]!) E j i) ∧ (i ≤ x ∧ x ≤ j + 2)) (fun x => j + 2 - x) (i) ?_ ?_
            · refine ⟨rfl, rfl, rfl, rfl, rfl, ?_, ?_, ?_, ?_, ?_, ?_⟩
              · exact hC
              · exact hM
              · exact hG
              · exact hO
              · rfl
              · omega
            · rintro x f14 hh14 ⟨e0, e1, e4, e12, e13, hC, hM, hG, hO, hxx, hxb⟩
              refine HW.fr [(0, v), (1, .int .i64 ((a : Nat) : Int)), (4, .func (.func 130) #[.pointer (some ⟨c, 0, none⟩)] #[]), (12, .int .i64 ((x : Nat) : Int)), (13, .int .i64 ((j : Nat) : Int))] ⟨e0, e1, e4, e12, e13, trivial⟩ ?_
              refine HW.seq ?_
              refine HW.seq ?_
              refine HW.regionD 16 mixed (fun h => (Blk h c (.cells #[.map (some r)] 159 (0, 0))) ∧ (MapIs h r kI kI m) ∧ (Grown h0 h v v) ∧ (OwnIs h B 3 1 encI v E.toList)) [] [(0, true), (1, true), (2, true), (3, true), (4, true), (5, true), (6, true), (7, true), (8, true), (9, true), (10, true), (11, true), (12, true), (13, false), (14, true), (15, true)] (by kernel_rfl) ?_
              refine HM.val (v := .int .i64 ((x : Nat) : Int)) rfl rfl (want_none) rfl (fun _ ⟨hC, hM, hG, hO⟩ => q_move rfl) ?_
              refine HM.val (v := .int .i64 ((j : Nat) : Int)) rfl rfl (want_none) rfl (fun _ ⟨hC, hM, hG, hO⟩ => q_move rfl) ?_
              refine HM.val (v := .bool (decide (((x : Nat) : Int) ≤ ((j : Nat) : Int)))) rfl rfl (want_none) rfl (fun _ ⟨hC, hM, hG, hO⟩ => q_leq rfl rfl) ?_
              refine HM.val (v := .bool (decide (((x : Nat) : Int) ≤ ((j : Nat) : Int)))) rfl rfl (want_none) rfl (fun _ ⟨hC, hM, hG, hO⟩ => q_move rfl) ?_
              rcases Bool.eq_false_or_eq_true (decide (((x : Nat) : Int) ≤ ((j : Nat) : Int))) with g6 | g6
              · have g6p := of_decide_eq_true g6
                refine HM.val (v := .func (.func 130) #[.pointer (some ⟨c, 0, none⟩)] #[]) rfl rfl (want_by rfl rfl g6) rfl (fun _ ⟨hC, hM, hG, hO⟩ => q_move rfl) ?_
                refine HM.val (v := v) rfl rfl (want_by rfl rfl g6) rfl (fun _ ⟨hC, hM, hG, hO⟩ => q_move rfl) ?_
                refine HM.val (v := .int .i64 ((x : Nat) : Int)) rfl rfl (want_by rfl rfl g6) rfl (fun _ ⟨hC, hM, hG, hO⟩ => q_move rfl) ?_
                refine HM.val (v := elemPtr 1 v x) rfl rfl (want_by rfl rfl g6) rfl (fun _ ⟨hC, hM, hG, hO⟩ => q_indexAddrV (i := x) ts_22 hV rfl rfl (by omega)) ?_
                refine HM.val (v := .int .i64 (E[x]!)) rfl rfl (want_by rfl rfl g6) rfl (fun _ ⟨hC, hM, hG, hO⟩ => q_loadElemQ to_3 hO.slice rfl (getE (by omega)) rfl) ?_
                refine HM.val (v := v) rfl rfl (want_by rfl rfl g6) rfl (fun _ ⟨hC, hM, hG, hO⟩ => q_move rfl) ?_
                refine HM.val (v := .int .i64 ((a : Nat) : Int)) rfl rfl (want_by rfl rfl g6) rfl (fun _ ⟨hC, hM, hG, hO⟩ => q_move rfl) ?_
                refine HM.val (v := elemPtr 1 v a) rfl rfl (want_by rfl rfl g6) rfl (fun _ ⟨hC, hM, hG, hO⟩ => q_indexAddrV (i := a) ts_22 hV rfl rfl (by omega)) ?_
                refine HM.val (v := .int .i64 (E[a]!)) rfl rfl (want_by rfl rfl g6) rfl (fun _ ⟨hC, hM, hG, hO⟩ => q_loadElemQ to_3 hO.slice rfl (getE (by omega)) rfl) ?_
                refine HM.call ⟨⟨hC, hM, hG, hO⟩, Go.HL.at_nil _ _⟩ rfl (want_by rfl rfl g6) rfl (ec en_130 rfl rfl) (before_spec' c r m _ hC hM (E[x]!) (E[a]!)) ?_
                rintro _ h15 ⟨rfl, hx⟩
                replace hC := hC.ext hx
                replace hM := hM.ext hx
                replace hG := hG.ext hx
                replace hO := hO.ext hx
                have hxs := hx.size
                refine HM.val (v := .bool (decide ((bef m (E[x]!) (E[a]!)) < 0))) rfl rfl (want_by rfl rfl g6) rfl (fun _ ⟨hC, hM, hG, hO⟩ => q_lss rfl rfl) ?_
                refine HM.val (v := .bool (decide ((bef m (E[x]!) (E[a]!)) < 0))) rfl rfl (want_none) rfl (fun _ ⟨hC, hM, hG, hO⟩ => q_pickK true rfl g6 rfl) ?_
                refine HM.nil ⟨⟨hC, hM, hG, hO⟩, Go.HL.at_nil _ _⟩ (thenQ_normal (?_))
                refine HW.cond (decide ((bef m (E[x]!) (E[a]!)) < 0)) rfl (fun c7 => ?_) (fun c7 => ?_)
                · have c7p := of_decide_eq_true c7
                  refine HW.skip (thenQ_normal (?_))
                  refine HW.block ?_
                  refine HW.region ?_
                  refine HO.val (v := .int .i64 ((x : Nat) : Int)) (want_none) rfl (q_move rfl) ?_
                  refine HO.val (v := .int .i64 ((x + 1 : Nat) : Int)) (want_none) rfl (q_addN ((x + 1 : Nat) : Int) rfl rfl (by omega) (by omega) (by omega)) ?_
                  refine HO.val (v := .int .i64 ((x + 1 : Nat) : Int)) (want_none) rfl (q_assign rfl) ?_
                  refine HO.nil (blockQ_normal (thenQ_normal (?_)))
                  refine ⟨(x + 1), ⟨rfl, rfl, rfl, rfl, rfl, ?_, ?_, ?_, ?_, ?_, ?_⟩, ?_⟩
                  · exact hC
                  · exact hM
                  · exact hG
                  · exact hO
                  · rw [up_go (p := (fun x => (ltOf' (bef m)) x E[a]!)) (by omega) c7]; exact hxx
                  · omega
                  · omega
                · have c7p := of_decide_eq_false c7
                  refine HW.exit (thenQ_exit (thenQ_exit (blockQ_exit (thenQ_normal (?_)))))
                  refine ⟨x, rfl, rfl, rfl, rfl, rfl, ?_, ?_, ?_, ?_, ?_, ?_⟩
                  · exact hC
                  · exact hM
                  · exact hG
                  · exact hO
                  · rw [← hxx]; exact up_no (p := (fun x => (ltOf' (bef m)) x E[a]!)) c7
                  · omega
              · have g6p := of_decide_eq_false g6
                refine HM.past rfl rfl (past_by rfl rfl g6) rfl ?_
                refine HM.past rfl rfl (past_by rfl rfl g6) rfl ?_
                refine HM.past rfl rfl (past_by rfl rfl g6) rfl ?_
                refine HM.past rfl rfl (past_by rfl rfl g6) rfl ?_
                refine HM.past rfl rfl (past_by rfl rfl g6) rfl ?_
                refine HM.past rfl rfl (past_by rfl rfl g6) rfl ?_
                refine HM.past rfl rfl (past_by rfl rfl g6) rfl ?_
                refine HM.past rfl rfl (past_by rfl rfl g6) rfl ?_
                refine HM.past rfl rfl (past_by rfl rfl g6) rfl ?_
                refine HM.pastF ⟨⟨hC, hM, hG, hO⟩, Go.HL.at_nil _ _⟩ rfl (past_by rfl rfl g6) rfl ?_
                refine HM.past rfl rfl (past_by rfl rfl g6) rfl ?_
                refine HM.val (v := .bool false) rfl rfl (want_none) rfl (fun _ ⟨hC, hM, hG, hO⟩ => q_pickK false rfl g6 rfl) ?_
                refine HM.nil ⟨⟨hC, hM, hG, hO⟩, Go.HL.at_nil _ _⟩ (thenQ_normal (?_))
                refine HW.condF rfl ?_
                refine HW.exit (thenQ_exit (thenQ_exit (blockQ_exit (thenQ_normal (?_)))))
                refine ⟨x, rfl, rfl, rfl, rfl, rfl, ?_, ?_, ?_, ?_, ?_, ?_⟩
                · exact hC
                · exact hM
                · exact hG
                · exact hO
                · rw [← hxx]; exact up_out (p := (fun x => (ltOf' (bef m)) x E[a]!)) (by omega)
                · omega
          · rintro f16 hh16 ⟨y2, e0, e1, e4, e12, e13, hC, hM, hG, hO, hy2, hy2b⟩
            refine HW.fr [(0, v), (1, .int .i64 ((a : Nat) : Int)), (4, .func (.func 130) #[.pointer (some ⟨c, 0, none⟩)] #[]), (12, .int .i64 ((y2 : Nat) : Int)), (13, .int .i64 ((j : Nat) : Int))] ⟨e0, e1, e4, e12, e13, trivial⟩ ?_
            refine HW.seq_mid (fun f h => ∃ (w2 : Nat), f 0 = v ∧ f 1 = .int .i64 ((a : Nat) : Int) ∧ f 4 = .func (.func 130) #[.pointer (some ⟨c, 0, none⟩)] #[] ∧ f 12 = .int .i64 ((y2 : Nat) : Int) ∧ f 13 = .int .i64 ((w2 : Nat) : Int) ∧ (Blk h c (.cells #[.map (some r)] 159 (0, 0))) ∧ (MapIs h r kI kI m) ∧ (Grown h0 h v v) ∧ (OwnIs h B 3 1 encI v E.toList) ∧ (scanDown (fun x => !(ltOf' (bef m)) x E[a]!) E y2 j = w2) ∧ (a ≤ w2 ∧ w2 ≤ j)) ?_ ?_
            · refine HW.block ?_
              refine HW.loop (S := Nat) (fun z f h => f 0 = v ∧ f 1 = .int .i64 ((a : Nat) : Int) ∧ f 4 = .func (.func 130) #[.pointer (some ⟨c, 0, none⟩)] #[] ∧ f 12 = .int .i64 ((y2 : Nat) : Int) ∧ f 13 = .int .i64 ((z : Nat) : Int) ∧ (Blk h c (.cells #[.map (some r)] 159 (0, 0))) ∧ (MapIs h r kI kI m) ∧ (Grown h0 h v v) ∧ (OwnIs h B 3 1 encI v E.toList) ∧ (scanDown (fun x => !(ltOf' (bef m)) x E[a]!) E y2 z = scanDown (fun x => !(ltOf' (bef m)) x E[a]!) E y2 j) ∧ (a ≤ z ∧ z ≤ j)) (fun z => z) (j) ?_ ?_
              · refine ⟨rfl, rfl, rfl, rfl, rfl, ?_, ?_, ?_, ?_, ?_, ?_⟩
                · exact hC
                · exact hM
                · exact hG
                · exact hO
                · rfl
                · omega
              · rintro z f17 hh17 ⟨e0, e1, e4, e12, e13, hC, hM, hG, hO, hxx, hxb⟩
                refine HW.fr [(0, v), (1, .int .i64 ((a : Nat) : Int)), (4, .func (.func 130) #[.pointer (some ⟨c, 0, none⟩)] #[]), (12, .int .i64 ((y2 : Nat) : Int)), (13, .int .i64 ((z : Nat) : Int))] ⟨e0, e1, e4, e12, e13, trivial⟩ ?_
                refine HW.seq ?_
                refine HW.seq ?_
                refine HW.regionD 17 mixed (fun h => (Blk h c (.cells #[.map (some r)] 159 (0, 0))) ∧ (MapIs h r kI kI m) ∧ (Grown h0 h v v) ∧ (OwnIs h B 3 1 encI v E.toList)) [] [(0, true), (1, true), (2, true), (3, true), (4, true), (5, true), (6, true), (7, true), (8, true), (9, true), (10, true), (11, true), (12, true), (13, false), (14, true), (15, true), (16, true)] (by kernel_rfl) ?_
                refine HM.val (v := .int .i64 ((y2 : Nat) : Int)) rfl rfl (want_none) rfl (fun _ ⟨hC, hM, hG, hO⟩ => q_move rfl) ?_
                refine HM.val (v := .int .i64 ((z : Nat) : Int)) rfl rfl (want_none) rfl (fun _ ⟨hC, hM, hG, hO⟩ => q_move rfl) ?_
                refine HM.val (v := .bool (decide (((y2 : Nat) : Int) ≤ ((z : Nat) : Int)))) rfl rfl (want_none) rfl (fun _ ⟨hC, hM, hG, hO⟩ => q_leq rfl rfl) ?_
                refine HM.val (v := .bool (decide (((y2 : Nat) : Int) ≤ ((z : Nat) : Int)))) rfl rfl (want_none) rfl (fun _ ⟨hC, hM, hG, hO⟩ => q_move rfl) ?_
                rcases Bool.eq_false_or_eq_true (decide (((y2 : Nat) : Int) ≤ ((z : Nat) : Int))) with g8 | g8
                · have g8p := of_decide_eq_true g8
                  refine HM.val (v := .func (.func 130) #[.pointer (some ⟨c, 0, none⟩)] #[]) rfl rfl (want_by rfl rfl g8) rfl (fun _ ⟨hC, hM, hG, hO⟩ => q_move rfl) ?_
                  refine HM.val (v := v) rfl rfl (want_by rfl rfl g8) rfl (fun _ ⟨hC, hM, hG, hO⟩ => q_move rfl) ?_
                  refine HM.val (v := .int .i64 ((z : Nat) : Int)) rfl rfl (want_by rfl rfl g8) rfl (fun _ ⟨hC, hM, hG, hO⟩ => q_move rfl) ?_
                  refine HM.val (v := elemPtr 1 v z) rfl rfl (want_by rfl rfl g8) rfl (fun _ ⟨hC, hM, hG, hO⟩ => q_indexAddrV (i := z) ts_22 hV rfl rfl (by omega)) ?_
                  refine HM.val (v := .int .i64 (E[z]!)) rfl rfl (want_by rfl rfl g8) rfl (fun _ ⟨hC, hM, hG, hO⟩ => q_loadElemQ to_3 hO.slice rfl (getE (by omega)) rfl) ?_
                  refine HM.val (v := v) rfl rfl (want_by rfl rfl g8) rfl (fun _ ⟨hC, hM, hG, hO⟩ => q_move rfl) ?_
                  refine HM.val (v := .int .i64 ((a : Nat) : Int)) rfl rfl (want_by rfl rfl g8) rfl (fun _ ⟨hC, hM, hG, hO⟩ => q_move rfl) ?_
                  refine HM.val (v := elemPtr 1 v a) rfl rfl (want_by rfl rfl g8) rfl (fun _ ⟨hC, hM, hG, hO⟩ => q_indexAddrV (i := a) ts_22 hV rfl rfl (by omega)) ?_
                  refine HM.val (v := .int .i64 (E[a]!)) rfl rfl (want_by rfl rfl g8) rfl (fun _ ⟨hC, hM, hG, hO⟩ => q_loadElemQ to_3 hO.slice rfl (getE (by omega)) rfl) ?_
                  refine HM.call ⟨⟨hC, hM, hG, hO⟩, Go.HL.at_nil _ _⟩ rfl (want_by rfl rfl g8) rfl (ec en_130 rfl rfl) (before_spec' c r m _ hC hM (E[z]!) (E[a]!)) ?_
                  rintro _ h18 ⟨rfl, hx⟩
                  replace hC := hC.ext hx
                  replace hM := hM.ext hx
                  replace hG := hG.ext hx
                  replace hO := hO.ext hx
                  have hxs := hx.size
                  refine HM.val (v := .bool (decide ((bef m (E[z]!) (E[a]!)) < 0))) rfl rfl (want_by rfl rfl g8) rfl (fun _ ⟨hC, hM, hG, hO⟩ => q_lss rfl rfl) ?_
                  refine HM.val (v := .bool (!(decide ((bef m (E[z]!) (E[a]!)) < 0)))) rfl rfl (want_by rfl rfl g8) rfl (fun _ ⟨hC, hM, hG, hO⟩ => q_not rfl) ?_
                  refine HM.val (v := .bool (!(decide ((bef m (E[z]!) (E[a]!)) < 0)))) rfl rfl (want_none) rfl (fun _ ⟨hC, hM, hG, hO⟩ => q_pickK true rfl g8 rfl) ?_
                  refine HM.nil ⟨⟨hC, hM, hG, hO⟩, Go.HL.at_nil _ _⟩ (thenQ_normal (?_))
                  refine HW.cond (!(decide ((bef m (E[z]!) (E[a]!)) < 0))) rfl (fun c9 => ?_) (fun c9 => ?_)
                  · have c9p : ¬ ((bef m (E[z]!) (E[a]!)) < 0) := by simpa using c9
                    refine HW.skip (thenQ_normal (?_))
                    refine HW.block ?_
                    refine HW.region ?_
                    refine HO.val (v := .int .i64 ((z : Nat) : Int)) (want_none) rfl (q_move rfl) ?_
                    refine HO.val (v := .int .i64 ((z - 1 : Nat) : Int)) (want_none) rfl (q_subN ((z - 1 : Nat) : Int) rfl rfl (by omega) (by omega) (by omega)) ?_
                    refine HO.val (v := .int .i64 ((z - 1 : Nat) : Int)) (want_none) rfl (q_assign rfl) ?_
                    refine HO.nil (blockQ_normal (thenQ_normal (?_)))
                    refine ⟨(z - 1), ⟨rfl, rfl, rfl, rfl, rfl, ?_, ?_, ?_, ?_, ?_, ?_⟩, ?_⟩
                    · exact hC
                    · exact hM
                    · exact hG
                    · exact hO
                    · rw [dn_go (p := (fun x => !(ltOf' (bef m)) x E[a]!)) (by omega) (by omega) (congrArg not (show (ltOf' (bef m)) (E[z]!) (E[a]!) = false from by simpa [ltOf'] using c9))]; exact hxx
                    · omega
                    · omega
                  · have c9p : ((bef m (E[z]!) (E[a]!)) < 0) := by simpa using c9
                    refine HW.exit (thenQ_exit (thenQ_exit (blockQ_exit (thenQ_normal (?_)))))
                    refine ⟨z, rfl, rfl, rfl, rfl, rfl, ?_, ?_, ?_, ?_, ?_, ?_⟩
                    · exact hC
                    · exact hM
                    · exact hG
                    · exact hO
                    · rw [← hxx]; exact dn_no (p := (fun x => !(ltOf' (bef m)) x E[a]!)) (congrArg not (show (ltOf' (bef m)) (E[z]!) (E[a]!) = true from by simpa [ltOf'] using c9))
                    · omega
                · have g8p := of_decide_eq_false g8
                  refine HM.past rfl rfl (past_by rfl rfl g8) rfl ?_
                  refine HM.past rfl rfl (past_by rfl rfl g8) rfl ?_
                  refine HM.past rfl rfl (past_by rfl rfl g8) rfl ?_
                  refine HM.past rfl rfl (past_by rfl rfl g8) rfl ?_
                  refine HM.past rfl rfl (past_by rfl rfl g8) rfl ?_
                  refine HM.past rfl rfl (past_by rfl rfl g8) rfl ?_
                  refine HM.past rfl rfl (past_by rfl rfl g8) rfl ?_
                  refine HM.past rfl rfl (past_by rfl rfl g8) rfl ?_
                  refine HM.past rfl rfl (past_by rfl rfl g8) rfl ?_
                  refine HM.pastF ⟨⟨hC, hM, hG, hO⟩, Go.HL.at_nil _ _⟩ rfl (past_by rfl rfl g8) rfl ?_
                  refine HM.past rfl rfl (past_by rfl rfl g8) rfl ?_
                  refine HM.past rfl rfl (past_by rfl rfl g8) rfl ?_
                  refine HM.val (v := .bool false) rfl rfl (want_none) rfl (fun _ ⟨hC, hM, hG, hO⟩ => q_pickK false rfl g8 rfl) ?_
                  refine HM.nil ⟨⟨hC, hM, hG, hO⟩, Go.HL.at_nil _ _⟩ (thenQ_normal (?_))
                  refine HW.condF rfl ?_
                  refine HW.exit (thenQ_exit (thenQ_exit (blockQ_exit (thenQ_normal (?_)))))
                  refine ⟨z, rfl, rfl, rfl, rfl, rfl, ?_, ?_, ?_, ?_, ?_, ?_⟩
                  · exact hC
                  · exact hM
                  · exact hG
                  · exact hO
                  · rw [← hxx]; exact dn_out (p := (fun x => !(ltOf' (bef m)) x E[a]!)) (by omega)
                  · omega
            · rintro f19 hh19 ⟨w2, e0, e1, e4, e12, e13, hC, hM, hG, hO, hw2, hw2b⟩
              refine HW.fr [(0, v), (1, .int .i64 ((a : Nat) : Int)), (4, .func (.func 130) #[.pointer (some ⟨c, 0, none⟩)] #[]), (12, .int .i64 ((y2 : Nat) : Int)), (13, .int .i64 ((w2 : Nat) : Int))] ⟨e0, e1, e4, e12, e13, trivial⟩ ?_
              refine HW.seq ?_
              refine HW.seq ?_
              refine HW.region ?_
              refine HO.val (v := .int .i64 ((y2 : Nat) : Int)) (want_none) rfl (q_move rfl) ?_
              refine HO.val (v := .int .i64 ((w2 : Nat) : Int)) (want_none) rfl (q_move rfl) ?_
              refine HO.val (v := .bool (decide (((w2 : Nat) : Int) < ((y2 : Nat) : Int)))) (want_none) rfl (q_gtr rfl rfl) ?_
              refine HO.nil (thenQ_normal (?_))
              refine HW.cond (decide (((w2 : Nat) : Int) < ((y2 : Nat) : Int))) rfl (fun c10 => ?_) (fun c10 => ?_)
              · have c10p := of_decide_eq_true c10
                refine HW.exit (thenQ_exit (blockQ_pass rfl (thenQ_exit (blockQ_exit (thenQ_normal (?_))))))
                refine HW.seq ?_
                refine HW.regionD 16 mixed (fun h => (Blk h c (.cells #[.map (some r)] 159 (0, 0))) ∧ (MapIs h r kI kI m) ∧ (Grown h0 h v v)) [(13, fun h => OwnIs h B 3 1 encI v E.toList)] [(0, true), (1, true), (2, true), (3, true), (4, true), (5, true), (6, true), (7, true), (8, true), (9, true), (10, true), (11, true), (12, true), (13, false), (14, true), (15, false)] (by kernel_rfl) ?_
                refine HM.val (v := v) rfl rfl (want_none) rfl (fun _ ⟨hC, hM, hG⟩ => q_move rfl) ?_
                refine HM.val (v := .int .i64 ((w2 : Nat) : Int)) rfl rfl (want_none) rfl (fun _ ⟨hC, hM, hG⟩ => q_move rfl) ?_
                refine HM.val (v := v) rfl rfl (want_none) rfl (fun _ ⟨hC, hM, hG⟩ => q_move rfl) ?_
                refine HM.val (v := .int .i64 ((a : Nat) : Int)) rfl rfl (want_none) rfl (fun _ ⟨hC, hM, hG⟩ => q_move rfl) ?_
                refine HM.val (v := v) rfl rfl (want_none) rfl (fun _ ⟨hC, hM, hG⟩ => q_move rfl) ?_
                refine HM.val (v := .int .i64 ((a : Nat) : Int)) rfl rfl (want_none) rfl (fun _ ⟨hC, hM, hG⟩ => q_move rfl) ?_
                refine HM.val (v := elemPtr 1 v a) rfl rfl (want_none) rfl (fun _ ⟨hC, hM, hG⟩ => q_indexAddrV (i := a) ts_22 hV rfl rfl (by omega)) ?_
                refine HM.valT (v := .int .i64 (E[a]!)) 13 (fun h => OwnIs h B 3 1 encI v E.toList) rfl rfl (want_none) rfl (by simp) (by kernel_rfl) (fun _ _ hO => q_loadElemQ to_3 hO.slice rfl (getE (by omega)) rfl) ?_
                refine HM.val (v := v) rfl rfl (want_none) rfl (fun _ ⟨hC, hM, hG⟩ => q_move rfl) ?_
                refine HM.val (v := .int .i64 ((w2 : Nat) : Int)) rfl rfl (want_none) rfl (fun _ ⟨hC, hM, hG⟩ => q_move rfl) ?_
                refine HM.val (v := elemPtr 1 v w2) rfl rfl (want_none) rfl (fun _ ⟨hC, hM, hG⟩ => q_indexAddrV (i := w2) ts_22 hV rfl rfl (by omega)) ?_
                refine HM.valT (v := .int .i64 (E[w2]!)) 13 (fun h => OwnIs h B 3 1 encI v E.toList) rfl rfl (want_none) rfl (by simp) (by kernel_rfl) (fun _ _ hO => q_loadElemQ to_3 hO.slice rfl (getE (by omega)) rfl) ?_
                refine HM.val (v := elemPtr 1 v w2) rfl rfl (want_none) rfl (fun _ ⟨hC, hM, hG⟩ => q_indexAddrV (i := w2) ts_22 hV rfl rfl (by omega)) ?_
                refine HM.sto ⟨⟨hC, hM, hG⟩, by intro c hc hl; obtain rfl := List.mem_singleton.1 hc; first | exact absurd hl (by dsimp only; decide) | exact hO⟩ rfl (want_none) rfl (s_storeElem (a := E[a]!) to_3 hO rfl (by first | omega | (simp only [List.length_set]; omega) | (simp; omega)) rfl rfl rfl rfl) ?_
                rintro h20 ⟨hO', hg⟩
                replace hC := hC.grown hg hvc
                replace hM := hM.grown hg hvr
                replace hG := hG.trans hg
                replace hO := hO'
                have hgs := hg.size; clear hg
                refine HM.val (v := elemPtr 1 v a) rfl rfl (want_none) rfl (fun _ ⟨hC, hM, hG⟩ => q_indexAddrV (i := a) ts_22 hV rfl rfl (by omega)) ?_
                refine HM.sto ⟨⟨hC, hM, hG⟩, by intro c hc hl; obtain rfl := List.mem_singleton.1 hc; first | exact absurd hl (by dsimp only; decide) | exact hO⟩ rfl (want_none) rfl (s_storeElem (a := E[w2]!) to_3 hO rfl (by first | omega | (simp only [List.length_set]; omega) | (simp; omega)) rfl rfl rfl rfl) ?_
                rintro h21 ⟨hO', hg⟩
                replace hC := hC.grown hg hvc
                replace hM := hM.grown hg hvr
                replace hG := hG.trans hg
                replace hO := hO'
                have hgs := hg.size; clear hg
                refine HM.nil ⟨⟨hC, hM, hG⟩, by intro c hc hl; obtain rfl := List.mem_singleton.1 hc; first | exact absurd hl (by dsimp only; decide) | exact hO⟩ (thenQ_normal (?_))
                refine HW.seq ?_
                refine HW.region ?_
                refine HO.val (v := .int .i64 ((w2 : Nat) : Int)) (want_none) rfl (q_move rfl) ?_
                refine HO.val (v := .int .i64 ((w2 : Nat) : Int)) (want_none) rfl (q_assign rfl) ?_
                refine HO.val (v := .bool false) (want_none) rfl (q_assign rfl) ?_
                refine HO.nil (thenQ_normal (?_))
                refine HW.ret (?_)
                refine ⟨.inr rfl, .tuple #[.int .i64 ((w2 : Nat) : Int), .bool false], res_two rfl rfl rfl, ?_⟩
                have hT2 := pl_stop hy2 hw2 (by omega)
                rw [hT] at hT2
                have q := pt_b hDD hy hw (by omega) hT2
                rw [swpL] at hO
                rw [q]; exact ⟨rfl, hO, hG, hC, hM⟩
              · have c10p := of_decide_eq_false c10
                refine HW.skip (thenQ_normal (?_))
                refine HW.seq ?_
                refine HW.regionD 16 mixed (fun h => (Blk h c (.cells #[.map (some r)] 159 (0, 0))) ∧ (MapIs h r kI kI m) ∧ (Grown h0 h v v)) [(13, fun h => OwnIs h B 3 1 encI v E.toList)] [(0, true), (1, true), (2, true), (3, true), (4, true), (5, true), (6, true), (7, true), (8, true), (9, true), (10, true), (11, true), (12, true), (13, false), (14, true), (15, false)] (by kernel_rfl) ?_
                refine HM.val (v := v) rfl rfl (want_none) rfl (fun _ ⟨hC, hM, hG⟩ => q_move rfl) ?_
                refine HM.val (v := .int .i64 ((y2 : Nat) : Int)) rfl rfl (want_none) rfl (fun _ ⟨hC, hM, hG⟩ => q_move rfl) ?_
                refine HM.val (v := v) rfl rfl (want_none) rfl (fun _ ⟨hC, hM, hG⟩ => q_move rfl) ?_
                refine HM.val (v := .int .i64 ((w2 : Nat) : Int)) rfl rfl (want_none) rfl (fun _ ⟨hC, hM, hG⟩ => q_move rfl) ?_
                refine HM.val (v := v) rfl rfl (want_none) rfl (fun _ ⟨hC, hM, hG⟩ => q_move rfl) ?_
                refine HM.val (v := .int .i64 ((w2 : Nat) : Int)) rfl rfl (want_none) rfl (fun _ ⟨hC, hM, hG⟩ => q_move rfl) ?_
                refine HM.val (v := elemPtr 1 v w2) rfl rfl (want_none) rfl (fun _ ⟨hC, hM, hG⟩ => q_indexAddrV (i := w2) ts_22 hV rfl rfl (by omega)) ?_
                refine HM.valT (v := .int .i64 (E[w2]!)) 13 (fun h => OwnIs h B 3 1 encI v E.toList) rfl rfl (want_none) rfl (by simp) (by kernel_rfl) (fun _ _ hO => q_loadElemQ to_3 hO.slice rfl (getE (by omega)) rfl) ?_
                refine HM.val (v := v) rfl rfl (want_none) rfl (fun _ ⟨hC, hM, hG⟩ => q_move rfl) ?_
                refine HM.val (v := .int .i64 ((y2 : Nat) : Int)) rfl rfl (want_none) rfl (fun _ ⟨hC, hM, hG⟩ => q_move rfl) ?_
                refine HM.val (v := elemPtr 1 v y2) rfl rfl (want_none) rfl (fun _ ⟨hC, hM, hG⟩ => q_indexAddrV (i := y2) ts_22 hV rfl rfl (by omega)) ?_
                refine HM.valT (v := .int .i64 (E[y2]!)) 13 (fun h => OwnIs h B 3 1 encI v E.toList) rfl rfl (want_none) rfl (by simp) (by kernel_rfl) (fun _ _ hO => q_loadElemQ to_3 hO.slice rfl (getE (by omega)) rfl) ?_
                refine HM.val (v := elemPtr 1 v y2) rfl rfl (want_none) rfl (fun _ ⟨hC, hM, hG⟩ => q_indexAddrV (i := y2) ts_22 hV rfl rfl (by omega)) ?_
                refine HM.sto ⟨⟨hC, hM, hG⟩, by intro c hc hl; obtain rfl := List.mem_singleton.1 hc; first | exact absurd hl (by dsimp only; decide) | exact hO⟩ rfl (want_none) rfl (s_storeElem (a := E[w2]!) to_3 hO rfl (by first | omega | (simp only [List.length_set]; omega) | (simp; omega)) rfl rfl rfl rfl) ?_
                rintro h22 ⟨hO', hg⟩
                replace hC := hC.grown hg hvc
                replace hM := hM.grown hg hvr
                replace hG := hG.trans hg
                replace hO := hO'
                have hgs := hg.size; clear hg
                refine HM.val (v := elemPtr 1 v w2) rfl rfl (want_none) rfl (fun _ ⟨hC, hM, hG⟩ => q_indexAddrV (i := w2) ts_22 hV rfl rfl (by omega)) ?_
                refine HM.sto ⟨⟨hC, hM, hG⟩, by intro c hc hl; obtain rfl := List.mem_singleton.1 hc; first | exact absurd hl (by dsimp only; decide) | exact hO⟩ rfl (want_none) rfl (s_storeElem (a := E[y2]!) to_3 hO rfl (by first | omega | (simp only [List.length_set]; omega) | (simp; omega)) rfl rfl rfl rfl) ?_
                rintro h23 ⟨hO', hg⟩
                replace hC := hC.grown hg hvc
                replace hM := hM.grown hg hvr
                replace hG := hG.trans hg
                replace hO := hO'
                have hgs := hg.size; clear hg
                refine HM.nil ⟨⟨hC, hM, hG⟩, by intro c hc hl; obtain rfl := List.mem_singleton.1 hc; first | exact absurd hl (by dsimp only; decide) | exact hO⟩ (thenQ_normal (?_))
                refine HW.seq ?_
                refine HW.region ?_
                refine HO.val (v := .int .i64 ((y2 : Nat) : Int)) (want_none) rfl (q_move rfl) ?_
                refine HO.val (v := .int .i64 ((y2 + 1 : Nat) : Int)) (want_none) rfl (q_addN ((y2 + 1 : Nat) : Int) rfl rfl (by omega) (by omega) (by omega)) ?_
                refine HO.val (v := .int .i64 ((y2 + 1 : Nat) : Int)) (want_none) rfl (q_assign rfl) ?_
                refine HO.nil (thenQ_normal (?_))
                refine HW.region ?_
                refine HO.val (v := .int .i64 ((w2 : Nat) : Int)) (want_none) rfl (q_move rfl) ?_
                refine HO.val (v := .int .i64 ((w2 - 1 : Nat) : Int)) (want_none) rfl (q_subN ((w2 - 1 : Nat) : Int) rfl rfl (by omega) (by omega) (by omega)) ?_
                refine HO.val (v := .int .i64 ((w2 - 1 : Nat) : Int)) (want_none) rfl (q_assign rfl) ?_
                refine HO.nil (blockQ_normal (thenQ_normal (?_)))
                refine ⟨(swp E y2 w2, y2 + 1, w2 - 1), ⟨rfl, rfl, rfl, rfl, rfl, ?_, ?_, ?_, ?_, ?_, ?_, ?_⟩, ?_⟩
                · exact hC
                · exact hM
                · exact hG
                · rw [swpL] at hO; exact hO
                · rw [pl_go hy2 hw2 (by omega) (by omega) (by omega) (by omega)]; exact hT
                · exact swp_dl _ _ _ hEl
                · omega
                · dsimp only; omega
end Go.HL.CI
