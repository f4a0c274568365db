/- Go's pdqsort by a clock's order: how its pivot is chosen. -/
import Derived.Test.YtnemfpgfgblpbaaSortFull
set_option linter.unusedSimpArgs false
set_option linter.unusedVariables false
set_option linter.unusedSectionVars false
namespace Go.HL.CI
open Go.Proofs Go.Sort
theorem en_213 (args : Array Value) (w : World) : (callFunc 213 args).run Try.prog w = .ok (.enter 213 args) w := by kernel_rfl
theorem en_209 (args : Array Value) (w : World) : (callFunc 209 args).run Try.prog w = .ok (.enter 209 args) w := by kernel_rfl
theorem en_208 (args : Array Value) (w : World) : (callFunc 208 args).run Try.prog w = .ok (.enter 208 args) w := by kernel_rfl
theorem ord_t {lt : Int → Int → Bool} {d : Array Int} {a b s : Nat} (h : lt d[b]! d[a]! = true) : order2 lt d a b s = (b, a, s + 1) := by unfold order2; rw [if_pos h]
theorem ord_f {lt : Int → Int → Bool} {d : Array Int} {a b s : Nat} (h : lt d[b]! d[a]! = false) : order2 lt d a b s = (a, b, s) := by unfold order2; rw [if_neg (by simp [h])]
/-- The hint as Go has it. -/
def hcode : Hint → Int
  | .unknown => 0
  | .increasing => 1
  | .decreasing => 2
def hintOf (s : Nat) : Hint := if s = 0 then .increasing else if s = 12 then .decreasing else .unknown

set_option maxRecDepth 100000 in
theorem order2_spec (c r : Nat) (m : List (Int × Int)) (B n : Nat) (v : Value) (d : Array Int) (h0 : Heap) (hC : Blk h0 c (.cells #[.map (some r)] 159 (0, 0))) (hM : MapIs h0 r kI kI m) (hO : OwnIs h0 B 3 1 encI v d.toList) (hvc : blockOf v ≠ some c) (hvr : blockOf v ≠ some r) (hd : d.toList.length = n) (hn : n ≤ 2305843009213693952) (a b : Nat) (hb1 : a < n) (hb2 : b < n) (q sw : Nat) (hQ : Blk h0 q (.cells #[.int .i64 ((sw : Nat) : Int)] 3 (0, 0))) (hqc : q ≠ c) (hqr : q ≠ r) (hqv : blockOf v ≠ some q) (hsw : sw ≤ 1000) :
    HC Try.prog 213 #[v, .int .i64 ((a : Nat) : Int), .int .i64 ((b : Nat) : Int), .pointer (some ⟨q, 0, none⟩), .func (.func 130) #[.pointer (some ⟨c, 0, none⟩)] #[]] h0 fun u h' => ∃ x y s, order2 (ltOf' (bef m)) d a b sw = (x, y, s) ∧ u = .tuple #[.int .i64 ((x : Nat) : Int), .int .i64 ((y : Nat) : Int)] ∧ x < n ∧ y < n ∧ s ≤ sw + 1 ∧ Blk h' q (.cells #[.int .i64 ((s : Nat) : Int)] 3 (0, 0)) ∧ OnlyL [q] h0 h' := by
  refine HC.of_HW (n := 32) Try.func213 rfl rfl (Nat.le_of_ble_eq_true rfl) ?_
  have hX := OnlyL.refl [q] h0
  refine HW.seq ?_
  refine HW.region ?_
  refine HO.val (v := .int .i64 0) (want_none) rfl (q_assign rfl) ?_
  refine HO.val (v := .int .i64 0) (want_none) rfl (q_assign rfl) ?_
  refine HO.nil (thenQ_normal (?_))
  refine HW.seq ?_
  refine HW.seq ?_
  refine HW.regionD 11 mixed (fun h => (Blk h c (.cells #[.map (some r)] 159 (0, 0))) ∧ (MapIs h r kI kI m) ∧ (OwnIs h B 3 1 encI v d.toList) ∧ (OnlyL [q] h0 h) ∧ (Blk h q (.cells #[.int .i64 ((sw : Nat) : Int)] 3 (0, 0)))) [] [(0, true), (1, true), (2, true), (3, true), (4, true), (5, true), (6, true), (7, true), (8, true), (9, false), (10, true)] (by kernel_rfl) ?_
  refine HM.val (v := .func (.func 130) #[.pointer (some ⟨c, 0, none⟩)] #[]) rfl rfl (want_none) rfl (fun _ ⟨hC, hM, hO, hX, hQ⟩ => q_move rfl) ?_
  refine HM.val (v := v) rfl rfl (want_none) rfl (fun _ ⟨hC, hM, hO, hX, hQ⟩ => q_move rfl) ?_
  refine HM.val (v := .int .i64 ((b : Nat) : Int)) rfl rfl (want_none) rfl (fun _ ⟨hC, hM, hO, hX, hQ⟩ => q_move rfl) ?_
  refine HM.val (v := elemPtr 1 v b) rfl rfl (want_none) rfl (fun _ ⟨hC, hM, hO, hX, hQ⟩ => q_indexAddr (i := b) ts_22 hO.slice rfl rfl (by omega)) ?_
  refine HM.val (v := .int .i64 (d[b]!)) rfl rfl (want_none) rfl (fun _ ⟨hC, hM, hO, hX, hQ⟩ => q_loadElemQ to_3 hO.slice rfl (getE (by omega)) rfl) ?_
  refine HM.val (v := v) rfl rfl (want_none) rfl (fun _ ⟨hC, hM, hO, hX, hQ⟩ => q_move rfl) ?_
  refine HM.val (v := .int .i64 ((a : Nat) : Int)) rfl rfl (want_none) rfl (fun _ ⟨hC, hM, hO, hX, hQ⟩ => q_move rfl) ?_
  refine HM.val (v := elemPtr 1 v a) rfl rfl (want_none) rfl (fun _ ⟨hC, hM, hO, hX, hQ⟩ => q_indexAddr (i := a) ts_22 hO.slice rfl rfl (by omega)) ?_
  refine HM.val (v := .int .i64 (d[a]!)) rfl rfl (want_none) rfl (fun _ ⟨hC, hM, hO, hX, hQ⟩ => q_loadElemQ to_3 hO.slice rfl (getE (by omega)) rfl) ?_
  refine HM.call ⟨⟨hC, hM, hO, hX, hQ⟩, Go.HL.at_nil _ _⟩ rfl (want_none) rfl (ec en_130 rfl rfl) (before_spec' c r m _ hC hM (d[b]!) (d[a]!)) ?_
  rintro _ h1 ⟨rfl, hx⟩
  replace hC := hC.ext hx
  replace hM := hM.ext hx
  replace hO := hO.ext hx
  replace hX := hX.ext hx
  replace hQ := hQ.ext hx
  have hxs := hx.size
  refine HM.val (v := .bool (decide ((bef m (d[b]!) (d[a]!)) < 0))) rfl rfl (want_none) rfl (fun _ ⟨hC, hM, hO, hX, hQ⟩ => q_lss rfl rfl) ?_
  refine HM.nil ⟨⟨hC, hM, hO, hX, hQ⟩, Go.HL.at_nil _ _⟩ (thenQ_normal (?_))
  refine HW.cond (decide ((bef m (d[b]!) (d[a]!)) < 0)) rfl (fun c1 => ?_) (fun c1 => ?_)
  · have c1p := of_decide_eq_true c1
    refine HW.seq ?_
    refine HW.region ?_
    refine HO.val (v := .pointer (some ⟨q, 0, none⟩)) (want_none) rfl (q_move rfl) ?_
    refine HO.val (v := .pointer (some ⟨q, 0, none⟩)) (want_none) rfl (q_nilCheck rfl) ?_
    refine HO.val (v := .int .i64 ((sw : Nat) : Int)) (want_none) rfl (q_load to_3 rfl (Blk.cell hQ rfl)) ?_
    refine HO.val (v := .int .i64 ((sw + 1 : Nat) : Int)) (want_none) rfl (q_addN ((sw + 1 : Nat) : Int) rfl rfl (by omega) (by omega) (by omega)) ?_
    refine HO.val (v := .pointer (some ⟨q, 0, none⟩)) (want_none) rfl (q_nilCheck rfl) ?_
    refine HO.sto (want_none) rfl (s_store (c' := #[.int .i64 ((sw + 1 : Nat) : Int)]) to_3 hQ rfl rfl rfl rfl (Nat.le_of_ble_eq_true rfl) rfl) ?_
    rintro h2 hu
    replace hC := hC.upd hu hqc.symm
    replace hM := hM.upd hu hqr.symm
    replace hO := hO.upd hu hqv
    replace hX := hX.upd hu (by simp)
    replace hQ : Blk h2 q (.cells #[.int .i64 ((sw + 1 : Nat) : Int)] 3 (0, 0)) := hu.blk rfl
    have hus := hu.size; clear hu
    refine HO.nil (thenQ_normal (?_))
    refine HW.seq ?_
    refine HW.region ?_
    refine HO.val (v := .int .i64 ((b : Nat) : Int)) (want_none) rfl (q_move rfl) ?_
    refine HO.val (v := .int .i64 ((a : Nat) : Int)) (want_none) rfl (q_move rfl) ?_
    refine HO.val (v := .int .i64 ((b : Nat) : Int)) (want_none) rfl (q_assign rfl) ?_
    refine HO.val (v := .int .i64 ((a : Nat) : Int)) (want_none) rfl (q_assign rfl) ?_
    refine HO.nil (thenQ_normal (?_))
    refine HW.ret (thenQ_ret (?_))
    refine ⟨.inr rfl, .tuple #[.int .i64 ((b : Nat) : Int), .int .i64 ((a : Nat) : Int)], res_two rfl rfl rfl, ?_⟩
    exact ⟨_, _, _, ord_t c1, rfl, by omega, by omega, by omega, hQ, hX⟩
  · have c1p := of_decide_eq_false c1
    refine HW.skip (thenQ_normal (?_))
    refine HW.seq ?_
    refine HW.region ?_
    refine HO.val (v := .int .i64 ((a : Nat) : Int)) (want_none) rfl (q_move rfl) ?_
    refine HO.val (v := .int .i64 ((b : Nat) : Int)) (want_none) rfl (q_move rfl) ?_
    refine HO.val (v := .int .i64 ((a : Nat) : Int)) (want_none) rfl (q_assign rfl) ?_
    refine HO.val (v := .int .i64 ((b : Nat) : Int)) (want_none) rfl (q_assign rfl) ?_
    refine HO.nil (thenQ_normal (?_))
    refine HW.ret (?_)
    refine ⟨.inr rfl, .tuple #[.int .i64 ((a : Nat) : Int), .int .i64 ((b : Nat) : Int)], res_two rfl rfl rfl, ?_⟩
    exact ⟨_, _, _, ord_f c1, rfl, by omega, by omega, by omega, hQ, hX⟩

set_option maxRecDepth 100000 in
theorem median_spec (c r : Nat) (m : List (Int × Int)) (B n : Nat) (v : Value) (d : Array Int) (h0 : Heap) (hC : Blk h0 c (.cells #[.map (some r)] 159 (0, 0))) (hM : MapIs h0 r kI kI m) (hO : OwnIs h0 B 3 1 encI v d.toList) (hvc : blockOf v ≠ some c) (hvr : blockOf v ≠ some r) (hd : d.toList.length = n) (hn : n ≤ 2305843009213693952) (a b e : Nat) (hb1 : a < n) (hb2 : b < n) (hb3 : e < n) (q sw : Nat) (hQ : Blk h0 q (.cells #[.int .i64 ((sw : Nat) : Int)] 3 (0, 0))) (hqc : q ≠ c) (hqr : q ≠ r) (hqv : blockOf v ≠ some q) (hsw : sw ≤ 900) :
    HC Try.prog 209 #[v, .int .i64 ((a : Nat) : Int), .int .i64 ((b : Nat) : Int), .int .i64 ((e : Nat) : Int), .pointer (some ⟨q, 0, none⟩), .func (.func 130) #[.pointer (some ⟨c, 0, none⟩)] #[]] h0 fun u h' => ∃ x s, median (ltOf' (bef m)) d a b e sw = (x, s) ∧ u = .int .i64 ((x : Nat) : Int) ∧ x < n ∧ s ≤ sw + 3 ∧ Blk h' q (.cells #[.int .i64 ((s : Nat) : Int)] 3 (0, 0)) ∧ OnlyL [q] h0 h' := by
  refine HC.of_HW (n := 41) Try.func209 rfl rfl (Nat.le_of_ble_eq_true rfl) ?_
  have hX := OnlyL.refl [q] h0
  refine HW.seq ?_
  refine HW.region ?_
  refine HO.val (v := .int .i64 0) (want_none) rfl (q_assign rfl) ?_
  refine HO.nil (thenQ_normal (?_))
  refine HW.seq ?_
  refine HW.region ?_
  refine HO.val (v := v) (want_none) rfl (q_move rfl) ?_
  refine HO.val (v := .int .i64 ((a : Nat) : Int)) (want_none) rfl (q_move rfl) ?_
  refine HO.val (v := .int .i64 ((b : Nat) : Int)) (want_none) rfl (q_move rfl) ?_
  refine HO.val (v := .pointer (some ⟨q, 0, none⟩)) (want_none) rfl (q_move rfl) ?_
  refine HO.val (v := .func (.func 130) #[.pointer (some ⟨c, 0, none⟩)] #[]) (want_none) rfl (q_move rfl) ?_
  refine HO.call (want_none) rfl (ec en_213 rfl rfl) (order2_spec c r m B n v d _ hC hM hO hvc hvr hd hn a b (by omega) (by omega) q sw hQ hqc hqr hqv (by omega)) ?_
  rintro _ h1 ⟨x1, y1, s1, e1, rfl, hx1, hy1, hs1, hQ', hx⟩
  replace hC := hC.onlyL hx (by simp; exact hqc.symm)
  replace hM := hM.onlyL hx (by simp; exact hqr.symm)
  replace hO := hO.onlyL hx (by intro b hb; simp at hb; subst hb; exact hqv)
  replace hX := hX.trans hx
  replace hQ := hQ'
  have hxs := hx.size
  refine HO.val (v := .tuple #[.int .i64 ((x1 : Nat) : Int), .int .i64 ((y1 : Nat) : Int)]) (want_none) rfl (q_move rfl) ?_
  refine HO.val (v := .int .i64 ((x1 : Nat) : Int)) (want_none) rfl (q_extract rfl rfl) ?_
  refine HO.val (v := .int .i64 ((y1 : Nat) : Int)) (want_none) rfl (q_extract rfl rfl) ?_
  refine HO.val (v := .int .i64 ((x1 : Nat) : Int)) (want_none) rfl (q_assign rfl) ?_
  refine HO.val (v := .int .i64 ((y1 : Nat) : Int)) (want_none) rfl (q_assign rfl) ?_
  refine HO.nil (thenQ_normal (?_))
  refine HW.seq ?_
  refine HW.region ?_
  refine HO.val (v := v) (want_none) rfl (q_move rfl) ?_
  refine HO.val (v := .int .i64 ((y1 : Nat) : Int)) (want_none) rfl (q_move rfl) ?_
  refine HO.val (v := .int .i64 ((e : Nat) : Int)) (want_none) rfl (q_move rfl) ?_
  refine HO.val (v := .pointer (some ⟨q, 0, none⟩)) (want_none) rfl (q_move rfl) ?_
  refine HO.val (v := .func (.func 130) #[.pointer (some ⟨c, 0, none⟩)] #[]) (want_none) rfl (q_move rfl) ?_
  refine HO.call (want_none) rfl (ec en_213 rfl rfl) (order2_spec c r m B n v d _ hC hM hO hvc hvr hd hn y1 e (by omega) (by omega) q s1 hQ hqc hqr hqv (by omega)) ?_
  rintro _ h2 ⟨x2, y2, s2, e2, rfl, hx2, hy2, hs2, hQ', hx⟩
  replace hC := hC.onlyL hx (by simp; exact hqc.symm)
  replace hM := hM.onlyL hx (by simp; exact hqr.symm)
  replace hO := hO.onlyL hx (by intro b hb; simp at hb; subst hb; exact hqv)
  replace hX := hX.trans hx
  replace hQ := hQ'
  have hxs := hx.size
  refine HO.val (v := .tuple #[.int .i64 ((x2 : Nat) : Int), .int .i64 ((y2 : Nat) : Int)]) (want_none) rfl (q_move rfl) ?_
  refine HO.val (v := .int .i64 ((x2 : Nat) : Int)) (want_none) rfl (q_extract rfl rfl) ?_
  refine HO.val (v := .int .i64 ((y2 : Nat) : Int)) (want_none) rfl (q_extract rfl rfl) ?_
  refine HO.val (v := .int .i64 ((x2 : Nat) : Int)) (want_none) rfl (q_assign rfl) ?_
  refine HO.val (v := .int .i64 ((y2 : Nat) : Int)) (want_none) rfl (q_assign rfl) ?_
  refine HO.nil (thenQ_normal (?_))
  refine HW.seq ?_
  refine HW.region ?_
  refine HO.val (v := v) (want_none) rfl (q_move rfl) ?_
  refine HO.val (v := .int .i64 ((x1 : Nat) : Int)) (want_none) rfl (q_move rfl) ?_
  refine HO.val (v := .int .i64 ((x2 : Nat) : Int)) (want_none) rfl (q_move rfl) ?_
  refine HO.val (v := .pointer (some ⟨q, 0, none⟩)) (want_none) rfl (q_move rfl) ?_
  refine HO.val (v := .func (.func 130) #[.pointer (some ⟨c, 0, none⟩)] #[]) (want_none) rfl (q_move rfl) ?_
  refine HO.call (want_none) rfl (ec en_213 rfl rfl) (order2_spec c r m B n v d _ hC hM hO hvc hvr hd hn x1 x2 (by omega) (by omega) q s2 hQ hqc hqr hqv (by omega)) ?_
  rintro _ h3 ⟨x3, y3, s3, e3, rfl, hx3, hy3, hs3, hQ', hx⟩
  replace hC := hC.onlyL hx (by simp; exact hqc.symm)
  replace hM := hM.onlyL hx (by simp; exact hqr.symm)
  replace hO := hO.onlyL hx (by intro b hb; simp at hb; subst hb; exact hqv)
  replace hX := hX.trans hx
  replace hQ := hQ'
  have hxs := hx.size
  refine HO.val (v := .tuple #[.int .i64 ((x3 : Nat) : Int), .int .i64 ((y3 : Nat) : Int)]) (want_none) rfl (q_move rfl) ?_
  refine HO.val (v := .int .i64 ((x3 : Nat) : Int)) (want_none) rfl (q_extract rfl rfl) ?_
  refine HO.val (v := .int .i64 ((y3 : Nat) : Int)) (want_none) rfl (q_extract rfl rfl) ?_
  refine HO.val (v := .int .i64 ((x3 : Nat) : Int)) (want_none) rfl (q_assign rfl) ?_
  refine HO.val (v := .int .i64 ((y3 : Nat) : Int)) (want_none) rfl (q_assign rfl) ?_
  refine HO.nil (thenQ_normal (?_))
  refine HW.seq ?_
  refine HW.region ?_
  refine HO.val (v := .int .i64 ((y3 : Nat) : Int)) (want_none) rfl (q_move rfl) ?_
  refine HO.val (v := .int .i64 ((y3 : Nat) : Int)) (want_none) rfl (q_assign rfl) ?_
  refine HO.nil (thenQ_normal (?_))
  refine HW.ret (?_)
  refine ⟨.inr rfl, .int .i64 ((y3 : Nat) : Int), res_one rfl rfl, ?_⟩
  exact ⟨_, _, by simp only [median, e1, e2, e3], rfl, hy3, by omega, hQ, hX⟩

set_option maxRecDepth 100000 in
theorem adjacent_spec (c r : Nat) (m : List (Int × Int)) (B n : Nat) (v : Value) (d : Array Int) (h0 : Heap) (hC : Blk h0 c (.cells #[.map (some r)] 159 (0, 0))) (hM : MapIs h0 r kI kI m) (hO : OwnIs h0 B 3 1 encI v d.toList) (hvc : blockOf v ≠ some c) (hvr : blockOf v ≠ some r) (hd : d.toList.length = n) (hn : n ≤ 2305843009213693952) (a : Nat) (hb1 : 1 ≤ a) (hb2 : a + 1 < n) (q sw : Nat) (hQ : Blk h0 q (.cells #[.int .i64 ((sw : Nat) : Int)] 3 (0, 0))) (hqc : q ≠ c) (hqr : q ≠ r) (hqv : blockOf v ≠ some q) (hsw : sw ≤ 900) :
    HC Try.prog 208 #[v, .int .i64 ((a : Nat) : Int), .pointer (some ⟨q, 0, none⟩), .func (.func 130) #[.pointer (some ⟨c, 0, none⟩)] #[]] h0 fun u h' => ∃ x s, medianAdjacent (ltOf' (bef m)) d a sw = (x, s) ∧ u = .int .i64 ((x : Nat) : Int) ∧ x < n ∧ s ≤ sw + 3 ∧ Blk h' q (.cells #[.int .i64 ((s : Nat) : Int)] 3 (0, 0)) ∧ OnlyL [q] h0 h' := by
  refine HC.of_HW (n := 18) Try.func208 rfl rfl (Nat.le_of_ble_eq_true rfl) ?_
  have hX := OnlyL.refl [q] h0
  refine HW.seq ?_
  refine HW.region ?_
  refine HO.val (v := .int .i64 0) (want_none) rfl (q_assign rfl) ?_
  refine HO.nil (thenQ_normal (?_))
  refine HW.seq ?_
  refine HW.region ?_
  refine HO.val (v := v) (want_none) rfl (q_move rfl) ?_
  refine HO.val (v := .int .i64 ((a : Nat) : Int)) (want_none) rfl (q_move rfl) ?_
  refine HO.val (v := .int .i64 ((a - 1 : Nat) : Int)) (want_none) rfl (q_subN ((a - 1 : Nat) : Int) rfl rfl (by omega) (by omega) (by omega)) ?_
  refine HO.val (v := .int .i64 ((a : Nat) : Int)) (want_none) rfl (q_move rfl) ?_
  refine HO.val (v := .int .i64 ((a : Nat) : Int)) (want_none) rfl (q_move rfl) ?_
  refine HO.val (v := .int .i64 ((a + 1 : Nat) : Int)) (want_none) rfl (q_addN ((a + 1 : Nat) : Int) rfl rfl (by omega) (by omega) (by omega)) ?_
  refine HO.val (v := .pointer (some ⟨q, 0, none⟩)) (want_none) rfl (q_move rfl) ?_
  refine HO.val (v := .func (.func 130) #[.pointer (some ⟨c, 0, none⟩)] #[]) (want_none) rfl (q_move rfl) ?_
  refine HO.call (want_none) rfl (ec en_209 rfl rfl) (median_spec c r m B n v d _ hC hM hO hvc hvr hd hn (a - 1) a (a + 1) (by omega) (by omega) (by omega) q sw hQ hqc hqr hqv (by omega)) ?_
  rintro _ h1 ⟨x1, s1, e1, rfl, hx1, hs1, hQ', hx⟩
  replace hC := hC.onlyL hx (by simp; exact hqc.symm)
  replace hM := hM.onlyL hx (by simp; exact hqr.symm)
  replace hO := hO.onlyL hx (by intro b hb; simp at hb; subst hb; exact hqv)
  replace hX := hX.trans hx
  replace hQ := hQ'
  have hxs := hx.size
  refine HO.val (v := .int .i64 ((x1 : Nat) : Int)) (want_none) rfl (q_assign rfl) ?_
  refine HO.nil (thenQ_normal (?_))
  refine HW.ret (?_)
  refine ⟨.inr rfl, .int .i64 ((x1 : Nat) : Int), res_one rfl rfl, ?_⟩
  exact ⟨_, _, by simp only [medianAdjacent, e1], rfl, hx1, by omega, hQ, hX⟩

theorem hcode_inc {s : Nat} (h : s = 0) : hcode (hintOf s) = 1 := by unfold hintOf; rw [if_pos h]; rfl
theorem hcode_dec {s : Nat} (h : ¬ s = 0) (h2 : s = 12) : hcode (hintOf s) = 2 := by unfold hintOf; rw [if_neg h, if_pos h2]; rfl
theorem hcode_unk {s : Nat} (h : ¬ s = 0) (h2 : ¬ s = 12) : hcode (hintOf s) = 0 := by unfold hintOf; rw [if_neg h, if_neg h2]; rfl
section
variable {lt : Int → Int → Bool} {d : Array Int} {a b i j k : Nat}
theorem cp_a (h : ¬ b - a ≥ 8) (hj : j = a + (b - a) / 4 * 2) : choosePivot lt d a b = (j, hintOf 0) := by
  subst hj; unfold choosePivot; simp only [if_neg h]; rfl
theorem cp_b {x s : Nat} (h : b - a ≥ 8) (h2 : ¬ b - a ≥ 50) (hi : i = a + (b - a) / 4 * 1) (hj : j = a + (b - a) / 4 * 2) (hk : k = a + (b - a) / 4 * 3) (e : median lt d i j k 0 = (x, s)) : choosePivot lt d a b = (x, hintOf s) := by
  subst hi; subst hj; subst hk; unfold choosePivot; simp only [if_pos h, if_neg h2, e]; rfl
theorem cp_c {x1 x2 x3 x s1 s2 s3 s : Nat} (h : b - a ≥ 8) (h2 : b - a ≥ 50) (hi : i = a + (b - a) / 4 * 1) (hj : j = a + (b - a) / 4 * 2) (hk : k = a + (b - a) / 4 * 3) (e1 : medianAdjacent lt d i 0 = (x1, s1)) (e2 : medianAdjacent lt d j s1 = (x2, s2)) (e3 : medianAdjacent lt d k s2 = (x3, s3))
    (e : median lt d x1 x2 x3 s3 = (x, s)) : choosePivot lt d a b = (x, hintOf s) := by
  subst hi; subst hj; subst hk; unfold choosePivot; simp only [if_pos h, if_pos h2, e1, e2, e3, e]; rfl
end

set_option maxRecDepth 100000 in
theorem pivot_spec (c r : Nat) (m : List (Int × Int)) (B n : Nat) (v : Value) (d : Array Int) (h0 : Heap) (hC : Blk h0 c (.cells #[.map (some r)] 159 (0, 0))) (hM : MapIs h0 r kI kI m) (hO : OwnIs h0 B 3 1 encI v d.toList) (hvc : blockOf v ≠ some c) (hvr : blockOf v ≠ some r) (hd : d.toList.length = n) (hn : n ≤ 2305843009213693952) (a b : Nat) (hab : a < b) (hb : b ≤ n) :
    HC Try.prog 192 #[v, .int .i64 ((a : Nat) : Int), .int .i64 ((b : Nat) : Int), .func (.func 130) #[.pointer (some ⟨c, 0, none⟩)] #[]] h0 fun u h' => u = .tuple #[.int .i64 (((choosePivot (ltOf' (bef m)) d a b).1 : Nat) : Int), .int .i64 (hcode (choosePivot (ltOf' (bef m)) d a b).2)] ∧ Ext h0 h' := by
  refine HC.of_HW (n := 63) Try.func192 rfl rfl (Nat.le_of_ble_eq_true rfl) ?_
  have hE := Ext.refl h0
  obtain ⟨i, hi⟩ : ∃ i, i = a + (b - a) / 4 * 1 := ⟨_, rfl⟩
  obtain ⟨j, hj⟩ : ∃ j, j = a + (b - a) / 4 * 2 := ⟨_, rfl⟩
  obtain ⟨k, hk⟩ : ∃ k, k = a + (b - a) / 4 * 3 := ⟨_, rfl⟩
  have hcl := hC.lt
  have hrl := hM.lt
  have hqv0 : ∀ {x : Nat}, h0.size ≤ x → blockOf v ≠ some x := fun hx => hO.ne_ge hx
  refine HW.seq ?_
  refine HW.region ?_
  refine HO.val (v := .int .i64 0) (want_none) rfl (q_assign rfl) ?_
  refine HO.val (v := .int .i64 0) (want_none) rfl (q_assign rfl) ?_
  refine HO.nil (thenQ_normal (?_))
  refine HW.seq ?_
  refine HW.region ?_
  refine HO.val (v := .int .i64 ((b : Nat) : Int)) (want_none) rfl (q_move rfl) ?_
  refine HO.val (v := .int .i64 ((a : Nat) : Int)) (want_none) rfl (q_move rfl) ?_
  refine HO.val (v := .int .i64 ((b - a : Nat) : Int)) (want_none) rfl (q_subN ((b - a : Nat) : Int) rfl rfl (by omega) (by omega) (by omega)) ?_
  refine HO.val (v := .int .i64 ((b - a : Nat) : Int)) (want_none) rfl (q_assign rfl) ?_
  refine HO.nil (thenQ_normal (?_))
  refine HW.seq ?_
  refine HW.region ?_
  refine HO.eff (want_none) rfl (e_alloc tz_3 rfl) ?_
  rintro _ h1 ⟨b1, rfl, hn⟩
  replace hC := hC.ext hn.ext
  replace hM := hM.ext hn.ext
  replace hO := hO.ext hn.ext
  replace hE := hE.trans hn.ext
  have hb1 : Blk h1 b1 (.cells #[.int .i64 0] 3 (0, 0)) := hn.blk
  have hb1a := hn.at_; have hb1s := hn.size; clear hn
  have hqc : b1 ≠ c := by omega
  have hqr : b1 ≠ r := by omega
  have hqv : blockOf v ≠ some b1 := hqv0 (by omega)
  have hQ := hb1; clear hb1
  refine HO.nil (thenQ_normal (?_))
  refine HW.seq ?_
  refine HW.region ?_
  refine HO.val (v := .int .i64 ((a : Nat) : Int)) (want_none) rfl (q_move rfl) ?_
  refine HO.val (v := .int .i64 ((b - a : Nat) : Int)) (want_none) rfl (q_move rfl) ?_
  refine HO.val (v := .int .i64 (((b - a) / 4 : Nat) : Int)) (want_none) rfl (q_quoN _ rfl rfl (by decide) (by rw [Int.tdiv_eq_ediv_of_nonneg (by omega)]; omega) (by omega) (by omega)) ?_
  refine HO.val (v := .int .i64 ((((b - a) / 4) : Nat) : Int)) (want_none) rfl (q_mulN ((((b - a) / 4) : Nat) : Int) rfl rfl (by omega) (by omega) (by omega)) ?_
  refine HO.val (v := .int .i64 ((i : Nat) : Int)) (want_none) rfl (q_addN ((i : Nat) : Int) rfl rfl (by omega) (by omega) (by omega)) ?_
  refine HO.val (v := .int .i64 ((i : Nat) : Int)) (want_none) rfl (q_assign rfl) ?_
  refine HO.nil (thenQ_normal (?_))
  refine HW.seq ?_
  refine HW.region ?_
  refine HO.val (v := .int .i64 ((a : Nat) : Int)) (want_none) rfl (q_move rfl) ?_
  refine HO.val (v := .int .i64 ((b - a : Nat) : Int)) (want_none) rfl (q_move rfl) ?_
  refine HO.val (v := .int .i64 (((b - a) / 4 : Nat) : Int)) (want_none) rfl (q_quoN _ rfl rfl (by decide) (by rw [Int.tdiv_eq_ediv_of_nonneg (by omega)]; omega) (by omega) (by omega)) ?_
  refine HO.val (v := .int .i64 ((2 * ((b - a) / 4) : Nat) : Int)) (want_none) rfl (q_mulN ((2 * ((b - a) / 4) : Nat) : Int) rfl rfl (by omega) (by omega) (by omega)) ?_
  refine HO.val (v := .int .i64 ((j : Nat) : Int)) (want_none) rfl (q_addN ((j : Nat) : Int) rfl rfl (by omega) (by omega) (by omega)) ?_
  refine HO.val (v := .int .i64 ((j : Nat) : Int)) (want_none) rfl (q_assign rfl) ?_
  refine HO.nil (thenQ_normal (?_))
  refine HW.seq ?_
  refine HW.region ?_
  refine HO.val (v := .int .i64 ((a : Nat) : Int)) (want_none) rfl (q_move rfl) ?_
  refine HO.val (v := .int .i64 ((b - a : Nat) : Int)) (want_none) rfl (q_move rfl) ?_
  refine HO.val (v := .int .i64 (((b - a) / 4 : Nat) : Int)) (want_none) rfl (q_quoN _ rfl rfl (by decide) (by rw [Int.tdiv_eq_ediv_of_nonneg (by omega)]; omega) (by omega) (by omega)) ?_
  refine HO.val (v := .int .i64 ((3 * ((b - a) / 4) : Nat) : Int)) (want_none) rfl (q_mulN ((3 * ((b - a) / 4) : Nat) : Int) rfl rfl (by omega) (by omega) (by omega)) ?_
  refine HO.val (v := .int .i64 ((k : Nat) : Int)) (want_none) rfl (q_addN ((k : Nat) : Int) rfl rfl (by omega) (by omega) (by omega)) ?_
  refine HO.val (v := .int .i64 ((k : Nat) : Int)) (want_none) rfl (q_assign rfl) ?_
  refine HO.nil (thenQ_normal (?_))
  refine HW.seq ?_
  refine HW.seq ?_
  refine HW.region ?_
  refine HO.val (v := .int .i64 ((b - a : Nat) : Int)) (want_none) rfl (q_move rfl) ?_
  refine HO.val (v := .bool (decide (8 ≤ ((b - a : Nat) : Int)))) (want_none) rfl (q_geq rfl rfl) ?_
  refine HO.nil (thenQ_normal (?_))
  refine HW.cond (decide (8 ≤ ((b - a : Nat) : Int))) rfl (fun c2 => ?_) (fun c2 => ?_)
  · have c2p := of_decide_eq_true c2
    refine HW.seq ?_
    refine HW.seq ?_
    refine HW.region ?_
    refine HO.val (v := .int .i64 ((b - a : Nat) : Int)) (want_none) rfl (q_move rfl) ?_
    refine HO.val (v := .bool (decide (50 ≤ ((b - a : Nat) : Int)))) (want_none) rfl (q_geq rfl rfl) ?_
    refine HO.nil (thenQ_normal (?_))
    refine HW.cond (decide (50 ≤ ((b - a : Nat) : Int))) rfl (fun c3 => ?_) (fun c3 => ?_)
    · have c3p := of_decide_eq_true c3
      refine HW.seq ?_
      refine HW.region ?_
      refine HO.val (v := v) (want_none) rfl (q_move rfl) ?_
      refine HO.val (v := .int .i64 ((i : Nat) : Int)) (want_none) rfl (q_move rfl) ?_
      refine HO.val (v := .func (.func 130) #[.pointer (some ⟨c, 0, none⟩)] #[]) (want_none) rfl (q_move rfl) ?_
      refine HO.call (want_none) rfl (ec en_208 rfl rfl) (adjacent_spec c r m B n v d _ hC hM hO hvc hvr hd hn i (by omega) (by omega) b1 0 hQ hqc hqr hqv (by omega)) ?_
      rintro _ h2 ⟨x4, s4, e4, rfl, hx4, hs4, hQ', hx⟩
      replace hC := hC.onlyL hx (by simp; exact hqc.symm)
      replace hM := hM.onlyL hx (by simp; exact hqr.symm)
      replace hO := hO.onlyL hx (by intro b hb; simp at hb; subst hb; exact hqv)
      replace hE := hE.onlyL hx (by simp; omega)
      replace hQ := hQ'
      have hxs := hx.size
      refine HO.val (v := .int .i64 ((x4 : Nat) : Int)) (want_none) rfl (q_assign rfl) ?_
      refine HO.nil (thenQ_normal (?_))
      refine HW.seq ?_
      refine HW.region ?_
      refine HO.val (v := v) (want_none) rfl (q_move rfl) ?_
      refine HO.val (v := .int .i64 ((j : Nat) : Int)) (want_none) rfl (q_move rfl) ?_
      refine HO.val (v := .func (.func 130) #[.pointer (some ⟨c, 0, none⟩)] #[]) (want_none) rfl (q_move rfl) ?_
      refine HO.call (want_none) rfl (ec en_208 rfl rfl) (adjacent_spec c r m B n v d _ hC hM hO hvc hvr hd hn j (by omega) (by omega) b1 s4 hQ hqc hqr hqv (by omega)) ?_
      rintro _ h3 ⟨x5, s5, e5, rfl, hx5, hs5, hQ', hx⟩
      replace hC := hC.onlyL hx (by simp; exact hqc.symm)
      replace hM := hM.onlyL hx (by simp; exact hqr.symm)
      replace hO := hO.onlyL hx (by intro b hb; simp at hb; subst hb; exact hqv)
      replace hE := hE.onlyL hx (by simp; omega)
      replace hQ := hQ'
      have hxs := hx.size
      refine HO.val (v := .int .i64 ((x5 : Nat) : Int)) (want_none) rfl (q_assign rfl) ?_
      refine HO.nil (thenQ_normal (?_))
      refine HW.region ?_
      refine HO.val (v := v) (want_none) rfl (q_move rfl) ?_
      refine HO.val (v := .int .i64 ((k : Nat) : Int)) (want_none) rfl (q_move rfl) ?_
      refine HO.val (v := .func (.func 130) #[.pointer (some ⟨c, 0, none⟩)] #[]) (want_none) rfl (q_move rfl) ?_
      refine HO.call (want_none) rfl (ec en_208 rfl rfl) (adjacent_spec c r m B n v d _ hC hM hO hvc hvr hd hn k (by omega) (by omega) b1 s5 hQ hqc hqr hqv (by omega)) ?_
      rintro _ h4 ⟨x6, s6, e6, rfl, hx6, hs6, hQ', hx⟩
      replace hC := hC.onlyL hx (by simp; exact hqc.symm)
      replace hM := hM.onlyL hx (by simp; exact hqr.symm)
      replace hO := hO.onlyL hx (by intro b hb; simp at hb; subst hb; exact hqv)
      replace hE := hE.onlyL hx (by simp; omega)
      replace hQ := hQ'
      have hxs := hx.size
      refine HO.val (v := .int .i64 ((x6 : Nat) : Int)) (want_none) rfl (q_assign rfl) ?_
      refine HO.nil (thenQ_normal (?_))
      refine HW.region ?_
      refine HO.val (v := v) (want_none) rfl (q_move rfl) ?_
      refine HO.val (v := .int .i64 ((x4 : Nat) : Int)) (want_none) rfl (q_move rfl) ?_
      refine HO.val (v := .int .i64 ((x5 : Nat) : Int)) (want_none) rfl (q_move rfl) ?_
      refine HO.val (v := .int .i64 ((x6 : Nat) : Int)) (want_none) rfl (q_move rfl) ?_
      refine HO.val (v := .func (.func 130) #[.pointer (some ⟨c, 0, none⟩)] #[]) (want_none) rfl (q_move rfl) ?_
      refine HO.call (want_none) rfl (ec en_209 rfl rfl) (median_spec c r m B n v d _ hC hM hO hvc hvr hd hn x4 x5 x6 (by omega) (by omega) (by omega) b1 s6 hQ hqc hqr hqv (by omega)) ?_
      rintro _ h5 ⟨x7, s7, e7, rfl, hx7, hs7, hQ', hx⟩
      replace hC := hC.onlyL hx (by simp; exact hqc.symm)
      replace hM := hM.onlyL hx (by simp; exact hqr.symm)
      replace hO := hO.onlyL hx (by intro b hb; simp at hb; subst hb; exact hqv)
      replace hE := hE.onlyL hx (by simp; omega)
      replace hQ := hQ'
      have hxs := hx.size
      refine HO.val (v := .int .i64 ((x7 : Nat) : Int)) (want_none) rfl (q_assign rfl) ?_
      refine HO.nil (thenQ_normal (?_))
      refine HW.seq ?_
      refine HW.region ?_
      refine HO.val (v := .int .i64 ((s7 : Nat) : Int)) (want_none) rfl (q_load to_3 rfl (Blk.cell hQ rfl)) ?_
      refine HO.nil (thenQ_normal (?_))
      refine HW.block ?_
      refine HW.seq ?_
      refine HW.region ?_
      refine HO.val (v := .bool (decide (((s7 : Nat) : Int) = 0))) (want_none) rfl (q_eql rfl rfl) ?_
      refine HO.val (v := .bool (decide (((s7 : Nat) : Int) = 0))) (want_none) rfl (q_assign rfl) ?_
      refine HO.nil (thenQ_normal (?_))
      refine HW.cond (decide (((s7 : Nat) : Int) = 0)) rfl (fun c8 => ?_) (fun c8 => ?_)
      · have c8p := of_decide_eq_true c8
        refine HW.seq ?_
        refine HW.region ?_
        refine HO.val (v := .int .i64 ((x7 : Nat) : Int)) (want_none) rfl (q_move rfl) ?_
        refine HO.val (v := .int .i64 ((x7 : Nat) : Int)) (want_none) rfl (q_assign rfl) ?_
        refine HO.val (v := .int .i64 1) (want_none) rfl (q_assign rfl) ?_
        refine HO.nil (thenQ_normal (?_))
        refine HW.ret (blockQ_ret (?_))
        refine ⟨.inr rfl, .tuple #[.int .i64 ((x7 : Nat) : Int), .int .i64 1], res_two rfl rfl rfl, ?_⟩
        rw [show choosePivot (ltOf' (bef m)) d a b = _ from cp_c (by omega) (by omega) hi hj hk e4 e5 e6 e7]
        exact ⟨by rw [hcode_inc (by omega)], hE⟩
      · have c8p := of_decide_eq_false c8
        refine HW.seq ?_
        refine HW.region ?_
        refine HO.val (v := .bool (decide (((s7 : Nat) : Int) = 12))) (want_none) rfl (q_eql rfl rfl) ?_
        refine HO.val (v := .bool (decide (((s7 : Nat) : Int) = 12))) (want_none) rfl (q_assign rfl) ?_
        refine HO.nil (thenQ_normal (?_))
        refine HW.cond (decide (((s7 : Nat) : Int) = 12)) rfl (fun c9 => ?_) (fun c9 => ?_)
        · have c9p := of_decide_eq_true c9
          refine HW.seq ?_
          refine HW.region ?_
          refine HO.val (v := .int .i64 ((x7 : Nat) : Int)) (want_none) rfl (q_move rfl) ?_
          refine HO.val (v := .int .i64 ((x7 : Nat) : Int)) (want_none) rfl (q_assign rfl) ?_
          refine HO.val (v := .int .i64 2) (want_none) rfl (q_assign rfl) ?_
          refine HO.nil (thenQ_normal (?_))
          refine HW.ret (blockQ_ret (?_))
          refine ⟨.inr rfl, .tuple #[.int .i64 ((x7 : Nat) : Int), .int .i64 2], res_two rfl rfl rfl, ?_⟩
          rw [show choosePivot (ltOf' (bef m)) d a b = _ from cp_c (by omega) (by omega) hi hj hk e4 e5 e6 e7]
          exact ⟨by rw [hcode_dec (by omega) (by omega)], hE⟩
        · have c9p := of_decide_eq_false c9
          refine HW.seq ?_
          refine HW.region ?_
          refine HO.val (v := .int .i64 ((x7 : Nat) : Int)) (want_none) rfl (q_move rfl) ?_
          refine HO.val (v := .int .i64 ((x7 : Nat) : Int)) (want_none) rfl (q_assign rfl) ?_
          refine HO.val (v := .int .i64 0) (want_none) rfl (q_assign rfl) ?_
          refine HO.nil (thenQ_normal (?_))
          refine HW.ret (blockQ_ret (?_))
          refine ⟨.inr rfl, .tuple #[.int .i64 ((x7 : Nat) : Int), .int .i64 0], res_two rfl rfl rfl, ?_⟩
          rw [show choosePivot (ltOf' (bef m)) d a b = _ from cp_c (by omega) (by omega) hi hj hk e4 e5 e6 e7]
          exact ⟨by rw [hcode_unk (by omega) (by omega)], hE⟩
    · have c3p := of_decide_eq_false c3
      refine HW.skip (thenQ_normal (?_))
      refine HW.region ?_
      refine HO.val (v := v) (want_none) rfl (q_move rfl) ?_
      refine HO.val (v := .int .i64 ((i : Nat) : Int)) (want_none) rfl (q_move rfl) ?_
      refine HO.val (v := .int .i64 ((j : Nat) : Int)) (want_none) rfl (q_move rfl) ?_
      refine HO.val (v := .int .i64 ((k : Nat) : Int)) (want_none) rfl (q_move rfl) ?_
      refine HO.val (v := .func (.func 130) #[.pointer (some ⟨c, 0, none⟩)] #[]) (want_none) rfl (q_move rfl) ?_
      refine HO.call (want_none) rfl (ec en_209 rfl rfl) (median_spec c r m B n v d _ hC hM hO hvc hvr hd hn i j k (by omega) (by omega) (by omega) b1 0 hQ hqc hqr hqv (by omega)) ?_
      rintro _ h6 ⟨x10, s10, e10, rfl, hx10, hs10, hQ', hx⟩
      replace hC := hC.onlyL hx (by simp; exact hqc.symm)
      replace hM := hM.onlyL hx (by simp; exact hqr.symm)
      replace hO := hO.onlyL hx (by intro b hb; simp at hb; subst hb; exact hqv)
      replace hE := hE.onlyL hx (by simp; omega)
      replace hQ := hQ'
      have hxs := hx.size
      refine HO.val (v := .int .i64 ((x10 : Nat) : Int)) (want_none) rfl (q_assign rfl) ?_
      refine HO.nil (thenQ_normal (?_))
      refine HW.seq ?_
      refine HW.region ?_
      refine HO.val (v := .int .i64 ((s10 : Nat) : Int)) (want_none) rfl (q_load to_3 rfl (Blk.cell hQ rfl)) ?_
      refine HO.nil (thenQ_normal (?_))
      refine HW.block ?_
      refine HW.seq ?_
      refine HW.region ?_
      refine HO.val (v := .bool (decide (((s10 : Nat) : Int) = 0))) (want_none) rfl (q_eql rfl rfl) ?_
      refine HO.val (v := .bool (decide (((s10 : Nat) : Int) = 0))) (want_none) rfl (q_assign rfl) ?_
      refine HO.nil (thenQ_normal (?_))
      refine HW.cond (decide (((s10 : Nat) : Int) = 0)) rfl (fun c11 => ?_) (fun c11 => ?_)
      · have c11p := of_decide_eq_true c11
        refine HW.seq ?_
        refine HW.region ?_
        refine HO.val (v := .int .i64 ((x10 : Nat) : Int)) (want_none) rfl (q_move rfl) ?_
        refine HO.val (v := .int .i64 ((x10 : Nat) : Int)) (want_none) rfl (q_assign rfl) ?_
        refine HO.val (v := .int .i64 1) (want_none) rfl (q_assign rfl) ?_
        refine HO.nil (thenQ_normal (?_))
        refine HW.ret (blockQ_ret (?_))
        refine ⟨.inr rfl, .tuple #[.int .i64 ((x10 : Nat) : Int), .int .i64 1], res_two rfl rfl rfl, ?_⟩
        rw [show choosePivot (ltOf' (bef m)) d a b = _ from cp_b (by omega) (by omega) hi hj hk e10]
        exact ⟨by rw [hcode_inc (by omega)], hE⟩
      · have c11p := of_decide_eq_false c11
        refine HW.seq ?_
        refine HW.region ?_
        refine HO.val (v := .bool (decide (((s10 : Nat) : Int) = 12))) (want_none) rfl (q_eql rfl rfl) ?_
        refine HO.val (v := .bool (decide (((s10 : Nat) : Int) = 12))) (want_none) rfl (q_assign rfl) ?_
        refine HO.nil (thenQ_normal (?_))
        refine HW.cond (decide (((s10 : Nat) : Int) = 12)) rfl (fun c12 => ?_) (fun c12 => ?_)
        · have c12p := of_decide_eq_true c12
          refine HW.seq ?_
          refine HW.region ?_
          refine HO.val (v := .int .i64 ((x10 : Nat) : Int)) (want_none) rfl (q_move rfl) ?_
          refine HO.val (v := .int .i64 ((x10 : Nat) : Int)) (want_none) rfl (q_assign rfl) ?_
          refine HO.val (v := .int .i64 2) (want_none) rfl (q_assign rfl) ?_
          refine HO.nil (thenQ_normal (?_))
          refine HW.ret (blockQ_ret (?_))
          refine ⟨.inr rfl, .tuple #[.int .i64 ((x10 : Nat) : Int), .int .i64 2], res_two rfl rfl rfl, ?_⟩
          rw [show choosePivot (ltOf' (bef m)) d a b = _ from cp_b (by omega) (by omega) hi hj hk e10]
          exact ⟨by rw [hcode_dec (by omega) (by omega)], hE⟩
        · have c12p := of_decide_eq_false c12
          refine HW.seq ?_
          refine HW.region ?_
          refine HO.val (v := .int .i64 ((x10 : Nat) : Int)) (want_none) rfl (q_move rfl) ?_
          refine HO.val (v := .int .i64 ((x10 : Nat) : Int)) (want_none) rfl (q_assign rfl) ?_
          refine HO.val (v := .int .i64 0) (want_none) rfl (q_assign rfl) ?_
          refine HO.nil (thenQ_normal (?_))
          refine HW.ret (blockQ_ret (?_))
          refine ⟨.inr rfl, .tuple #[.int .i64 ((x10 : Nat) : Int), .int .i64 0], res_two rfl rfl rfl, ?_⟩
          rw [show choosePivot (ltOf' (bef m)) d a b = _ from cp_b (by omega) (by omega) hi hj hk e10]
          exact ⟨by rw [hcode_unk (by omega) (by omega)], hE⟩
  · have c2p := of_decide_eq_false c2
    refine HW.skip (thenQ_normal (?_))
    refine HW.seq ?_
    refine HW.region ?_
    refine HO.val (v := .int .i64 0) (want_none) rfl (q_load to_3 rfl (Blk.cell hQ rfl)) ?_
    refine HO.nil (thenQ_normal (?_))
    refine HW.block ?_
    refine HW.seq ?_
    refine HW.region ?_
    refine HO.val (v := .bool (decide (0 = 0))) (want_none) rfl (q_eql rfl rfl) ?_
    refine HO.val (v := .bool (decide (0 = 0))) (want_none) rfl (q_assign rfl) ?_
    refine HO.nil (thenQ_normal (?_))
    have k13 : (decide (0 = 0)) = true := by decide
    refine HW.condK true rfl k13 ?_
    refine HW.seq ?_
    refine HW.region ?_
    refine HO.val (v := .int .i64 ((j : Nat) : Int)) (want_none) rfl (q_move rfl) ?_
    refine HO.val (v := .int .i64 ((j : Nat) : Int)) (want_none) rfl (q_assign rfl) ?_
    refine HO.val (v := .int .i64 1) (want_none) rfl (q_assign rfl) ?_
    refine HO.nil (thenQ_normal (?_))
    refine HW.ret (blockQ_ret (?_))
    refine ⟨.inr rfl, .tuple #[.int .i64 ((j : Nat) : Int), .int .i64 1], res_two rfl rfl rfl, ?_⟩
    rw [show choosePivot (ltOf' (bef m)) d a b = _ from cp_a (by omega) hj]
    exact ⟨by rw [hcode_inc (by omega)], hE⟩
end Go.HL.CI
