/- A clock of integers: its order, the insertion sort by it. -/
import Derived.Test.YtnemfpgfgblpbaaOps2
import Derived.Test.YtnemfpgfgblpbaaProg
import Derived.Test.YtnemfpgfgblpbaaSortPure
import Derived.Test.YtnemfpgfgblpbaaClockI
import Derived.Test.YtnemfpgfgblpbaaShelf
set_option linter.unusedSimpArgs false
set_option linter.unusedVariables false
set_option linter.unusedSectionVars false
namespace Go.HL.CI
open Go.Proofs
theorem ts_22 : TSlice Try.prog 22 3 1 := ⟨Try.underlying22, Try.sizeOf3⟩
theorem to_3 : TOne Try.prog 3 := ⟨Try.isAgg3, Try.sizeOf3⟩
theorem mixed : Try.prog.follows .mixedOrders = true := by kernel_rfl
theorem en_125 (args : Array Value) (w : World) : (callFunc 125 args).run Try.prog w = .ok (.enter 125 args) w := by kernel_rfl
theorem tl_22 : TLit Try.prog 22 3 1 #[.int .i64 0] := tlit ts_22 tz_3 rfl
theorem en_124 (args : Array Value) (w : World) : (callFunc 124 args).run Try.prog w = .ok (.enter 124 args) w := by kernel_rfl
theorem en_130 (args : Array Value) (w : World) : (callFunc 130 args).run Try.prog w = .ok (.enter 130 args) w := by kernel_rfl
theorem cmpI_bd (x y : Int) : -1 ≤ cmpI x y ∧ cmpI x y ≤ 1 := by unfold cmpI; split <;> (try split) <;> omega
theorem orI_bd (x y : Int) (hx : -1 ≤ x ∧ x ≤ 1) (hy : -1 ≤ y ∧ y ≤ 1) : -1 ≤ orI x y ∧ orI x y ≤ 1 := by unfold orI; split <;> omega

def orL (l : List Int) : Int := (l.find? fun x => decide (x ≠ 0)).getD 0
theorem orL_two (x y : Int) : orL [x, y] = orI x y := by
  unfold orL orI
  by_cases hx : x = 0
  · by_cases hy : y = 0 <;> simp [List.find?, hx, hy]
  · simp [List.find?, hx]
theorem orL_at {l : List Int} {i : Nat} (hi : i < l.length) (hz : ∀ j (h : j < l.length), j < i → l[j] = 0) (hn : l[i] ≠ 0) : orL l = l[i] := by
  unfold orL
  induction l generalizing i with
  | nil => simp at hi
  | cons a l ih =>
    cases i with
    | zero => simp at hn; simp [List.find?, hn]
    | succ i =>
      have ha : a = 0 := hz 0 (by simp) (by omega)
      have := ih (i := i) (by simpa using hi) (fun j h hj => hz (j + 1) (by simp; omega) (by omega)) hn
      simp [List.find?, ha]; simpa using this
theorem orL_none {l : List Int} (hz : ∀ j (h : j < l.length), l[j] = 0) : orL l = 0 := by
  unfold orL
  rw [List.find?_eq_none.2]
  · rfl
  · intro x hx; obtain ⟨j, hj, rfl⟩ := List.mem_iff_getElem.1 hx; simp [hz j hj]

set_option maxRecDepth 100000 in
theorem or_spec (v : Value) (l : List Int) (h0 : Heap) (hS : SliceIs h0 1 encI v l) :
    HC Try.prog 124 #[v] h0 fun u h' => u = .int .i64 (orL l) ∧ h' = h0 := by
  refine HC.of_HW (n := 18) Try.func124 rfl rfl (Nat.le_of_ble_eq_true rfl) ?_
  refine HW.seq ?_
  refine HW.region ?_
  refine HO.val (v := .int .i64 0) (want_none) rfl (q_assign rfl) ?_
  refine HO.nil (thenQ_normal (?_))
  refine HW.seq ?_
  refine HW.region ?_
  refine HO.val (v := .int .i64 0) (want_none) rfl (q_assign rfl) ?_
  refine HO.nil (thenQ_normal (?_))
  refine HW.seq ?_
  refine HW.seq ?_
  refine HW.region ?_
  refine HO.val (v := v) (want_none) rfl (q_move rfl) ?_
  refine HO.val (v := .int .i64 ((l.length : Nat) : Int)) (want_none) rfl (q_len ts_22 hS rfl rfl) ?_
  refine HO.val (v := .int .i64 0) (want_none) rfl (q_move rfl) ?_
  refine HO.nil (thenQ_normal (?_))
  refine HW.block ?_
  refine HW.loop (S := Nat) (fun i f h => f 3 = .int .i64 0 ∧ f 6 = v ∧ f 7 = .int .i64 ((l.length : Nat) : Int) ∧ f 8 = .int .i64 ((i : Nat) : Int) ∧ (SliceIs h 1 encI v l) ∧ (i ≤ l.length) ∧ (∀ j (h : j < l.length), j < i → l[j] = 0) ∧ (h = h0)) (fun i => l.length - i) (0) ?_ ?_
  · refine ⟨rfl, rfl, rfl, rfl, ?_, ?_, ?_, ?_⟩
    · exact hS
    · omega
    · intro j h hj; omega
    · rfl
  · rintro i f1 hh1 ⟨e3, e6, e7, e8, hS, hi, hz, hh⟩
    refine HW.fr [(3, .int .i64 0), (6, v), (7, .int .i64 ((l.length : Nat) : Int)), (8, .int .i64 ((i : Nat) : Int))] ⟨e3, e6, e7, e8, trivial⟩ ?_
    subst hh; have hn := hS.len_i
    refine HW.seq ?_
    refine HW.region ?_
    refine HO.val (v := .bool (decide (((i : Nat) : Int) < ((l.length : Nat) : Int)))) (want_none) rfl (q_lss rfl rfl) ?_
    refine HO.nil (thenQ_normal (?_))
    refine HW.seq ?_
    refine HW.cond (decide (((i : Nat) : Int) < ((l.length : Nat) : Int))) rfl (fun c1 => ?_) (fun c1 => ?_)
    · have c1p := of_decide_eq_true c1
      refine HW.skip (thenQ_normal (?_))
      refine HW.seq ?_
      refine HW.block ?_
      refine HW.seq ?_
      refine HW.region ?_
      refine HO.val (v := elemPtr 1 v i) (want_none) rfl (q_indexAddr (i := i) ts_22 hS rfl rfl (by omega)) ?_
      refine HO.val (v := .int .i64 (l[i])) (want_none) rfl (q_loadElem to_3 hS rfl (by omega) rfl) ?_
      refine HO.val (v := .int .i64 (l[i])) (want_none) rfl (q_assign rfl) ?_
      refine HO.nil (thenQ_normal (?_))
      refine HW.seq ?_
      refine HW.region ?_
      refine HO.val (v := .int .i64 (l[i])) (want_none) rfl (q_move rfl) ?_
      refine HO.val (v := .int .i64 0) (want_none) rfl (q_move rfl) ?_
      refine HO.val (v := .bool (!decide ((l[i]) = 0))) (want_none) rfl (q_neq rfl rfl) ?_
      refine HO.nil (thenQ_normal (?_))
      refine HW.cond (!decide ((l[i]) = 0)) rfl (fun c2 => ?_) (fun c2 => ?_)
      · have c2p : ¬ ((l[i]) = 0) := by simpa using c2
        refine HW.seq ?_
        refine HW.region ?_
        refine HO.val (v := .int .i64 (l[i])) (want_none) rfl (q_move rfl) ?_
        refine HO.val (v := .int .i64 (l[i])) (want_none) rfl (q_assign rfl) ?_
        refine HO.nil (thenQ_normal (?_))
        refine HW.ret (blockQ_ret (thenQ_ret (thenQ_ret (blockQ_ret (thenQ_ret (?_))))))
        refine ⟨.inr rfl, .int .i64 (l[i]), res_one rfl rfl, ?_⟩
        refine ⟨?_, rfl⟩
        rw [orL_at (by omega) hz (by simpa using c2)]
      · have c2p : ((l[i]) = 0) := by simpa using c2
        refine HW.skip (blockQ_normal (thenQ_normal (?_)))
        refine HW.region ?_
        refine HO.val (v := .int .i64 ((i + 1 : Nat) : Int)) (want_none) rfl (q_addN ((i + 1 : Nat) : Int) rfl rfl (by omega) (by omega) (by omega)) ?_
        refine HO.val (v := .int .i64 ((i + 1 : Nat) : Int)) (want_none) rfl (q_move rfl) ?_
        refine HO.nil (thenQ_normal (?_))
        refine ⟨(i + 1), ⟨rfl, rfl, rfl, rfl, ?_, ?_, ?_, ?_⟩, ?_⟩
        · exact hS
        · omega
        · intro j h hj; by_cases e : j = i
          · subst e; simpa using c2
          · exact hz j h (by omega)
        · rfl
        · omega
    · have c1p := of_decide_eq_false c1
      refine HW.exit (thenQ_exit (thenQ_exit (blockQ_exit (thenQ_normal (?_)))))
      refine HW.seq ?_
      refine HW.region ?_
      refine HO.val (v := .int .i64 0) (want_none) rfl (q_move rfl) ?_
      refine HO.val (v := .int .i64 0) (want_none) rfl (q_assign rfl) ?_
      refine HO.nil (thenQ_normal (?_))
      refine HW.ret (?_)
      refine ⟨.inr rfl, .int .i64 0, res_one rfl rfl, ?_⟩
      refine ⟨?_, rfl⟩
      rw [orL_none (fun j h => hz j h (by omega))]

set_option maxRecDepth 100000 in
theorem before_spec (c r : Nat) (m : List (Int × Int)) (h0 : Heap) (hC : Blk h0 c (.cells #[.map (some r)] 159 (0, 0))) (hM : MapIs h0 r kI kI m) (x y : Int) :
    HC Try.prog 130 #[.pointer (some ⟨c, 0, none⟩), .int .i64 x, .int .i64 y] h0 fun u h' => u = .int .i64 (orI (cmpI (mgetI m x) (mgetI m y)) (cmpI x y)) ∧ Ext h0 h' := by
  refine HC.of_HW (n := 25) Try.func130 rfl rfl (Nat.le_of_ble_eq_true rfl) ?_
  have hE := Ext.refl h0
  refine HW.seq ?_
  refine HW.region ?_
  refine HO.val (v := .int .i64 0) (want_none) rfl (q_assign rfl) ?_
  refine HO.nil (thenQ_normal (?_))
  refine HW.seq ?_
  refine HW.regionD 19 mixed (fun h => (Blk h c (.cells #[.map (some r)] 159 (0, 0))) ∧ (MapIs h r kI kI m) ∧ (Ext h0 h)) [] [(0, true), (1, true), (2, true), (3, true), (4, true), (5, true), (6, true), (7, true), (8, true), (9, true), (10, true), (11, true), (13, true), (14, true), (12, false), (15, false), (16, false), (17, false), (18, true)] (by kernel_rfl) ?_
  refine HM.val (v := .pointer (some ⟨c, 0, none⟩)) rfl rfl (want_none) rfl (fun _ ⟨hC, hM, hE⟩ => q_move rfl) ?_
  refine HM.val (v := .pointer (some ⟨c, 0, none⟩)) rfl rfl (want_none) rfl (fun _ ⟨hC, hM, hE⟩ => q_nilCheck rfl) ?_
  refine HM.val (v := .pointer (some ⟨c, 0, none⟩)) rfl rfl (want_none) rfl (fun _ ⟨hC, hM, hE⟩ => q_fieldAddr fa_159_0 rfl rfl) ?_
  refine HM.val (v := .map (some r)) rfl rfl (want_none) rfl (fun _ ⟨hC, hM, hE⟩ => q_load to_157 rfl (Blk.cell hC rfl)) ?_
  refine HM.val (v := .int .i64 x) rfl rfl (want_none) rfl (fun _ ⟨hC, hM, hE⟩ => q_move rfl) ?_
  refine HM.val (v := .int .i64 (mgetI m x)) rfl rfl (want_none) rfl (fun _ ⟨hC, hM, hE⟩ => (q_lookup (k := x) keyOk_int tm_157 hM rfl rfl).of_eq (by rw [mval_kI])) ?_
  refine HM.val (v := .pointer (some ⟨c, 0, none⟩)) rfl rfl (want_none) rfl (fun _ ⟨hC, hM, hE⟩ => q_move rfl) ?_
  refine HM.val (v := .pointer (some ⟨c, 0, none⟩)) rfl rfl (want_none) rfl (fun _ ⟨hC, hM, hE⟩ => q_nilCheck rfl) ?_
  refine HM.val (v := .pointer (some ⟨c, 0, none⟩)) rfl rfl (want_none) rfl (fun _ ⟨hC, hM, hE⟩ => q_fieldAddr fa_159_0 rfl rfl) ?_
  refine HM.val (v := .map (some r)) rfl rfl (want_none) rfl (fun _ ⟨hC, hM, hE⟩ => q_load to_157 rfl (Blk.cell hC rfl)) ?_
  refine HM.val (v := .int .i64 y) rfl rfl (want_none) rfl (fun _ ⟨hC, hM, hE⟩ => q_move rfl) ?_
  refine HM.val (v := .int .i64 (mgetI m y)) rfl rfl (want_none) rfl (fun _ ⟨hC, hM, hE⟩ => (q_lookup (k := y) keyOk_int tm_157 hM rfl rfl).of_eq (by rw [mval_kI])) ?_
  refine HM.val (v := .int .i64 x) rfl rfl (want_none) rfl (fun _ ⟨hC, hM, hE⟩ => q_move rfl) ?_
  refine HM.val (v := .int .i64 y) rfl rfl (want_none) rfl (fun _ ⟨hC, hM, hE⟩ => q_move rfl) ?_
  refine HM.call ⟨⟨hC, hM, hE⟩, Go.HL.at_nil _ _⟩ rfl (want_none) rfl (ec en_125 rfl rfl) (compare_spec (mgetI m x) (mgetI m y) _) ?_
  rintro _ _ ⟨rfl, rfl⟩
  refine HM.call ⟨⟨hC, hM, hE⟩, Go.HL.at_nil _ _⟩ rfl (want_none) rfl (ec en_125 rfl rfl) (compare_spec x y _) ?_
  rintro _ _ ⟨rfl, rfl⟩
  refine HM.eff ⟨⟨hC, hM, hE⟩, Go.HL.at_nil _ _⟩ rfl (want_none) rfl (e_lit (cells := #[.int .i64 (cmpI (mgetI m x) (mgetI m y)), .int .i64 (cmpI x y)]) #[.int .i64 0, .int .i64 0] tl_22 (by decide) (by decide) (by kernel_rfl) rfl) ?_
  rintro _ h1 ⟨b1, rfl, hn⟩
  replace hC := hC.ext hn.ext
  replace hM := hM.ext hn.ext
  replace hE := hE.trans hn.ext
  have hb1 : Blk h1 b1 (.cells #[.int .i64 (cmpI (mgetI m x) (mgetI m y)), .int .i64 (cmpI x y)] 3 (0, 0)) := hn.blk
  have hb1a := hn.at_; have hb1s := hn.size; clear hn
  have hS2 : SliceIs h1 1 encI (.slice (some ⟨b1, 0, none⟩) 2 2) [cmpI (mgetI m x) (mgetI m y), cmpI x y] := (OwnIs.lit (base := 0) (E := 3) (l := [cmpI (mgetI m x) (mgetI m y), cmpI x y]) hb1 (Nat.zero_le _) (by simp [maxLen]) (by simp [encI]) rfl).slice
  refine HM.call ⟨⟨hC, hM, hE⟩, Go.HL.at_nil _ _⟩ rfl (want_none) rfl (ec en_124 rfl rfl) (or_spec _ _ _ hS2) ?_
  rintro _ _ ⟨rfl, rfl⟩
  refine HM.val (v := .int .i64 (orL [cmpI (mgetI m x) (mgetI m y), cmpI x y])) rfl rfl (want_none) rfl (fun _ ⟨hC, hM, hE⟩ => q_assign rfl) ?_
  refine HM.nil ⟨⟨hC, hM, hE⟩, Go.HL.at_nil _ _⟩ (thenQ_normal (?_))
  refine HW.ret (?_)
  refine ⟨.inr rfl, .int .i64 (orL [cmpI (mgetI m x) (mgetI m y), cmpI x y]), res_one rfl rfl, ?_⟩
  exact ⟨by rw [orL_two], hE⟩

/-- The order of a clock's keys. -/
def bef (m : List (Int × Int)) (x y : Int) : Int := orI (cmpI (mgetI m x) (mgetI m y)) (cmpI x y)
theorem bef_bd (m : List (Int × Int)) (x y : Int) : -1 ≤ bef m x y ∧ bef m x y ≤ 1 := orI_bd _ _ (cmpI_bd _ _) (cmpI_bd _ _)
theorem cmpI_lt (x y : Int) : cmpI x y < 0 ↔ x < y := by unfold cmpI; split <;> (try split) <;> omega
theorem cmpI_eq (x y : Int) : cmpI x y = 0 ↔ x = y := by unfold cmpI; split <;> (try split) <;> omega
theorem bef_lt (m : List (Int × Int)) (x y : Int) : bef m x y < 0 ↔ mgetI m x < mgetI m y ∨ (mgetI m x = mgetI m y ∧ x < y) := by
  unfold bef orI
  by_cases h : cmpI (mgetI m x) (mgetI m y) = 0
  · rw [if_pos h, cmpI_lt]; have := (cmpI_eq _ _).1 h; omega
  · rw [if_neg h, cmpI_lt]; have : ¬ mgetI m x = mgetI m y := fun e => h ((cmpI_eq _ _).2 e); omega
theorem bef_ord (m : List (Int × Int)) : Cmp3 (bef m) where
  asym x y := by rw [bef_lt, bef_lt]; omega
  nt x y z := by rw [bef_lt, bef_lt, bef_lt]; omega
theorem bef_tot (m : List (Int × Int)) (x y : Int) (h1 : ¬ bef m x y < 0) (h2 : ¬ bef m y x < 0) : x = y := by rw [bef_lt] at h1 h2; omega
theorem before_spec' (c r : Nat) (m : List (Int × Int)) (h0 : Heap) (hC : Blk h0 c (.cells #[.map (some r)] 159 (0, 0))) (hM : MapIs h0 r kI kI m) (x y : Int) : HC Try.prog 130 #[.pointer (some ⟨c, 0, none⟩), .int .i64 x, .int .i64 y] h0 fun u h' => u = .int .i64 (bef m x y) ∧ Ext h0 h' := before_spec c r m h0 hC hM x y

theorem perm_ins {L1 L2 L0 R : List Int} (x : Int) (h : L1 ++ L2 = L0) : (L1 ++ x :: (L2 ++ R)).Perm (L0 ++ x :: R) := by
  subst h
  refine List.perm_middle.trans ?_
  refine List.Perm.trans ?_ List.perm_middle.symm
  simp

set_option maxRecDepth 100000 in
theorem insertion_spec (c r : Nat) (m : List (Int × Int)) (B a b : Nat) (v : Value) (pre mid post : List Int) (h0 : Heap) (hC : Blk h0 c (.cells #[.map (some r)] 159 (0, 0))) (hM : MapIs h0 r kI kI m) (hO : OwnIs h0 B 3 1 encI v (pre ++ mid ++ post)) (hvc : blockOf v ≠ some c) (hvr : blockOf v ≠ some r) (ha : a = pre.length) (hb : b = pre.length + mid.length) (hlen : pre.length + mid.length + post.length ≤ 4611686018427387904) :
    HC Try.prog 189 #[v, .int .i64 ((a : Nat) : Int), .int .i64 ((b : Nat) : Int), .func (.func 130) #[.pointer (some ⟨c, 0, none⟩)] #[]] h0 fun u h' => u = .tuple #[] ∧ ∃ mid', mid'.Perm mid ∧ Srt (bef m) mid' ∧ OwnIs h' B 3 1 encI v (pre ++ mid' ++ post) ∧ Grown h0 h' v v ∧ Blk h' c (.cells #[.map (some r)] 159 (0, 0)) ∧ MapIs h' r kI kI m := by
  refine HC.of_HW (n := 53) Try.func189 rfl rfl (Nat.le_of_ble_eq_true rfl) ?_
  have hG := Grown.refl h0 v
  refine HW.seq ?_
  refine HW.region ?_
  refine HO.val (v := .int .i64 ((a : Nat) : Int)) (want_none) rfl (q_move rfl) ?_
  refine HO.val (v := .int .i64 ((a + 1 : Nat) : Int)) (want_none) rfl (q_addN ((a + 1 : Nat) : Int) rfl rfl (by omega) (by omega) (by omega)) ?_
  refine HO.val (v := .int .i64 ((a + 1 : Nat) : Int)) (want_none) rfl (q_assign rfl) ?_
  refine HO.nil (thenQ_normal (?_))
  refine HW.block ?_
  refine HW.loop (S := List Int × Nat) (fun s f h => match s with | (M, i) => f 0 = v ∧ f 1 = .int .i64 ((a : Nat) : Int) ∧ f 2 = .int .i64 ((b : Nat) : Int) ∧ f 3 = .func (.func 130) #[.pointer (some ⟨c, 0, none⟩)] #[] ∧ f 8 = .int .i64 ((i : Nat) : Int) ∧ (Blk h c (.cells #[.map (some r)] 159 (0, 0))) ∧ (MapIs h r kI kI m) ∧ (Grown h0 h v v) ∧ (OwnIs h B 3 1 encI v (pre ++ M ++ post)) ∧ (M.Perm mid) ∧ (Srt (bef m) (M.take (i - a))) ∧ (a + 1 ≤ i)) (fun s => match s with | (M, i) => b - i) (mid, a + 1) ?_ ?_
  · refine ⟨rfl, rfl, rfl, rfl, rfl, ?_, ?_, ?_, ?_, ?_, ?_, ?_⟩
    · exact hC
    · exact hM
    · exact hG
    · exact hO
    · exact .refl _
    · rw [show a + 1 - a = 1 from by omega]; unfold Srt; cases mid <;> simp
    · omega
  · rintro ⟨M, i⟩ f1 hh1 ⟨e0, e1, e2, e3, e8, hC, hM, hG, hO, hp, hs, hi⟩
    refine HW.fr [(0, v), (1, .int .i64 ((a : Nat) : Int)), (2, .int .i64 ((b : Nat) : Int)), (3, .func (.func 130) #[.pointer (some ⟨c, 0, none⟩)] #[]), (8, .int .i64 ((i : Nat) : Int))] ⟨e0, e1, e2, e3, e8, trivial⟩ ?_
    have hMl := hp.length_eq
    refine HW.seq ?_
    refine HW.seq ?_
    refine HW.region ?_
    refine HO.val (v := .int .i64 ((i : Nat) : Int)) (want_none) rfl (q_move rfl) ?_
    refine HO.val (v := .int .i64 ((b : Nat) : Int)) (want_none) rfl (q_move rfl) ?_
    refine HO.val (v := .bool (decide (((i : Nat) : Int) < ((b : Nat) : Int)))) (want_none) rfl (q_lss rfl rfl) ?_
    refine HO.nil (thenQ_normal (?_))
    refine HW.cond (decide (((i : Nat) : Int) < ((b : Nat) : Int))) rfl (fun c1 => ?_) (fun c1 => ?_)
    · have c1p := of_decide_eq_true c1
      obtain ⟨L0, x, R, rfl, hl0⟩ := split_at M (i - a) (by omega)
      rw [List.take_left' hl0] at hs
      refine HW.skip (thenQ_normal (?_))
      refine HW.seq ?_
      refine HW.block ?_
      refine HW.seq ?_
      refine HW.region ?_
      refine HO.val (v := .int .i64 ((i : Nat) : Int)) (want_none) rfl (q_move rfl) ?_
      refine HO.val (v := .int .i64 ((i : Nat) : Int)) (want_none) rfl (q_assign rfl) ?_
      refine HO.nil (thenQ_normal (?_))
      refine HW.block ?_
      refine HW.loop (S := List Int × List Int × Nat) (fun s f h => match s with | (L1, L2, j) => f 0 = v ∧ f 1 = .int .i64 ((a : Nat) : Int) ∧ f 2 = .int .i64 ((b : Nat) : Int) ∧ f 3 = .func (.func 130) #[.pointer (some ⟨c, 0, none⟩)] #[] ∧ f 8 = .int .i64 ((i : Nat) : Int) ∧ f 9 = .int .i64 ((j : Nat) : Int) ∧ (Blk h c (.cells #[.map (some r)] 159 (0, 0))) ∧ (MapIs h r kI kI m) ∧ (Grown h0 h v v) ∧ (OwnIs h B 3 1 encI v (pre ++ (L1 ++ x :: (L2 ++ R)) ++ post)) ∧ (L1 ++ L2 = L0) ∧ (∀ y ∈ L2, bef m x y < 0) ∧ (j = a + L1.length) ∧ (j ≤ i)) (fun s => match s with | (L1, L2, j) => j) (L0, [], i) ?_ ?_
      · refine ⟨rfl, rfl, rfl, rfl, rfl, rfl, ?_, ?_, ?_, ?_, ?_, ?_, ?_, ?_⟩
        · exact hC
        · exact hM
        · exact hG
        · simpa using hO
        · simp
        · simp
        · omega
        · omega
      · rintro ⟨L1, L2, j⟩ f2 hh2 ⟨e0, e1, e2, e3, e8, e9, hC, hM, hG, hO, hL0, h2, hj, hjb⟩
        refine HW.fr [(0, v), (1, .int .i64 ((a : Nat) : Int)), (2, .int .i64 ((b : Nat) : Int)), (3, .func (.func 130) #[.pointer (some ⟨c, 0, none⟩)] #[]), (8, .int .i64 ((i : Nat) : Int)), (9, .int .i64 ((j : Nat) : Int))] ⟨e0, e1, e2, e3, e8, e9, trivial⟩ ?_
        refine HW.seq ?_
        refine HW.seq ?_
        refine HW.regionD 17 mixed (fun h => (Blk h c (.cells #[.map (some r)] 159 (0, 0))) ∧ (MapIs h r kI kI m) ∧ (Grown h0 h v v) ∧ (OwnIs h B 3 1 encI v (pre ++ (L1 ++ x :: (L2 ++ R)) ++ post))) [] [(0, true), (1, true), (2, true), (3, true), (4, true), (5, true), (6, true), (7, true), (8, true), (9, true), (10, true), (11, true), (12, true), (13, true), (14, false), (15, true), (16, true)] (by kernel_rfl) ?_
        refine HM.val (v := .int .i64 ((j : Nat) : Int)) rfl rfl (want_none) rfl (fun _ ⟨hC, hM, hG, hO⟩ => q_move rfl) ?_
        refine HM.val (v := .int .i64 ((a : Nat) : Int)) rfl rfl (want_none) rfl (fun _ ⟨hC, hM, hG, hO⟩ => q_move rfl) ?_
        refine HM.val (v := .bool (decide (((a : Nat) : Int) < ((j : Nat) : Int)))) rfl rfl (want_none) rfl (fun _ ⟨hC, hM, hG, hO⟩ => q_gtr rfl rfl) ?_
        refine HM.val (v := .bool (decide (((a : Nat) : Int) < ((j : Nat) : Int)))) rfl rfl (want_none) rfl (fun _ ⟨hC, hM, hG, hO⟩ => q_move rfl) ?_
        rcases Bool.eq_false_or_eq_true (decide (((a : Nat) : Int) < ((j : Nat) : Int))) with g2 | g2
        · have g2p := of_decide_eq_true g2
          obtain ⟨L1', y, rfl⟩ := snoc_of (L := L1) (by omega)
          have hV : IsSl v _ := hO.slice.shape (by simp)
          have hVl : (pre ++ ((L1' ++ [y]) ++ x :: (L2 ++ R)) ++ post).length = pre.length + (L1'.length + 1 + (1 + (L2.length + R.length))) + post.length := by simp; omega
          simp only [List.length_append, List.length_cons, List.length_nil] at hj
          have hgj : (pre ++ ((L1' ++ [y]) ++ x :: (L2 ++ R)) ++ post)[j]? = some x := by rw [show j = pre.length + (L1' ++ [y]).length from by simp; omega]; exact get3 _ _ _ _ _
          have hgj1 : (pre ++ ((L1' ++ [y]) ++ x :: (L2 ++ R)) ++ post)[j - 1]? = some y := by rw [show j - 1 = pre.length + L1'.length from by omega]; exact get3' _ _ _ _ _ _
          refine HM.val (v := .func (.func 130) #[.pointer (some ⟨c, 0, none⟩)] #[]) rfl rfl (want_by rfl rfl g2) rfl (fun _ ⟨hC, hM, hG, hO⟩ => q_move rfl) ?_
          refine HM.val (v := v) rfl rfl (want_by rfl rfl g2) rfl (fun _ ⟨hC, hM, hG, hO⟩ => q_move rfl) ?_
          refine HM.val (v := .int .i64 ((j : Nat) : Int)) rfl rfl (want_by rfl rfl g2) rfl (fun _ ⟨hC, hM, hG, hO⟩ => q_move rfl) ?_
          refine HM.val (v := elemPtr 1 v j) rfl rfl (want_by rfl rfl g2) rfl (fun _ ⟨hC, hM, hG, hO⟩ => q_indexAddrV (i := j) ts_22 hV rfl rfl (by omega)) ?_
          refine HM.val (v := .int .i64 x) rfl rfl (want_by rfl rfl g2) rfl (fun _ ⟨hC, hM, hG, hO⟩ => q_loadElemQ to_3 hO.slice rfl hgj rfl) ?_
          refine HM.val (v := v) rfl rfl (want_by rfl rfl g2) rfl (fun _ ⟨hC, hM, hG, hO⟩ => q_move rfl) ?_
          refine HM.val (v := .int .i64 ((j : Nat) : Int)) rfl rfl (want_by rfl rfl g2) rfl (fun _ ⟨hC, hM, hG, hO⟩ => q_move rfl) ?_
          refine HM.val (v := .int .i64 ((j - 1 : Nat) : Int)) rfl rfl (want_by rfl rfl g2) rfl (fun _ ⟨hC, hM, hG, hO⟩ => q_subN ((j - 1 : Nat) : Int) rfl rfl (by omega) (by omega) (by omega)) ?_
          refine HM.val (v := elemPtr 1 v (j - 1)) rfl rfl (want_by rfl rfl g2) rfl (fun _ ⟨hC, hM, hG, hO⟩ => q_indexAddrV (i := j - 1) ts_22 hV rfl rfl (by omega)) ?_
          refine HM.val (v := .int .i64 y) rfl rfl (want_by rfl rfl g2) rfl (fun _ ⟨hC, hM, hG, hO⟩ => q_loadElemQ to_3 hO.slice rfl hgj1 rfl) ?_
          refine HM.call ⟨⟨hC, hM, hG, hO⟩, Go.HL.at_nil _ _⟩ rfl (want_by rfl rfl g2) rfl (ec en_130 rfl rfl) (before_spec' c r m _ hC hM x y) ?_
          rintro _ h3 ⟨rfl, hx⟩
          replace hC := hC.ext hx
          replace hM := hM.ext hx
          replace hG := hG.ext hx
          replace hO := hO.ext hx
          have hxs := hx.size
          refine HM.val (v := .bool (decide ((bef m x y) < 0))) rfl rfl (want_by rfl rfl g2) rfl (fun _ ⟨hC, hM, hG, hO⟩ => q_lss rfl rfl) ?_
          refine HM.val (v := .bool (decide ((bef m x y) < 0))) rfl rfl (want_none) rfl (fun _ ⟨hC, hM, hG, hO⟩ => q_pickK true rfl g2 rfl) ?_
          refine HM.nil ⟨⟨hC, hM, hG, hO⟩, Go.HL.at_nil _ _⟩ (thenQ_normal (?_))
          refine HW.cond (decide ((bef m x y) < 0)) rfl (fun c3 => ?_) (fun c3 => ?_)
          · have c3p := of_decide_eq_true c3
            have hlt := c3p
            refine HW.skip (thenQ_normal (?_))
            refine HW.seq ?_
            refine HW.block ?_
            refine HW.regionD 18 mixed (fun h => (Blk h c (.cells #[.map (some r)] 159 (0, 0))) ∧ (MapIs h r kI kI m) ∧ (Grown h0 h v v)) [(15, fun h => OwnIs h B 3 1 encI v (pre ++ ((L1' ++ [y]) ++ x :: (L2 ++ R)) ++ post))] [(0, true), (1, true), (2, true), (3, true), (4, true), (5, true), (6, true), (7, true), (8, true), (9, true), (10, true), (11, true), (12, true), (13, true), (14, true), (15, false), (16, true), (17, false)] (by kernel_rfl) ?_
            refine HM.val (v := v) rfl rfl (want_none) rfl (fun _ ⟨hC, hM, hG⟩ => q_move rfl) ?_
            refine HM.val (v := .int .i64 ((j : Nat) : Int)) rfl rfl (want_none) rfl (fun _ ⟨hC, hM, hG⟩ => q_move rfl) ?_
            refine HM.val (v := v) rfl rfl (want_none) rfl (fun _ ⟨hC, hM, hG⟩ => q_move rfl) ?_
            refine HM.val (v := .int .i64 ((j : Nat) : Int)) rfl rfl (want_none) rfl (fun _ ⟨hC, hM, hG⟩ => q_move rfl) ?_
            refine HM.val (v := .int .i64 ((j - 1 : Nat) : Int)) rfl rfl (want_none) rfl (fun _ ⟨hC, hM, hG⟩ => q_subN ((j - 1 : Nat) : Int) rfl rfl (by omega) (by omega) (by omega)) ?_
            refine HM.val (v := v) rfl rfl (want_none) rfl (fun _ ⟨hC, hM, hG⟩ => q_move rfl) ?_
            refine HM.val (v := .int .i64 ((j : Nat) : Int)) rfl rfl (want_none) rfl (fun _ ⟨hC, hM, hG⟩ => q_move rfl) ?_
            refine HM.val (v := .int .i64 ((j - 1 : Nat) : Int)) rfl rfl (want_none) rfl (fun _ ⟨hC, hM, hG⟩ => q_subN ((j - 1 : Nat) : Int) rfl rfl (by omega) (by omega) (by omega)) ?_
            refine HM.val (v := elemPtr 1 v (j - 1)) rfl rfl (want_none) rfl (fun _ ⟨hC, hM, hG⟩ => q_indexAddrV (i := j - 1) ts_22 hV rfl rfl (by omega)) ?_
            refine HM.valT (v := .int .i64 y) 15 (fun h => OwnIs h B 3 1 encI v (pre ++ ((L1' ++ [y]) ++ x :: (L2 ++ R)) ++ post)) rfl rfl (want_none) rfl (by simp) (by kernel_rfl) (fun _ _ hO => q_loadElemQ to_3 hO.slice rfl hgj1 rfl) ?_
            refine HM.val (v := v) rfl rfl (want_none) rfl (fun _ ⟨hC, hM, hG⟩ => q_move rfl) ?_
            refine HM.val (v := .int .i64 ((j : Nat) : Int)) rfl rfl (want_none) rfl (fun _ ⟨hC, hM, hG⟩ => q_move rfl) ?_
            refine HM.val (v := elemPtr 1 v j) rfl rfl (want_none) rfl (fun _ ⟨hC, hM, hG⟩ => q_indexAddrV (i := j) ts_22 hV rfl rfl (by omega)) ?_
            refine HM.valT (v := .int .i64 x) 15 (fun h => OwnIs h B 3 1 encI v (pre ++ ((L1' ++ [y]) ++ x :: (L2 ++ R)) ++ post)) rfl rfl (want_none) rfl (by simp) (by kernel_rfl) (fun _ _ hO => q_loadElemQ to_3 hO.slice rfl hgj rfl) ?_
            refine HM.val (v := elemPtr 1 v j) rfl rfl (want_none) rfl (fun _ ⟨hC, hM, hG⟩ => q_indexAddrV (i := j) ts_22 hV rfl rfl (by omega)) ?_
            refine HM.sto ⟨⟨hC, hM, hG⟩, by intro c hc hl; obtain rfl := List.mem_singleton.1 hc; first | exact absurd hl (by dsimp only; decide) | exact hO⟩ rfl (want_none) rfl (s_storeElem (a := y) to_3 hO rfl (by first | omega | (simp; omega)) rfl rfl rfl rfl) ?_
            rintro h4 ⟨hO', hg⟩
            replace hC := hC.grown hg hvc
            replace hM := hM.grown hg hvr
            replace hG := hG.trans hg
            replace hO := hO'
            have hgs := hg.size; clear hg
            refine HM.val (v := elemPtr 1 v (j - 1)) rfl rfl (want_none) rfl (fun _ ⟨hC, hM, hG⟩ => q_indexAddrV (i := j - 1) ts_22 hV rfl rfl (by omega)) ?_
            refine HM.sto ⟨⟨hC, hM, hG⟩, by intro c hc hl; obtain rfl := List.mem_singleton.1 hc; first | exact absurd hl (by dsimp only; decide) | exact hO⟩ rfl (want_none) rfl (s_storeElem (a := x) to_3 hO rfl (by first | omega | (simp; omega)) rfl rfl rfl rfl) ?_
            rintro h5 ⟨hO', hg⟩
            replace hC := hC.grown hg hvc
            replace hM := hM.grown hg hvr
            replace hG := hG.trans hg
            replace hO := hO'
            have hgs := hg.size; clear hg
            refine HM.nil ⟨⟨hC, hM, hG⟩, by intro c hc hl; obtain rfl := List.mem_singleton.1 hc; first | exact absurd hl (by dsimp only; decide) | exact hO⟩ (blockQ_normal (thenQ_normal (?_)))
            refine HW.region ?_
            refine HO.val (v := .int .i64 ((j : Nat) : Int)) (want_none) rfl (q_move rfl) ?_
            refine HO.val (v := .int .i64 ((j - 1 : Nat) : Int)) (want_none) rfl (q_subN ((j - 1 : Nat) : Int) rfl rfl (by omega) (by omega) (by omega)) ?_
            refine HO.val (v := .int .i64 ((j - 1 : Nat) : Int)) (want_none) rfl (q_assign rfl) ?_
            refine HO.nil (thenQ_normal (?_))
            refine ⟨(L1', y :: L2, j - 1), ⟨rfl, rfl, rfl, rfl, rfl, rfl, ?_, ?_, ?_, ?_, ?_, ?_, ?_, ?_⟩, ?_⟩
            · exact hC
            · exact hM
            · exact hG
            · rw [show j = pre.length + L1'.length + 1 from by simp at hj; omega, show pre.length + L1'.length + 1 - 1 = pre.length + L1'.length from by omega, swap3] at hO; exact hO
            · simpa using hL0
            · intro z hz; rcases List.mem_cons.1 hz with rfl | hz
              · exact hlt
              · exact h2 z hz
            · simp at hj; omega
            · omega
            · dsimp only; omega
          · have c3p := of_decide_eq_false c3
            refine HW.exit (thenQ_exit (thenQ_exit (blockQ_exit (blockQ_normal (thenQ_normal (?_))))))
            refine HW.region ?_
            refine HO.val (v := .int .i64 ((i : Nat) : Int)) (want_none) rfl (q_move rfl) ?_
            refine HO.val (v := .int .i64 ((i + 1 : Nat) : Int)) (want_none) rfl (q_addN ((i + 1 : Nat) : Int) rfl rfl (by omega) (by omega) (by omega)) ?_
            refine HO.val (v := .int .i64 ((i + 1 : Nat) : Int)) (want_none) rfl (q_assign rfl) ?_
            refine HO.nil (thenQ_normal (?_))
            refine ⟨(((L1' ++ [y]) ++ x :: (L2 ++ R), i + 1)), ⟨rfl, rfl, rfl, rfl, rfl, ?_, ?_, ?_, ?_, ?_, ?_, ?_⟩, ?_⟩
            · exact hC
            · exact hM
            · exact hG
            · exact hO
            · exact (perm_ins x hL0).trans hp
            · rw [show (L1' ++ [y]) ++ x :: (L2 ++ R) = ((L1' ++ [y]) ++ x :: L2) ++ R from by simp, List.take_left' (by simp; have := congrArg List.length hL0; simp at this; omega)]
              refine srt_ins (bef_ord m) (hL0 ▸ hs) h2 ?_
              intro L z e; obtain ⟨rfl, rfl⟩ : L1' = L ∧ y = z := by simpa using e
              have := c3p; exact this
            · omega
            · dsimp only; omega
        · have g2p := of_decide_eq_false g2
          refine HM.past rfl rfl (past_by rfl rfl g2) rfl ?_
          refine HM.past rfl rfl (past_by rfl rfl g2) rfl ?_
          refine HM.past rfl rfl (past_by rfl rfl g2) rfl ?_
          refine HM.past rfl rfl (past_by rfl rfl g2) rfl ?_
          refine HM.past rfl rfl (past_by rfl rfl g2) rfl ?_
          refine HM.past rfl rfl (past_by rfl rfl g2) rfl ?_
          refine HM.past rfl rfl (past_by rfl rfl g2) rfl ?_
          refine HM.past rfl rfl (past_by rfl rfl g2) rfl ?_
          refine HM.past rfl rfl (past_by rfl rfl g2) rfl ?_
          refine HM.past rfl rfl (past_by rfl rfl g2) rfl ?_
          refine HM.pastF ⟨⟨hC, hM, hG, hO⟩, Go.HL.at_nil _ _⟩ rfl (past_by rfl rfl g2) rfl ?_
          refine HM.past rfl rfl (past_by rfl rfl g2) rfl ?_
          refine HM.val (v := .bool false) rfl rfl (want_none) rfl (fun _ ⟨hC, hM, hG, hO⟩ => q_pickK false rfl g2 rfl) ?_
          refine HM.nil ⟨⟨hC, hM, hG, hO⟩, Go.HL.at_nil _ _⟩ (thenQ_normal (?_))
          refine HW.condF rfl ?_
          refine HW.exit (thenQ_exit (thenQ_exit (blockQ_exit (blockQ_normal (thenQ_normal (?_))))))
          refine HW.region ?_
          refine HO.val (v := .int .i64 ((i : Nat) : Int)) (want_none) rfl (q_move rfl) ?_
          refine HO.val (v := .int .i64 ((i + 1 : Nat) : Int)) (want_none) rfl (q_addN ((i + 1 : Nat) : Int) rfl rfl (by omega) (by omega) (by omega)) ?_
          refine HO.val (v := .int .i64 ((i + 1 : Nat) : Int)) (want_none) rfl (q_assign rfl) ?_
          refine HO.nil (thenQ_normal (?_))
          refine ⟨((L1 ++ x :: (L2 ++ R), i + 1)), ⟨rfl, rfl, rfl, rfl, rfl, ?_, ?_, ?_, ?_, ?_, ?_, ?_⟩, ?_⟩
          · exact hC
          · exact hM
          · exact hG
          · exact hO
          · exact (perm_ins x hL0).trans hp
          · rw [show L1 ++ x :: (L2 ++ R) = (L1 ++ x :: L2) ++ R from by simp, List.take_left' (by simp; have := congrArg List.length hL0; simp at this; omega)]
            refine srt_ins (bef_ord m) (hL0 ▸ hs) h2 ?_
            intro L z e; subst e; have := g2p; simp at hj; omega
          · omega
          · dsimp only; omega
    · have c1p := of_decide_eq_false c1
      refine HW.exit (thenQ_exit (thenQ_exit (blockQ_exit (?_))))
      refine ⟨.inl rfl, .tuple #[], res_none rfl, ?_⟩
      refine ⟨rfl, M, hp, ?_, hO, hG, hC, hM⟩
      rw [List.take_of_length_le (by omega)] at hs; exact hs
end Go.HL.CI
