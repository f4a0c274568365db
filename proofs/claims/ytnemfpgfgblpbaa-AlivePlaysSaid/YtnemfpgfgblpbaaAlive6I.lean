/- Who is there, and who is gone, behind any calls: the walk. -/
import Derived.Test.YtnemfpgfgblpbaaOps2
import Derived.Test.YtnemfpgfgblpbaaProg
import Derived.Test.YtnemfpgfgblpbaaAlive5I
import Derived.Test.YtnemfpgfgblpbaaKeysI
set_option linter.unusedSimpArgs false
set_option linter.unusedVariables false
set_option linter.unusedSectionVars false
namespace Go.HL.CI
open Go.Proofs
theorem en_122 (args : Array Value) (w : World) : (callFunc 122 args).run Try.prog w = .ok (.enter 122 args) w := by kernel_rfl
theorem en_121 (args : Array Value) (w : World) : (callFunc 121 args).run Try.prog w = .ok (.enter 121 args) w := by kernel_rfl
theorem en_98 (args : Array Value) (w : World) : (callFunc 98 args).run Try.prog w = .ok (.enter 98 args) w := by kernel_rfl
theorem en_21 (args : Array Value) (w : World) : (callFunc 21 args).run Try.prog w = .ok (.enter 21 args) w := by kernel_rfl
theorem ts_31 : TSlice Try.prog 31 35 2 := ⟨Try.underlying31, Try.sizeOf35⟩
theorem ta_35 : TAgg Try.prog 35 2 := ⟨Try.isAgg35, Try.sizeOf35⟩
theorem tz_35 : TZero Try.prog 35 (.agg #[.int .i64 0, .int .i64 0]) := Try.zeroValue35
theorem fa_35_0 : FieldAt Try.prog 35 0 0 := fun a w => by kernel_rfl
theorem fa_35_1 : FieldAt Try.prog 35 1 1 := fun a w => by kernel_rfl
theorem en_22 (args : Array Value) (w : World) : (callFunc 22 args).run Try.prog w = .ok (.enter 22 args) w := by kernel_rfl
theorem en_24 (args : Array Value) (w : World) : (callFunc 24 args).run Try.prog w = .ok (.enter 24 args) w := by kernel_rfl
theorem en_26 (args : Array Value) (w : World) : (callFunc 26 args).run Try.prog w = .ok (.enter 26 args) w := by kernel_rfl
theorem en_30 (args : Array Value) (w : World) : (callFunc 30 args).run Try.prog w = .ok (.enter 30 args) w := by kernel_rfl
set_option maxRecDepth 100000 in
theorem keys_spec (c r : Nat) (m : List (Int × Int)) (h0 : Heap) (hC : Blk h0 c (.cells #[.map (some r)] 159 (0, 0))) (hM : MapIs h0 r kI kI m) (hk : ∀ p ∈ m, In64 p.1) (hl : m.length ≤ 1000000) :
    HC Try.prog 98 #[.pointer (some ⟨c, 0, none⟩)] h0 fun u h' => ∃ l : List Int, l.Perm (m.map Prod.fst) ∧ l.Pairwise (· ≤ ·) ∧ OwnIs h' h0.size 3 1 encI u l ∧ Ext h0 h' := by
  refine HC.of_HW (n := 11) Try.func98 rfl rfl (Nat.le_of_ble_eq_true rfl) ?_
  have hE := Ext.refl h0
  refine HW.seq ?_
  refine HW.region ?_
  refine HO.val (v := .slice none 0 0) (want_none) rfl (q_assign rfl) ?_
  refine HO.nil (thenQ_normal (?_))
  refine HW.seq ?_
  refine HW.seq ?_
  refine HW.region ?_
  refine HO.val (v := .pointer (some ⟨c, 0, none⟩)) (want_none) rfl (q_move rfl) ?_
  refine HO.val (v := .bool false) (want_none) rfl (q_eqlPnil Try.underlying124 rfl rfl rfl) ?_
  refine HO.nil (thenQ_normal (?_))
  refine HW.condF rfl ?_
  refine HW.skip (thenQ_normal (?_))
  refine HW.seq ?_
  refine HW.region ?_
  refine HO.val (v := .pointer (some ⟨c, 0, none⟩)) (want_none) rfl (q_move rfl) ?_
  refine HO.val (v := .pointer (some ⟨c, 0, none⟩)) (want_none) rfl (q_nilCheck rfl) ?_
  refine HO.val (v := .pointer (some ⟨c, 0, none⟩)) (want_none) rfl (q_fieldAddr fa_159_0 rfl rfl) ?_
  refine HO.val (v := .map (some r)) (want_none) rfl (q_load to_157 rfl (Blk.cell hC rfl)) ?_
  refine HO.call (want_none) rfl (ec en_122 rfl rfl) (mkeys_spec r _) ?_
  rintro _ h1 ⟨mb, rfl, hB, hx⟩
  replace hC := hC.ext hx
  replace hM := hM.ext hx
  replace hE := hE.trans hx
  have hxs := hx.size
  refine HO.call (want_none) rfl (ec en_121 rfl rfl) (sorted_spec hB hM hk hl) ?_
  rintro v h2 ⟨l, hp, hsl, hO, hx⟩
  replace hC := hC.ext hx
  replace hM := hM.ext hx
  replace hE := hE.trans hx
  have hxs := hx.size
  refine HO.val (v := v) (want_none) rfl (q_assign rfl) ?_
  refine HO.nil (thenQ_normal (?_))
  refine HW.ret (?_)
  refine ⟨.inr rfl, v, res_one rfl rfl, ?_⟩
  exact ⟨l, hp, hsl, hO.mono (by omega), hE⟩

set_option maxRecDepth 100000 in
theorem wlist_spec (w c r : Nat) (beats dead : Int) (m : List (Int × Int)) (h0 : Heap) (hI : WatchIs h0 w c r beats dead m) (hk : ∀ p ∈ m, In64 p.1) (hl : m.length ≤ 1000000) :
    HC Try.prog 29 #[.pointer (some ⟨w, 0, none⟩)] h0 fun u h' => ∃ l : List Int, l.Perm (m.map Prod.fst) ∧ l.Pairwise (· ≤ ·) ∧ OwnIs h' h0.size 3 1 encI u l ∧ Ext h0 h' := by
  refine HC.of_HW (n := 10) Try.func29 rfl rfl (Nat.le_of_ble_eq_true rfl) ?_
  obtain ⟨hW, hC, hM, hwc, hwr, hcr⟩ := hI
  have hE := Ext.refl h0
  refine HW.seq ?_
  refine HW.region ?_
  refine HO.val (v := .slice none 0 0) (want_none) rfl (q_assign rfl) ?_
  refine HO.nil (thenQ_normal (?_))
  refine HW.seq ?_
  refine HW.seq ?_
  refine HW.region ?_
  refine HO.val (v := .pointer (some ⟨w, 0, none⟩)) (want_none) rfl (q_move rfl) ?_
  refine HO.val (v := .bool false) (want_none) rfl (q_eqlPnil Try.underlying23 rfl rfl rfl) ?_
  refine HO.nil (thenQ_normal (?_))
  refine HW.condF rfl ?_
  refine HW.skip (thenQ_normal (?_))
  refine HW.seq ?_
  refine HW.region ?_
  refine HO.val (v := .pointer (some ⟨w, 0, none⟩)) (want_none) rfl (q_move rfl) ?_
  refine HO.val (v := .pointer (some ⟨w, 0, none⟩)) (want_none) rfl (q_nilCheck rfl) ?_
  refine HO.val (v := .pointer (some ⟨w, 2, none⟩)) (want_none) rfl (q_fieldAddr fa_127_2 rfl rfl) ?_
  refine HO.val (v := .pointer (some ⟨c, 0, none⟩)) (want_none) rfl (q_load to_124 rfl (Blk.cell hW rfl)) ?_
  refine HO.call (want_none) rfl (ec en_98 rfl rfl) (keys_spec c r m _ hC hM hk hl) ?_
  rintro v h1 ⟨l, hp, hsl, hO, hx⟩
  replace hW := hW.ext hx
  replace hC := hC.ext hx
  replace hM := hM.ext hx
  replace hE := hE.trans hx
  have hxs := hx.size
  refine HO.val (v := v) (want_none) rfl (q_assign rfl) ?_
  refine HO.nil (thenQ_normal (?_))
  refine HW.ret (?_)
  refine ⟨.inr rfl, v, res_one rfl rfl, ?_⟩
  exact ⟨l, hp, hsl, hO.mono (by omega), hE⟩

theorem WR.keys {m L : List (Int × Int)} {b D : Int} (h : WR m L b D) (hn : (m.map Prod.fst).Nodup) (hk : ∀ p ∈ L, In64 p.1) : ∀ p ∈ m, In64 p.1 := by
  intro p hp
  have h1 := (mem_iff_mget hn p.1 p.2).1 hp
  rw [h.eq, Option.map_eq_some_iff] at h1
  obtain ⟨x, hx, _⟩ := h1
  exact hk (p.1, x) ((mem_iff_mget (ksrt_nodup h.srt) _ _).2 hx)
theorem WatchIs.upd {h h' : Heap} {w c r z : Nat} {o : Obj} {beats dead : Int} {m : List (Int × Int)} (k : WatchIs h w c r beats dead m) (u : Upd h z o h') (h1 : w ≠ z) (h2 : c ≠ z) (h3 : r ≠ z) : WatchIs h' w c r beats dead m :=
  k.onlyL (u.onlyL (L := [z]) (by simp)) (by simpa using h1) (by simpa using h2) (by simpa using h3)
theorem RefIs.upd {h h' : Heap} {base x z : Nat} {o : Obj} {D b : Int} {v : Value} {L : List (Int × Int)} (k : RefIs h base x D b v L) (u : Upd h z o h') (h1 : x ≠ z) (h2 : blockOf v ≠ some z) : RefIs h' base x D b v L :=
  ⟨k.blk.upd u h1, k.own.upd u h2, k.xb, by rw [u.size]; exact k.bs⟩
theorem wput_keys {L : List (Int × Int)} {id x : Int} (hs : KSrt L) (hk : ∀ p ∈ L, In64 p.1) (hi : In64 id) : ∀ p ∈ wput L id x, In64 p.1 := by
  intro p hp; rcases wput_mem hp hs with rfl | hp
  · exact hi
  · exact hk p hp
theorem wrest_keys {L : List (Int × Int)} (hk : ∀ p ∈ L, In64 p.1) : ∀ p ∈ wrest L, In64 p.1 := by
  intro p hp; unfold wrest at hp; obtain ⟨q, hq, rfl⟩ := List.mem_map.1 hp; exact hk q (List.mem_filter.1 hq).1
theorem mdel_keys {L : List (Int × Int)} {id : Int} (hk : ∀ p ∈ L, In64 p.1) : ∀ p ∈ mdel L id, In64 p.1 := fun p hp => hk p (List.mem_filter.1 hp).1
theorem wrest_len' (L : List (Int × Int)) : (wrest L).length ≤ L.length := by unfold wrest; simpa using List.length_filter_le _ L
theorem mdel_len (L : List (Int × Int)) (id : Int) : (mdel L id).length ≤ L.length := List.length_filter_le _ _

set_option maxRecDepth 100000 in
theorem alive_plays (dead ask : Int) (va : Value) (A : List (Int × Int)) (h0 : Heap) (hA0 : SliceIs h0 2 encII va A) (hAk : ∀ p ∈ A, In64 p.2) :
    HC Try.prog 4 #[.int .i64 dead, va, .int .i64 ask] h0 fun u h' => u = .bool true ∧ Ext h0 h' := by
  refine HC.of_HW (n := 118) Try.func4 rfl rfl (Nat.le_of_ble_eq_true rfl) ?_
  have hE := Ext.refl h0
  obtain ⟨D, hDe, hD⟩ : ∃ D : Int, min (max dead 1) 1000 = D ∧ (1 ≤ D ∧ D ≤ 1000) := ⟨_, rfl, by omega⟩
  refine HW.seq ?_
  refine HW.region ?_
  refine HO.val (v := .bool false) (want_none) rfl (q_assign rfl) ?_
  refine HO.nil (thenQ_normal (?_))
  refine HW.seq ?_
  refine HW.region ?_
  refine HO.val (v := .int .i64 dead) (want_none) rfl (q_move rfl) ?_
  refine HO.call (want_none) rfl (ec en_15 rfl rfl) (wnew_spec dead _) ?_
  rintro _ h1 ⟨w, c, r, rfl, hI, hx, hwg, hcg, hrg⟩
  replace hE := hE.trans hx
  have hxs := hx.size
  have hwl := hI.blk.lt
  have hcl := hI.clk.lt
  have hrl := hI.map.lt
  rw [hDe] at hI
  refine HO.val (v := .int .i64 dead) (want_none) rfl (q_move rfl) ?_
  refine HO.call (want_none) rfl (ec en_21 rfl rfl) (rnew_spec dead _) ?_
  rintro _ h2 ⟨x, rfl, hX, hx, hxg⟩
  replace hE := hE.trans hx
  replace hI := hI.ext hx
  have hxs := hx.size
  rw [hDe] at hX
  obtain ⟨B, hBe⟩ : ∃ B, B = h2.size := ⟨_, rfl⟩
  have hR : RefIs h2 B x D 0 (.slice none 0 0) [] := ⟨hX, OwnIs.nil _ _ _ _ _, by have := hX.lt; omega, by omega⟩
  have hxB := hR.xb
  clear hX
  refine HO.val (v := .pointer (some ⟨w, 0, none⟩)) (want_none) rfl (q_assign rfl) ?_
  refine HO.val (v := .pointer (some ⟨x, 0, none⟩)) (want_none) rfl (q_assign rfl) ?_
  refine HO.nil (thenQ_normal (?_))
  refine HW.seq ?_
  refine HW.seq ?_
  refine HW.region ?_
  refine HO.val (v := .int .i64 0) (want_none) rfl (q_assign rfl) ?_
  refine HO.nil (thenQ_normal (?_))
  refine HW.block ?_
  refine HW.loop (S := Nat × Int × List (Int × Int) × Value × List (Int × Int)) (fun s f h => match s with | (i, b, m, vL, L) => f 1 = va ∧ f 2 = .int .i64 ask ∧ f 7 = .pointer (some ⟨w, 0, none⟩) ∧ f 8 = .pointer (some ⟨x, 0, none⟩) ∧ f 9 = .int .i64 ((i : Nat) : Int) ∧ (Ext h0 h) ∧ (WatchIs h w c r b D m) ∧ (RefIs h B x D b vL L) ∧ (i ≤ A.length ∧ i ≤ 60) ∧ (0 ≤ b ∧ b ≤ (i : Int)) ∧ (WR m L b D) ∧ (∀ p ∈ L, In64 p.1) ∧ (L.length ≤ i)) (fun s => match s with | (i, b, m, vL, L) => A.length - i) (0, 0, [], .slice none 0 0, []) ?_ ?_
  · refine ⟨rfl, rfl, rfl, rfl, rfl, ?_, ?_, ?_, ?_, ?_, ?_, ?_, ?_⟩
    · exact hE
    · exact hI
    · exact hR
    · omega
    · omega
    · exact wr_nil 0 D
    · intro p hp; cases hp
    · exact Nat.le_refl _
  · rintro ⟨i, b, m, vL, L⟩ f3 hh3 ⟨e1, e2, e7, e8, e9, hE, hI, hR, hi, hb, hWR, hk, hl⟩
    refine HW.fr [(1, va), (2, .int .i64 ask), (7, .pointer (some ⟨w, 0, none⟩)), (8, .pointer (some ⟨x, 0, none⟩)), (9, .int .i64 ((i : Nat) : Int))] ⟨e1, e2, e7, e8, e9, trivial⟩ ?_
    have hnd := hI.map.nodup
    have hml := hWR.len hnd
    have hAn := hA0.len_i
    have hes := hE.size
    have hBs := hR.bs
    refine HW.seq ?_
    refine HW.seq ?_
    refine HW.region ?_
    refine HO.val (v := .int .i64 ((i : Nat) : Int)) (want_none) rfl (q_move rfl) ?_
    refine HO.val (v := va) (want_none) rfl (q_move rfl) ?_
    refine HO.val (v := .int .i64 ((A.length : Nat) : Int)) (want_none) rfl (q_lenS ts_31 (hA0.ext hE).shp rfl rfl) ?_
    refine HO.val (v := .bool (decide (((i : Nat) : Int) < ((A.length : Nat) : Int)))) (want_none) rfl (q_lss rfl rfl) ?_
    refine HO.val (v := .bool (decide (((i : Nat) : Int) < ((A.length : Nat) : Int)))) (want_none) rfl (q_move rfl) ?_
    rcases Bool.eq_false_or_eq_true (decide (((i : Nat) : Int) < ((A.length : Nat) : Int))) with g1 | g1
    · have g1p := of_decide_eq_true g1
      have hid := hAk _ (List.getElem_mem (show i < A.length by omega))
      refine HO.val (v := .int .i64 ((i : Nat) : Int)) (want_by rfl rfl g1) rfl (q_move rfl) ?_
      refine HO.val (v := .bool (decide (((i : Nat) : Int) < 60))) (want_by rfl rfl g1) rfl (q_lss rfl rfl) ?_
      refine HO.val (v := .bool (decide (((i : Nat) : Int) < 60))) (want_none) rfl (q_pickK true rfl g1 rfl) ?_
      refine HO.nil (thenQ_normal (?_))
      refine HW.cond (decide (((i : Nat) : Int) < 60)) rfl (fun c2 => ?_) (fun c2 => ?_)
      · have c2p := of_decide_eq_true c2
        refine HW.skip (thenQ_normal (?_))
        refine HW.seq ?_
        refine HW.block ?_
        refine HW.seq ?_
        refine HW.region ?_
        refine HO.val (v := va) (want_none) rfl (q_move rfl) ?_
        refine HO.val (v := .int .i64 ((i : Nat) : Int)) (want_none) rfl (q_move rfl) ?_
        refine HO.val (v := elemPtr 2 va i) (want_none) rfl (q_indexAddr (i := i) ts_31 (hA0.ext hE) rfl rfl (by omega)) ?_
        refine HO.val (v := .agg #[.int .i64 ((A[i]'(by omega)).1), .int .i64 ((A[i]'(by omega)).2)]) (want_none) rfl (q_loadElemAgg ta_35 (hA0.ext hE) rfl (by omega)) ?_
        refine HO.eff (want_none) rfl (e_alloc tz_35 rfl) ?_
        rintro _ h4 ⟨b3, rfl, hn⟩
        have hnehR_own_b3 := hR.own.ne_ge (Nat.le_of_eq hn.at_.symm)
        replace hE := hE.trans hn.ext
        replace hI := hI.ext hn.ext
        replace hR := hR.ext hn.ext
        have hb3 : Blk h4 b3 (.cells #[.int .i64 0, .int .i64 0] 35 (0, 0)) := hn.blk
        have hb3a := hn.at_; have hb3s := hn.size; clear hn
        refine HO.sto (want_none) rfl (s_storeAgg (c' := #[.int .i64 ((A[i]'(by omega)).1), .int .i64 ((A[i]'(by omega)).2)]) ta_35 hb3 rfl rfl rfl (by simp [Value.oneCell']) (Nat.le_of_ble_eq_true rfl) rfl) ?_
        rintro h5 hu
        replace hE := hE.upd hu (by omega)
        replace hI := hI.upd hu (by omega) (by omega) (by omega)
        replace hR := hR.upd hu (by omega) hnehR_own_b3
        replace hb3 : Blk h5 b3 (.cells #[.int .i64 ((A[i]'(by omega)).1), .int .i64 ((A[i]'(by omega)).2)] 35 (0, 0)) := hu.blk rfl
        have hus := hu.size; clear hu
        refine HO.nil (thenQ_normal (?_))
        refine HW.seq ?_
        refine HW.seq_mid (fun f h => ∃ (m1 : List (Int × Int)) (b1 : Int) (vL1 : Value) (L1 : List (Int × Int)), f 1 = va ∧ f 2 = .int .i64 ask ∧ f 7 = .pointer (some ⟨w, 0, none⟩) ∧ f 8 = .pointer (some ⟨x, 0, none⟩) ∧ f 9 = .int .i64 ((i : Nat) : Int) ∧ f 73 = .bool false ∧ (Ext h0 h) ∧ (WatchIs h w c r b1 D m1) ∧ (RefIs h B x D b1 vL1 L1) ∧ (WR m1 L1 b1 D) ∧ (∀ p ∈ L1, In64 p.1) ∧ (L1.length ≤ i + 1) ∧ (0 ≤ b1 ∧ b1 ≤ (i : Int) + 1)) ?_ ?_
        · refine HW.regionD 43 mixed (fun h => (Ext h0 h) ∧ (Blk h b3 (.cells #[.int .i64 ((A[i]'(by omega)).1), .int .i64 ((A[i]'(by omega)).2)] 35 (0, 0)))) [] [(0, true), (1, true), (2, true), (3, true), (4, true), (5, true), (6, true), (8, true), (9, true), (10, true), (7, false), (11, false), (12, true), (13, true), (14, true), (15, true), (16, true), (17, true), (18, true), (19, true), (21, true), (20, false), (22, false), (23, false), (24, true), (25, true), (26, true), (27, true), (28, true), (29, true), (30, true), (31, true), (32, true), (33, true), (34, true), (36, true), (37, true), (38, true), (35, false), (39, false), (40, true), (41, true), (42, true)] (by kernel_rfl) ?_
          refine HM.val (v := .pointer (some ⟨b3, 0, none⟩)) rfl rfl (want_none) rfl (fun _ ⟨hE, hb3⟩ => q_fieldAddr fa_35_0 rfl rfl) ?_
          refine HM.val (v := .int .i64 ((A[i]'(by omega)).1)) rfl rfl (want_none) rfl (fun _ ⟨hE, hb3⟩ => q_load to_3 rfl (Blk.cell hb3 rfl)) ?_
          refine HM.val (v := .bool (decide (((A[i]'(by omega)).1) = 0))) rfl rfl (want_none) rfl (fun _ ⟨hE, hb3⟩ => q_eql rfl rfl) ?_
          refine HM.val (v := .bool (decide (((A[i]'(by omega)).1) = 0))) rfl rfl (want_none) rfl (fun _ ⟨hE, hb3⟩ => q_move rfl) ?_
          rcases Bool.eq_false_or_eq_true (decide (((A[i]'(by omega)).1) = 0)) with g4 | g4
          · have g4p := of_decide_eq_true g4
            refine HM.val (v := .pointer (some ⟨w, 0, none⟩)) rfl rfl (want_by rfl rfl g4) rfl (fun _ ⟨hE, hb3⟩ => q_move rfl) ?_
            refine HM.val (v := .pointer (some ⟨b3, 1, none⟩)) rfl rfl (want_by rfl rfl g4) rfl (fun _ ⟨hE, hb3⟩ => q_fieldAddr fa_35_1 rfl rfl) ?_
            refine HM.val (v := .int .i64 ((A[i]'(by omega)).2)) rfl rfl (want_by rfl rfl g4) rfl (fun _ ⟨hE, hb3⟩ => q_load to_3 rfl (Blk.cell hb3 rfl)) ?_
            refine HM.val (v := .pointer (some ⟨x, 0, none⟩)) rfl rfl (want_by rfl rfl g4) rfl (fun _ ⟨hE, hb3⟩ => q_move rfl) ?_
            refine HM.val (v := .pointer (some ⟨b3, 1, none⟩)) rfl rfl (want_by rfl rfl g4) rfl (fun _ ⟨hE, hb3⟩ => q_fieldAddr fa_35_1 rfl rfl) ?_
            refine HM.val (v := .int .i64 ((A[i]'(by omega)).2)) rfl rfl (want_by rfl rfl g4) rfl (fun _ ⟨hE, hb3⟩ => q_load to_3 rfl (Blk.cell hb3 rfl)) ?_
            refine HM.call ⟨⟨hE, hb3⟩, Go.HL.at_nil _ _⟩ rfl (want_by rfl rfl g4) rfl (ec en_16 rfl rfl) (hear_spec w c r b D m _ hI ((A[i]'(by omega)).2) (by omega) (by omega)) ?_
            rintro _ h6 ⟨rfl, hI', hx⟩
            replace hE := hE.onlyL hx (by simp; omega)
            replace hR := hR.onlyL hx (by simp; omega) (by simp; omega)
            replace hb3 := hb3.onlyL hx (by simp; omega)
            replace hI := hI'
            have hxs := hx.size
            refine HM.call ⟨⟨hE, hb3⟩, Go.HL.at_nil _ _⟩ rfl (want_by rfl rfl g4) rfl (ec en_22 rfl rfl) (rhear_spec B x D b vL L _ hR ((A[i]'(by omega)).2) (by omega)) ?_
            rintro _ h7 ⟨rfl, vL5, hR', hx⟩
            replace hE := hE.onlyX hx (by omega) (fun y hy => Nat.le_trans (by omega) (hR.own.ge hy))
            replace hb3 := hb3.onlyX hx (by omega) hnehR_own_b3
            replace hI := hI.onlyX hx (by omega) (by omega) (by omega) (by rintro y (rfl | rfl | rfl) <;> exact hR.own.ne_lt (by omega))
            replace hR := hR'
            have hxs := hx.size
            refine HM.val (v := .bool (!((!(mget m ((A[i]'(by omega)).2)).isSome) == (!(mget L ((A[i]'(by omega)).2)).isSome)))) rfl rfl (want_by rfl rfl g4) rfl (fun _ ⟨hE, hb3⟩ => q_neqB Try.underlying4 rfl rfl) ?_
            refine HM.val (v := .bool (!((!(mget m ((A[i]'(by omega)).2)).isSome) == (!(mget L ((A[i]'(by omega)).2)).isSome)))) rfl rfl (want_none) rfl (fun _ ⟨hE, hb3⟩ => q_pickK true rfl g4 rfl) ?_
            refine HM.val (v := .bool (!((!(mget m ((A[i]'(by omega)).2)).isSome) == (!(mget L ((A[i]'(by omega)).2)).isSome)))) rfl rfl (want_none) rfl (fun _ ⟨hE, hb3⟩ => q_move rfl) ?_
            have k6 : ((!(mget m ((A[i]'(by omega)).2)).isSome) == (!(mget L ((A[i]'(by omega)).2)).isSome)) = true := by rw [hWR.some]; simp
            refine HM.val (v := .pointer (some ⟨b3, 0, none⟩)) rfl rfl (want_by rfl rfl (by rw [k6]; rfl)) rfl (fun _ ⟨hE, hb3⟩ => q_fieldAddr fa_35_0 rfl rfl) ?_
            refine HM.val (v := .int .i64 ((A[i]'(by omega)).1)) rfl rfl (want_by rfl rfl (by rw [k6]; rfl)) rfl (fun _ ⟨hE, hb3⟩ => q_load to_3 rfl (Blk.cell hb3 rfl)) ?_
            refine HM.val (v := .bool (decide (((A[i]'(by omega)).1) = 1))) rfl rfl (want_by rfl rfl (by rw [k6]; rfl)) rfl (fun _ ⟨hE, hb3⟩ => q_eql rfl rfl) ?_
            refine HM.val (v := .bool (decide (((A[i]'(by omega)).1) = 1))) rfl rfl (want_by rfl rfl (by rw [k6]; rfl)) rfl (fun _ ⟨hE, hb3⟩ => q_move rfl) ?_
            have k7 : (decide (((A[i]'(by omega)).1) = 1)) = false := by rw [decide_eq_false_iff_not]; omega
            refine HM.past rfl rfl (past_by rfl rfl k7) rfl ?_
            refine HM.past rfl rfl (past_by rfl rfl k7) rfl ?_
            refine HM.pastF ⟨⟨hE, hb3⟩, Go.HL.at_nil _ _⟩ rfl (past_by rfl rfl k7) rfl ?_
            refine HM.pastF ⟨⟨hE, hb3⟩, Go.HL.at_nil _ _⟩ rfl (past_by rfl rfl k7) rfl ?_
            refine HM.pastF ⟨⟨hE, hb3⟩, Go.HL.at_nil _ _⟩ rfl (past_by rfl rfl k7) rfl ?_
            refine HM.past rfl rfl (past_by rfl rfl k7) rfl ?_
            refine HM.val (v := .bool false) rfl rfl (want_by rfl rfl (by rw [k6]; rfl)) rfl (fun _ ⟨hE, hb3⟩ => q_pickK false rfl k7 rfl) ?_
            refine HM.val (v := .bool false) rfl rfl (want_none) rfl (fun _ ⟨hE, hb3⟩ => q_pickK false rfl (by rw [k6]; rfl) rfl) ?_
            refine HM.val (v := .bool false) rfl rfl (want_none) rfl (fun _ ⟨hE, hb3⟩ => q_move rfl) ?_
            refine HM.val (v := .pointer (some ⟨b3, 0, none⟩)) rfl rfl (want_some rfl rfl) rfl (fun _ ⟨hE, hb3⟩ => q_fieldAddr fa_35_0 rfl rfl) ?_
            refine HM.val (v := .int .i64 ((A[i]'(by omega)).1)) rfl rfl (want_some rfl rfl) rfl (fun _ ⟨hE, hb3⟩ => q_load to_3 rfl (Blk.cell hb3 rfl)) ?_
            refine HM.val (v := .bool (decide (1 < ((A[i]'(by omega)).1)))) rfl rfl (want_some rfl rfl) rfl (fun _ ⟨hE, hb3⟩ => q_gtr rfl rfl) ?_
            refine HM.val (v := .bool (decide (1 < ((A[i]'(by omega)).1)))) rfl rfl (want_some rfl rfl) rfl (fun _ ⟨hE, hb3⟩ => q_move rfl) ?_
            have k8 : (decide (1 < ((A[i]'(by omega)).1))) = false := by rw [decide_eq_false_iff_not]; omega
            refine HM.past rfl rfl (past_by rfl rfl k8) rfl ?_
            refine HM.past rfl rfl (past_by rfl rfl k8) rfl ?_
            refine HM.past rfl rfl (past_by rfl rfl k8) rfl ?_
            refine HM.past rfl rfl (past_by rfl rfl k8) rfl ?_
            refine HM.past rfl rfl (past_by rfl rfl k8) rfl ?_
            refine HM.past rfl rfl (past_by rfl rfl k8) rfl ?_
            refine HM.pastF ⟨⟨hE, hb3⟩, Go.HL.at_nil _ _⟩ rfl (past_by rfl rfl k8) rfl ?_
            refine HM.pastF ⟨⟨hE, hb3⟩, Go.HL.at_nil _ _⟩ rfl (past_by rfl rfl k8) rfl ?_
            refine HM.past rfl rfl (past_by rfl rfl k8) rfl ?_
            refine HM.val (v := .bool false) rfl rfl (want_some rfl rfl) rfl (fun _ ⟨hE, hb3⟩ => q_pickK false rfl k8 rfl) ?_
            refine HM.val (v := .bool false) rfl rfl (want_none) rfl (fun _ ⟨hE, hb3⟩ => q_pick rfl rfl) ?_
            refine HM.nil ⟨⟨hE, hb3⟩, Go.HL.at_nil _ _⟩ (thenQ_normal (?_))
            refine ⟨mset m ((A[i]'(by omega)).2) (b + D), b, vL5, wput L ((A[i]'(by omega)).2) D, rfl, rfl, rfl, rfl, rfl, rfl, ?_, ?_, ?_, ?_, ?_, ?_, ?_⟩
            · exact hE
            · exact hI
            · exact hR
            · first | exact hWR | exact hWR.hear hD.1 _ | exact hWR.beat hnd | exact hWR.cut _
            · first | exact hk | exact wput_keys hWR.srt hk hid | exact wrest_keys hk | exact mdel_keys hk
            · first | omega | (have := wput_len L (A[i]'(by omega)).2 D; omega) | (have := wrest_len' L; omega) | (have := mdel_len L (A[i]'(by omega)).2; omega)
            · omega
          · have g4p := of_decide_eq_false g4
            refine HM.past rfl rfl (past_by rfl rfl g4) rfl ?_
            refine HM.past rfl rfl (past_by rfl rfl g4) rfl ?_
            refine HM.past rfl rfl (past_by rfl rfl g4) rfl ?_
            refine HM.past rfl rfl (past_by rfl rfl g4) rfl ?_
            refine HM.past rfl rfl (past_by rfl rfl g4) rfl ?_
            refine HM.past rfl rfl (past_by rfl rfl g4) rfl ?_
            refine HM.pastF ⟨⟨hE, hb3⟩, Go.HL.at_nil _ _⟩ rfl (past_by rfl rfl g4) rfl ?_
            refine HM.pastF ⟨⟨hE, hb3⟩, Go.HL.at_nil _ _⟩ rfl (past_by rfl rfl g4) rfl ?_
            refine HM.past rfl rfl (past_by rfl rfl g4) rfl ?_
            refine HM.val (v := .bool false) rfl rfl (want_none) rfl (fun _ ⟨hE, hb3⟩ => q_pickK false rfl g4 rfl) ?_
            refine HM.val (v := .bool false) rfl rfl (want_none) rfl (fun _ ⟨hE, hb3⟩ => q_move rfl) ?_
            refine HM.val (v := .pointer (some ⟨b3, 0, none⟩)) rfl rfl (want_some rfl rfl) rfl (fun _ ⟨hE, hb3⟩ => q_fieldAddr fa_35_0 rfl rfl) ?_
            refine HM.val (v := .int .i64 ((A[i]'(by omega)).1)) rfl rfl (want_some rfl rfl) rfl (fun _ ⟨hE, hb3⟩ => q_load to_3 rfl (Blk.cell hb3 rfl)) ?_
            refine HM.val (v := .bool (decide (((A[i]'(by omega)).1) = 1))) rfl rfl (want_some rfl rfl) rfl (fun _ ⟨hE, hb3⟩ => q_eql rfl rfl) ?_
            refine HM.val (v := .bool (decide (((A[i]'(by omega)).1) = 1))) rfl rfl (want_some rfl rfl) rfl (fun _ ⟨hE, hb3⟩ => q_move rfl) ?_
            rcases Bool.eq_false_or_eq_true (decide (((A[i]'(by omega)).1) = 1)) with g9 | g9
            · have g9p := of_decide_eq_true g9
              refine HM.val (v := .pointer (some ⟨w, 0, none⟩)) rfl rfl (want_by rfl rfl g9) rfl (fun _ ⟨hE, hb3⟩ => q_move rfl) ?_
              refine HM.val (v := .pointer (some ⟨x, 0, none⟩)) rfl rfl (want_by rfl rfl g9) rfl (fun _ ⟨hE, hb3⟩ => q_move rfl) ?_
              refine HM.call ⟨⟨hE, hb3⟩, Go.HL.at_nil _ _⟩ rfl (want_by rfl rfl g9) rfl (ec en_18 rfl rfl) (beat_spec w c r b D m _ hI (by omega) (by omega)) ?_
              rintro vl10 h8 ⟨l10, hdl10, hOl10, hI', hx⟩
              replace hE := hE.onlyL hx (by simp; omega)
              replace hR := hR.onlyL hx (by simp; omega) (by simp; omega)
              replace hb3 := hb3.onlyL hx (by simp; omega)
              replace hI := hI'
              have hxs := hx.size
              refine HM.call ⟨⟨hE, hb3⟩, Go.HL.at_nil _ _⟩ rfl (want_by rfl rfl g9) rfl (ec en_24 rfl rfl) (rbeat_spec B x D b vL L _ hR (by omega) (by omega) (fun p hp => by have := hWR.bd p hp; omega)) ?_
              rintro vq12 h9 ⟨hOq12, vL11, hR', hx⟩
              replace hE := hE.onlyL hx (by simp; omega)
              replace hb3 := hb3.onlyL hx (by simp; omega)
              replace hI := hI.onlyL hx (by simp; omega) (by simp; omega) (by simp; omega)
              replace hOl10 := hOl10.onlyL hx (hOl10.notin (by simp; omega))
              replace hR := hR'
              have hxs := hx.size
              refine HM.call ⟨⟨hE, hb3⟩, Go.HL.at_nil _ _⟩ rfl (want_by rfl rfl g9) rfl (ec en_23 rfl rfl) (same_spec _ _ l10 (wgone L) _ hOl10.slice hOq12.slice) ?_
              rintro _ hq ⟨rfl, hqe⟩
              obtain rfl := Eq.symm hqe
              refine HM.val (v := .bool (!(decide (l10 = wgone L)))) rfl rfl (want_by rfl rfl g9) rfl (fun _ ⟨hE, hb3⟩ => q_not rfl) ?_
              refine HM.val (v := .bool (!(decide (l10 = wgone L)))) rfl rfl (want_some rfl rfl) rfl (fun _ ⟨hE, hb3⟩ => q_pickK true rfl g9 rfl) ?_
              refine HM.val (v := .bool (!(decide (l10 = wgone L)))) rfl rfl (want_none) rfl (fun _ ⟨hE, hb3⟩ => q_pick rfl rfl) ?_
              refine HM.val (v := .bool (!(decide (l10 = wgone L)))) rfl rfl (want_none) rfl (fun _ ⟨hE, hb3⟩ => q_move rfl) ?_
              have k13 : (decide (l10 = wgone L)) = true := by rw [decide_eq_true_eq]; exact hWR.due hnd hdl10
              refine HM.val (v := .pointer (some ⟨b3, 0, none⟩)) rfl rfl (want_by rfl rfl (by rw [k13]; rfl)) rfl (fun _ ⟨hE, hb3⟩ => q_fieldAddr fa_35_0 rfl rfl) ?_
              refine HM.val (v := .int .i64 ((A[i]'(by omega)).1)) rfl rfl (want_by rfl rfl (by rw [k13]; rfl)) rfl (fun _ ⟨hE, hb3⟩ => q_load to_3 rfl (Blk.cell hb3 rfl)) ?_
              refine HM.val (v := .bool (decide (1 < ((A[i]'(by omega)).1)))) rfl rfl (want_by rfl rfl (by rw [k13]; rfl)) rfl (fun _ ⟨hE, hb3⟩ => q_gtr rfl rfl) ?_
              refine HM.val (v := .bool (decide (1 < ((A[i]'(by omega)).1)))) rfl rfl (want_by rfl rfl (by rw [k13]; rfl)) rfl (fun _ ⟨hE, hb3⟩ => q_move rfl) ?_
              have k14 : (decide (1 < ((A[i]'(by omega)).1))) = false := by rw [decide_eq_false_iff_not]; omega
              refine HM.past rfl rfl (past_by rfl rfl k14) rfl ?_
              refine HM.past rfl rfl (past_by rfl rfl k14) rfl ?_
              refine HM.past rfl rfl (past_by rfl rfl k14) rfl ?_
              refine HM.past rfl rfl (past_by rfl rfl k14) rfl ?_
              refine HM.past rfl rfl (past_by rfl rfl k14) rfl ?_
              refine HM.past rfl rfl (past_by rfl rfl k14) rfl ?_
              refine HM.pastF ⟨⟨hE, hb3⟩, Go.HL.at_nil _ _⟩ rfl (past_by rfl rfl k14) rfl ?_
              refine HM.pastF ⟨⟨hE, hb3⟩, Go.HL.at_nil _ _⟩ rfl (past_by rfl rfl k14) rfl ?_
              refine HM.past rfl rfl (past_by rfl rfl k14) rfl ?_
              refine HM.val (v := .bool false) rfl rfl (want_by rfl rfl (by rw [k13]; rfl)) rfl (fun _ ⟨hE, hb3⟩ => q_pickK false rfl k14 rfl) ?_
              refine HM.val (v := .bool false) rfl rfl (want_none) rfl (fun _ ⟨hE, hb3⟩ => q_pickK false rfl (by rw [k13]; rfl) rfl) ?_
              refine HM.nil ⟨⟨hE, hb3⟩, Go.HL.at_nil _ _⟩ (thenQ_normal (?_))
              refine ⟨m.filter fun p => decide (b + 1 < p.2), b + 1, vL11, wrest L, rfl, rfl, rfl, rfl, rfl, rfl, ?_, ?_, ?_, ?_, ?_, ?_, ?_⟩
              · exact hE
              · exact hI
              · exact hR
              · first | exact hWR | exact hWR.hear hD.1 _ | exact hWR.beat hnd | exact hWR.cut _
              · first | exact hk | exact wput_keys hWR.srt hk hid | exact wrest_keys hk | exact mdel_keys hk
              · first | omega | (have := wput_len L (A[i]'(by omega)).2 D; omega) | (have := wrest_len' L; omega) | (have := mdel_len L (A[i]'(by omega)).2; omega)
              · omega
            · have g9p := of_decide_eq_false g9
              refine HM.past rfl rfl (past_by rfl rfl g9) rfl ?_
              refine HM.past rfl rfl (past_by rfl rfl g9) rfl ?_
              refine HM.pastF ⟨⟨hE, hb3⟩, Go.HL.at_nil _ _⟩ rfl (past_by rfl rfl g9) rfl ?_
              refine HM.pastF ⟨⟨hE, hb3⟩, Go.HL.at_nil _ _⟩ rfl (past_by rfl rfl g9) rfl ?_
              refine HM.pastF ⟨⟨hE, hb3⟩, Go.HL.at_nil _ _⟩ rfl (past_by rfl rfl g9) rfl ?_
              refine HM.past rfl rfl (past_by rfl rfl g9) rfl ?_
              refine HM.val (v := .bool false) rfl rfl (want_some rfl rfl) rfl (fun _ ⟨hE, hb3⟩ => q_pickK false rfl g9 rfl) ?_
              refine HM.val (v := .bool false) rfl rfl (want_none) rfl (fun _ ⟨hE, hb3⟩ => q_pick rfl rfl) ?_
              refine HM.val (v := .bool false) rfl rfl (want_none) rfl (fun _ ⟨hE, hb3⟩ => q_move rfl) ?_
              refine HM.val (v := .pointer (some ⟨b3, 0, none⟩)) rfl rfl (want_some rfl rfl) rfl (fun _ ⟨hE, hb3⟩ => q_fieldAddr fa_35_0 rfl rfl) ?_
              refine HM.val (v := .int .i64 ((A[i]'(by omega)).1)) rfl rfl (want_some rfl rfl) rfl (fun _ ⟨hE, hb3⟩ => q_load to_3 rfl (Blk.cell hb3 rfl)) ?_
              refine HM.val (v := .bool (decide (1 < ((A[i]'(by omega)).1)))) rfl rfl (want_some rfl rfl) rfl (fun _ ⟨hE, hb3⟩ => q_gtr rfl rfl) ?_
              refine HM.val (v := .bool (decide (1 < ((A[i]'(by omega)).1)))) rfl rfl (want_some rfl rfl) rfl (fun _ ⟨hE, hb3⟩ => q_move rfl) ?_
              rcases Bool.eq_false_or_eq_true (decide (1 < ((A[i]'(by omega)).1))) with g15 | g15
              · have g15p := of_decide_eq_true g15
                refine HM.val (v := .pointer (some ⟨w, 0, none⟩)) rfl rfl (want_by rfl rfl g15) rfl (fun _ ⟨hE, hb3⟩ => q_move rfl) ?_
                refine HM.val (v := .pointer (some ⟨b3, 1, none⟩)) rfl rfl (want_by rfl rfl g15) rfl (fun _ ⟨hE, hb3⟩ => q_fieldAddr fa_35_1 rfl rfl) ?_
                refine HM.val (v := .int .i64 ((A[i]'(by omega)).2)) rfl rfl (want_by rfl rfl g15) rfl (fun _ ⟨hE, hb3⟩ => q_load to_3 rfl (Blk.cell hb3 rfl)) ?_
                refine HM.val (v := .pointer (some ⟨x, 0, none⟩)) rfl rfl (want_by rfl rfl g15) rfl (fun _ ⟨hE, hb3⟩ => q_move rfl) ?_
                refine HM.val (v := .pointer (some ⟨b3, 1, none⟩)) rfl rfl (want_by rfl rfl g15) rfl (fun _ ⟨hE, hb3⟩ => q_fieldAddr fa_35_1 rfl rfl) ?_
                refine HM.val (v := .int .i64 ((A[i]'(by omega)).2)) rfl rfl (want_by rfl rfl g15) rfl (fun _ ⟨hE, hb3⟩ => q_load to_3 rfl (Blk.cell hb3 rfl)) ?_
                refine HM.call ⟨⟨hE, hb3⟩, Go.HL.at_nil _ _⟩ rfl (want_by rfl rfl g15) rfl (ec en_25 rfl rfl) (wcut_spec w c r b D m _ hI ((A[i]'(by omega)).2)) ?_
                rintro _ h10 ⟨rfl, hI', hx⟩
                replace hE := hE.onlyL hx (by simp; omega)
                replace hR := hR.onlyL hx (by simp; omega) (by simp; omega)
                replace hb3 := hb3.onlyL hx (by simp; omega)
                replace hI := hI'
                have hxs := hx.size
                refine HM.call ⟨⟨hE, hb3⟩, Go.HL.at_nil _ _⟩ rfl (want_by rfl rfl g15) rfl (ec en_26 rfl rfl) (rcut_spec B x D b vL L _ hR ((A[i]'(by omega)).2) (by omega) (ksrt_nodup hWR.srt)) ?_
                rintro _ h11 ⟨rfl, vL16, hR', hx⟩
                replace hE := hE.onlyX hx (by omega) (fun y hy => Nat.le_trans (by omega) (hR.own.ge hy))
                replace hb3 := hb3.onlyX hx (by omega) hnehR_own_b3
                replace hI := hI.onlyX hx (by omega) (by omega) (by omega) (by rintro y (rfl | rfl | rfl) <;> exact hR.own.ne_lt (by omega))
                replace hR := hR'
                have hxs := hx.size
                refine HM.val (v := .bool (!(((mget m ((A[i]'(by omega)).2)).isSome) == ((mget L ((A[i]'(by omega)).2)).isSome)))) rfl rfl (want_by rfl rfl g15) rfl (fun _ ⟨hE, hb3⟩ => q_neqB Try.underlying4 rfl rfl) ?_
                refine HM.val (v := .bool (!(((mget m ((A[i]'(by omega)).2)).isSome) == ((mget L ((A[i]'(by omega)).2)).isSome)))) rfl rfl (want_some rfl rfl) rfl (fun _ ⟨hE, hb3⟩ => q_pickK true rfl g15 rfl) ?_
                refine HM.val (v := .bool (!(((mget m ((A[i]'(by omega)).2)).isSome) == ((mget L ((A[i]'(by omega)).2)).isSome)))) rfl rfl (want_none) rfl (fun _ ⟨hE, hb3⟩ => q_pick rfl rfl) ?_
                refine HM.nil ⟨⟨hE, hb3⟩, Go.HL.at_nil _ _⟩ (thenQ_normal (?_))
                have k17 : (((mget m ((A[i]'(by omega)).2)).isSome) == ((mget L ((A[i]'(by omega)).2)).isSome)) = true := by rw [hWR.some]; simp
                refine ⟨mdel m ((A[i]'(by omega)).2), b, vL16, mdel L ((A[i]'(by omega)).2), rfl, rfl, rfl, rfl, rfl, congrArg Value.bool (by rw [k17]; rfl), ?_, ?_, ?_, ?_, ?_, ?_, ?_⟩
                · exact hE
                · exact hI
                · exact hR
                · first | exact hWR | exact hWR.hear hD.1 _ | exact hWR.beat hnd | exact hWR.cut _
                · first | exact hk | exact wput_keys hWR.srt hk hid | exact wrest_keys hk | exact mdel_keys hk
                · first | omega | (have := wput_len L (A[i]'(by omega)).2 D; omega) | (have := wrest_len' L; omega) | (have := mdel_len L (A[i]'(by omega)).2; omega)
                · omega
              · have g15p := of_decide_eq_false g15
                refine HM.past rfl rfl (past_by rfl rfl g15) rfl ?_
                refine HM.past rfl rfl (past_by rfl rfl g15) rfl ?_
                refine HM.past rfl rfl (past_by rfl rfl g15) rfl ?_
                refine HM.past rfl rfl (past_by rfl rfl g15) rfl ?_
                refine HM.past rfl rfl (past_by rfl rfl g15) rfl ?_
                refine HM.past rfl rfl (past_by rfl rfl g15) rfl ?_
                refine HM.pastF ⟨⟨hE, hb3⟩, Go.HL.at_nil _ _⟩ rfl (past_by rfl rfl g15) rfl ?_
                refine HM.pastF ⟨⟨hE, hb3⟩, Go.HL.at_nil _ _⟩ rfl (past_by rfl rfl g15) rfl ?_
                refine HM.past rfl rfl (past_by rfl rfl g15) rfl ?_
                refine HM.val (v := .bool false) rfl rfl (want_some rfl rfl) rfl (fun _ ⟨hE, hb3⟩ => q_pickK false rfl g15 rfl) ?_
                refine HM.val (v := .bool false) rfl rfl (want_none) rfl (fun _ ⟨hE, hb3⟩ => q_pick rfl rfl) ?_
                refine HM.nil ⟨⟨hE, hb3⟩, Go.HL.at_nil _ _⟩ (thenQ_normal (?_))
                refine ⟨m, b, vL, L, rfl, rfl, rfl, rfl, rfl, rfl, ?_, ?_, ?_, ?_, ?_, ?_, ?_⟩
                · exact hE
                · exact hI
                · exact hR
                · first | exact hWR | exact hWR.hear hD.1 _ | exact hWR.beat hnd | exact hWR.cut _
                · first | exact hk | exact wput_keys hWR.srt hk hid | exact wrest_keys hk | exact mdel_keys hk
                · first | omega | (have := wput_len L (A[i]'(by omega)).2 D; omega) | (have := wrest_len' L; omega) | (have := mdel_len L (A[i]'(by omega)).2; omega)
                · omega
        · rintro f12 hh12 ⟨m1, b1, vL1, L1, e1, e2, e7, e8, e9, e73, hE, hI, hR, hWR, hk, hl, hb1⟩
          refine HW.fr [(1, va), (2, .int .i64 ask), (7, .pointer (some ⟨w, 0, none⟩)), (8, .pointer (some ⟨x, 0, none⟩)), (9, .int .i64 ((i : Nat) : Int)), (73, .bool false)] ⟨e1, e2, e7, e8, e9, e73, trivial⟩ ?_
          have hnd := hI.map.nodup
          have hml := hWR.len hnd
          have hes := hE.size
          have hBs := hR.bs
          refine HW.condF rfl ?_
          refine HW.skip (thenQ_normal (?_))
          refine HW.seq ?_
          refine HW.region ?_
          refine HO.val (v := .int .i64 0) (want_none) rfl (q_assign rfl) ?_
          refine HO.nil (thenQ_normal (?_))
          refine HW.seq ?_
          refine HW.seq ?_
          refine HW.region ?_
          refine HO.val (v := .pointer (some ⟨x, 0, none⟩)) (want_none) rfl (q_move rfl) ?_
          refine HO.val (v := .int .i64 ask) (want_none) rfl (q_move rfl) ?_
          refine HO.call (want_none) rfl (ec en_27 rfl rfl) (find_spec x D b1 vL1 L1 ask _ hR.blk hR.own.slice) ?_
          rintro _ _ ⟨n18, rfl, hfn18, rfl⟩
          refine HO.val (v := .int .i64 n18) (want_none) rfl (q_assign rfl) ?_
          refine HO.nil (thenQ_normal (?_))
          refine HW.seq ?_
          refine HW.region ?_
          refine HO.val (v := .int .i64 n18) (want_none) rfl (q_move rfl) ?_
          refine HO.val (v := .bool (decide (0 ≤ n18))) (want_none) rfl (q_geq rfl rfl) ?_
          refine HO.nil (thenQ_normal (?_))
          refine HW.cond (decide (0 ≤ n18)) rfl (fun c19 => ?_) (fun c19 => ?_)
          · have c19p := of_decide_eq_true c19
            obtain ⟨j, hj, rfl, hfi, hi1, hig⟩ : ∃ i, ∃ h : i < L1.length, n18 = (i : Int) ∧ L1.findIdx? (fun p => decide (ask = p.1)) = some i ∧ L1[i].1 = ask ∧ mget L1 ask = some L1[i].2 := by
              rcases hfn18 with ⟨e, _⟩ | e
              · omega
              · exact e
            have hleft : wleft m1 b1 ask = (L1[j]'(by omega)).2 := by rw [hWR.left, hig]; rfl
            refine HW.region ?_
            refine HO.val (v := .pointer (some ⟨x, 0, none⟩)) (want_none) rfl (q_move rfl) ?_
            refine HO.val (v := .pointer (some ⟨x, 0, none⟩)) (want_none) rfl (q_nilCheck rfl) ?_
            refine HO.val (v := .pointer (some ⟨x, 2, none⟩)) (want_none) rfl (q_fieldAddr fa_42_2 rfl rfl) ?_
            refine HO.val (v := vL1) (want_none) rfl (q_load to_40 rfl (Blk.cell hR.blk rfl)) ?_
            refine HO.val (v := .int .i64 ((j : Nat) : Int)) (want_none) rfl (q_move rfl) ?_
            refine HO.val (v := elemPtr 2 vL1 j) (want_none) rfl (q_indexAddr (i := j) ts_40 hR.own.slice rfl rfl (by omega)) ?_
            refine HO.val (v := fieldPtr 2 vL1 j 1) (want_none) rfl (q_fieldElemS fa_39_1 hR.own.slice rfl (by omega)) ?_
            refine HO.val (v := .int .i64 ((L1[j]'(by omega)).2)) (want_none) rfl (q_loadField to_3 hR.own.slice rfl (by omega) (by decide) rfl) ?_
            refine HO.val (v := .int .i64 ((L1[j]'(by omega)).2)) (want_none) rfl (q_assign rfl) ?_
            refine HO.nil (thenQ_normal (?_))
            refine HW.seq ?_
            refine HW.regionD 30 mixed (fun h => (Ext h0 h) ∧ (WatchIs h w c r b1 D m1) ∧ (RefIs h B x D b1 vL1 L1)) [] [(0, true), (1, true), (3, true), (4, true), (2, false), (5, true), (6, true), (7, true), (8, true), (10, true), (9, false), (11, true), (12, true), (13, true), (14, true), (16, true), (15, false), (17, false), (18, false), (19, true), (20, true), (21, true), (22, true), (24, true), (25, true), (26, true), (27, true), (23, false), (28, true), (29, true)] (by kernel_rfl) ?_
            refine HM.val (v := .pointer (some ⟨w, 0, none⟩)) rfl rfl (want_none) rfl (fun _ ⟨hE, hI, hR⟩ => q_move rfl) ?_
            refine HM.val (v := .int .i64 ask) rfl rfl (want_none) rfl (fun _ ⟨hE, hI, hR⟩ => q_move rfl) ?_
            refine HM.val (v := .int .i64 ((L1[j]'(by omega)).2)) rfl rfl (want_none) rfl (fun _ ⟨hE, hI, hR⟩ => q_move rfl) ?_
            refine HM.val (v := .bool (decide (0 < ((L1[j]'(by omega)).2)))) rfl rfl (want_none) rfl (fun _ ⟨hE, hI, hR⟩ => q_gtr rfl rfl) ?_
            refine HM.call ⟨⟨hE, hI, hR⟩, Go.HL.at_nil _ _⟩ rfl (want_none) rfl (ec en_19 rfl rfl) (is_spec w c r b1 D m1 _ hI ask (by omega) (hWR.ok hD.2)) ?_
            rintro _ hq ⟨rfl, hqe⟩
            obtain rfl := Eq.symm hqe
            refine HM.val (v := .bool (!((decide (0 < wleft m1 b1 ask)) == (decide (0 < ((L1[j]'(by omega)).2)))))) rfl rfl (want_none) rfl (fun _ ⟨hE, hI, hR⟩ => q_neqB Try.underlying4 rfl rfl) ?_
            refine HM.val (v := .bool (!((decide (0 < wleft m1 b1 ask)) == (decide (0 < ((L1[j]'(by omega)).2)))))) rfl rfl (want_none) rfl (fun _ ⟨hE, hI, hR⟩ => q_move rfl) ?_
            have k20 : ((decide (0 < wleft m1 b1 ask)) == (decide (0 < ((L1[j]'(by omega)).2)))) = true := by rw [hleft]; simp
            refine HM.val (v := .pointer (some ⟨w, 0, none⟩)) rfl rfl (want_by rfl rfl (by rw [k20]; rfl)) rfl (fun _ ⟨hE, hI, hR⟩ => q_move rfl) ?_
            refine HM.val (v := .int .i64 ask) rfl rfl (want_by rfl rfl (by rw [k20]; rfl)) rfl (fun _ ⟨hE, hI, hR⟩ => q_move rfl) ?_
            refine HM.val (v := .int .i64 ((L1[j]'(by omega)).2)) rfl rfl (want_by rfl rfl (by rw [k20]; rfl)) rfl (fun _ ⟨hE, hI, hR⟩ => q_move rfl) ?_
            refine HM.call ⟨⟨hE, hI, hR⟩, Go.HL.at_nil _ _⟩ rfl (want_by rfl rfl (by rw [k20]; rfl)) rfl (ec en_28 rfl rfl) (wleft_spec w c r b1 D m1 _ hI ask (by omega) (hWR.ok hD.2)) ?_
            rintro _ hq ⟨rfl, hqe⟩
            obtain rfl := Eq.symm hqe
            refine HM.val (v := .bool (!decide ((wleft m1 b1 ask) = ((L1[j]'(by omega)).2)))) rfl rfl (want_by rfl rfl (by rw [k20]; rfl)) rfl (fun _ ⟨hE, hI, hR⟩ => q_neq rfl rfl) ?_
            refine HM.val (v := .bool (!decide ((wleft m1 b1 ask) = ((L1[j]'(by omega)).2)))) rfl rfl (want_none) rfl (fun _ ⟨hE, hI, hR⟩ => q_pickK false rfl (by rw [k20]; rfl) rfl) ?_
            refine HM.val (v := .bool (!decide ((wleft m1 b1 ask) = ((L1[j]'(by omega)).2)))) rfl rfl (want_none) rfl (fun _ ⟨hE, hI, hR⟩ => q_move rfl) ?_
            have k21 : (decide ((wleft m1 b1 ask) = ((L1[j]'(by omega)).2))) = true := by rw [decide_eq_true_eq]; exact hleft
            refine HM.val (v := .pointer (some ⟨w, 0, none⟩)) rfl rfl (want_by rfl rfl (by rw [k21]; rfl)) rfl (fun _ ⟨hE, hI, hR⟩ => q_move rfl) ?_
            refine HM.val (v := .pointer (some ⟨x, 0, none⟩)) rfl rfl (want_by rfl rfl (by rw [k21]; rfl)) rfl (fun _ ⟨hE, hI, hR⟩ => q_move rfl) ?_
            refine HM.call ⟨⟨hE, hI, hR⟩, Go.HL.at_nil _ _⟩ rfl (want_by rfl rfl (by rw [k21]; rfl)) rfl (ec en_29 rfl rfl) (wlist_spec w c r b1 D m1 _ hI (WR.keys hWR hnd hk) (by omega)) ?_
            rintro vl22 h13 ⟨l22, hpl22, hsl22, hOl22, hx⟩
            replace hE := hE.trans hx
            replace hI := hI.ext hx
            replace hR := hR.ext hx
            have hxs := hx.size
            refine HM.call ⟨⟨hE, hI, hR⟩, Go.HL.at_nil _ _⟩ rfl (want_by rfl rfl (by rw [k21]; rfl)) rfl (ec en_30 rfl rfl) (rlist_spec B x D b1 vL1 L1 _ hR (by omega)) ?_
            rintro vq23 h14 ⟨hOq23, hx⟩
            replace hE := hE.trans hx
            replace hI := hI.ext hx
            replace hR := hR.ext hx
            replace hOl22 := hOl22.ext hx
            have hxs := hx.size
            refine HM.call ⟨⟨hE, hI, hR⟩, Go.HL.at_nil _ _⟩ rfl (want_by rfl rfl (by rw [k21]; rfl)) rfl (ec en_23 rfl rfl) (same_spec _ _ l22 (L1.map Prod.fst) _ hOl22.slice hOq23.slice) ?_
            rintro _ hq ⟨rfl, hqe⟩
            obtain rfl := Eq.symm hqe
            refine HM.val (v := .bool (!(decide (l22 = L1.map Prod.fst)))) rfl rfl (want_by rfl rfl (by rw [k21]; rfl)) rfl (fun _ ⟨hE, hI, hR⟩ => q_not rfl) ?_
            refine HM.val (v := .bool (!(decide (l22 = L1.map Prod.fst)))) rfl rfl (want_none) rfl (fun _ ⟨hE, hI, hR⟩ => q_pickK false rfl (by rw [k21]; rfl) rfl) ?_
            refine HM.val (v := .bool (!(decide (l22 = L1.map Prod.fst)))) rfl rfl (want_none) rfl (fun _ ⟨hE, hI, hR⟩ => q_move rfl) ?_
            have k24 : (decide (l22 = L1.map Prod.fst)) = true := by rw [decide_eq_true_eq]; exact hWR.list hnd hpl22 hsl22
            refine HM.val (v := .pointer (some ⟨w, 0, none⟩)) rfl rfl (want_by rfl rfl (by rw [k24]; rfl)) rfl (fun _ ⟨hE, hI, hR⟩ => q_move rfl) ?_
            refine HM.val (v := .pointer (some ⟨x, 0, none⟩)) rfl rfl (want_by rfl rfl (by rw [k24]; rfl)) rfl (fun _ ⟨hE, hI, hR⟩ => q_move rfl) ?_
            refine HM.val (v := .pointer (some ⟨x, 0, none⟩)) rfl rfl (want_by rfl rfl (by rw [k24]; rfl)) rfl (fun _ ⟨hE, hI, hR⟩ => q_nilCheck rfl) ?_
            refine HM.val (v := .pointer (some ⟨x, 1, none⟩)) rfl rfl (want_by rfl rfl (by rw [k24]; rfl)) rfl (fun _ ⟨hE, hI, hR⟩ => q_fieldAddr fa_42_1 rfl rfl) ?_
            refine HM.val (v := .int .i64 b1) rfl rfl (want_by rfl rfl (by rw [k24]; rfl)) rfl (fun _ ⟨hE, hI, hR⟩ => q_load to_3 rfl (Blk.cell hR.blk rfl)) ?_
            refine HM.call ⟨⟨hE, hI, hR⟩, Go.HL.at_nil _ _⟩ rfl (want_by rfl rfl (by rw [k24]; rfl)) rfl (ec en_31 rfl rfl) (beats_spec w c r b1 D m1 _ hI  ) ?_
            rintro _ hq ⟨rfl, hqe⟩
            obtain rfl := Eq.symm hqe
            refine HM.val (v := .bool (!decide (b1 = b1))) rfl rfl (want_by rfl rfl (by rw [k24]; rfl)) rfl (fun _ ⟨hE, hI, hR⟩ => q_neq rfl rfl) ?_
            refine HM.val (v := .bool (!decide (b1 = b1))) rfl rfl (want_none) rfl (fun _ ⟨hE, hI, hR⟩ => q_pickK false rfl (by rw [k24]; rfl) rfl) ?_
            refine HM.nil ⟨⟨hE, hI, hR⟩, Go.HL.at_nil _ _⟩ (thenQ_normal (?_))
            have k25 : (decide (b1 = b1)) = true := by simp
            refine HW.condK false rfl (by rw [k25]; rfl) ?_
            refine HW.skip (blockQ_normal (thenQ_normal (?_)))
            refine HW.region ?_
            refine HO.val (v := .int .i64 ((i : Nat) : Int)) (want_none) rfl (q_move rfl) ?_
            refine HO.val (v := .int .i64 ((i + 1 : Nat) : Int)) (want_none) rfl (q_addN ((i + 1 : Nat) : Int) rfl rfl (by omega) (by omega) (by omega)) ?_
            refine HO.val (v := .int .i64 ((i + 1 : Nat) : Int)) (want_none) rfl (q_assign rfl) ?_
            refine HO.nil (thenQ_normal (?_))
            refine ⟨(i + 1, b1, m1, vL1, L1), ⟨rfl, rfl, rfl, rfl, rfl, ?_, ?_, ?_, ?_, ?_, ?_, ?_, ?_⟩, ?_⟩
            · exact hE
            · exact hI
            · exact hR
            · omega
            · omega
            · exact hWR
            · exact hk
            · omega
            · (try dsimp only); omega
          · have c19p := of_decide_eq_false c19
            obtain ⟨rfl, hnn⟩ : n18 = -1 ∧ mget L1 ask = none := by
              rcases hfn18 with e | ⟨i, _, e, _⟩
              · exact e
              · omega
            have hleft : wleft m1 b1 ask = 0 := by rw [hWR.left, hnn]; rfl
            refine HW.skip (thenQ_normal (?_))
            refine HW.seq ?_
            refine HW.regionD 30 mixed (fun h => (Ext h0 h) ∧ (WatchIs h w c r b1 D m1) ∧ (RefIs h B x D b1 vL1 L1)) [] [(0, true), (1, true), (3, true), (4, true), (2, false), (5, true), (6, true), (7, true), (8, true), (10, true), (9, false), (11, true), (12, true), (13, true), (14, true), (16, true), (15, false), (17, false), (18, false), (19, true), (20, true), (21, true), (22, true), (24, true), (25, true), (26, true), (27, true), (23, false), (28, true), (29, true)] (by kernel_rfl) ?_
            refine HM.val (v := .pointer (some ⟨w, 0, none⟩)) rfl rfl (want_none) rfl (fun _ ⟨hE, hI, hR⟩ => q_move rfl) ?_
            refine HM.val (v := .int .i64 ask) rfl rfl (want_none) rfl (fun _ ⟨hE, hI, hR⟩ => q_move rfl) ?_
            refine HM.val (v := .int .i64 0) rfl rfl (want_none) rfl (fun _ ⟨hE, hI, hR⟩ => q_move rfl) ?_
            refine HM.val (v := .bool (decide (0 < (0 : Int)))) rfl rfl (want_none) rfl (fun _ ⟨hE, hI, hR⟩ => q_gtr rfl rfl) ?_
            refine HM.call ⟨⟨hE, hI, hR⟩, Go.HL.at_nil _ _⟩ rfl (want_none) rfl (ec en_19 rfl rfl) (is_spec w c r b1 D m1 _ hI ask (by omega) (hWR.ok hD.2)) ?_
            rintro _ hq ⟨rfl, hqe⟩
            obtain rfl := Eq.symm hqe
            refine HM.val (v := .bool (!((decide (0 < wleft m1 b1 ask)) == (decide (0 < (0 : Int)))))) rfl rfl (want_none) rfl (fun _ ⟨hE, hI, hR⟩ => q_neqB Try.underlying4 rfl rfl) ?_
            refine HM.val (v := .bool (!((decide (0 < wleft m1 b1 ask)) == (decide (0 < (0 : Int)))))) rfl rfl (want_none) rfl (fun _ ⟨hE, hI, hR⟩ => q_move rfl) ?_
            have k26 : ((decide (0 < wleft m1 b1 ask)) == (decide (0 < (0 : Int)))) = true := by rw [hleft]; simp
            refine HM.val (v := .pointer (some ⟨w, 0, none⟩)) rfl rfl (want_by rfl rfl (by rw [k26]; rfl)) rfl (fun _ ⟨hE, hI, hR⟩ => q_move rfl) ?_
            refine HM.val (v := .int .i64 ask) rfl rfl (want_by rfl rfl (by rw [k26]; rfl)) rfl (fun _ ⟨hE, hI, hR⟩ => q_move rfl) ?_
            refine HM.val (v := .int .i64 0) rfl rfl (want_by rfl rfl (by rw [k26]; rfl)) rfl (fun _ ⟨hE, hI, hR⟩ => q_move rfl) ?_
            refine HM.call ⟨⟨hE, hI, hR⟩, Go.HL.at_nil _ _⟩ rfl (want_by rfl rfl (by rw [k26]; rfl)) rfl (ec en_28 rfl rfl) (wleft_spec w c r b1 D m1 _ hI ask (by omega) (hWR.ok hD.2)) ?_
            rintro _ hq ⟨rfl, hqe⟩
            obtain rfl := Eq.symm hqe
            refine HM.val (v := .bool (!decide ((wleft m1 b1 ask) = 0))) rfl rfl (want_by rfl rfl (by rw [k26]; rfl)) rfl (fun _ ⟨hE, hI, hR⟩ => q_neq rfl rfl) ?_
            refine HM.val (v := .bool (!decide ((wleft m1 b1 ask) = 0))) rfl rfl (want_none) rfl (fun _ ⟨hE, hI, hR⟩ => q_pickK false rfl (by rw [k26]; rfl) rfl) ?_
            refine HM.val (v := .bool (!decide ((wleft m1 b1 ask) = 0))) rfl rfl (want_none) rfl (fun _ ⟨hE, hI, hR⟩ => q_move rfl) ?_
            have k27 : (decide ((wleft m1 b1 ask) = 0)) = true := by rw [decide_eq_true_eq]; exact hleft
            refine HM.val (v := .pointer (some ⟨w, 0, none⟩)) rfl rfl (want_by rfl rfl (by rw [k27]; rfl)) rfl (fun _ ⟨hE, hI, hR⟩ => q_move rfl) ?_
            refine HM.val (v := .pointer (some ⟨x, 0, none⟩)) rfl rfl (want_by rfl rfl (by rw [k27]; rfl)) rfl (fun _ ⟨hE, hI, hR⟩ => q_move rfl) ?_
            refine HM.call ⟨⟨hE, hI, hR⟩, Go.HL.at_nil _ _⟩ rfl (want_by rfl rfl (by rw [k27]; rfl)) rfl (ec en_29 rfl rfl) (wlist_spec w c r b1 D m1 _ hI (WR.keys hWR hnd hk) (by omega)) ?_
            rintro vl28 h15 ⟨l28, hpl28, hsl28, hOl28, hx⟩
            replace hE := hE.trans hx
            replace hI := hI.ext hx
            replace hR := hR.ext hx
            have hxs := hx.size
            refine HM.call ⟨⟨hE, hI, hR⟩, Go.HL.at_nil _ _⟩ rfl (want_by rfl rfl (by rw [k27]; rfl)) rfl (ec en_30 rfl rfl) (rlist_spec B x D b1 vL1 L1 _ hR (by omega)) ?_
            rintro vq29 h16 ⟨hOq29, hx⟩
            replace hE := hE.trans hx
            replace hI := hI.ext hx
            replace hR := hR.ext hx
            replace hOl28 := hOl28.ext hx
            have hxs := hx.size
            refine HM.call ⟨⟨hE, hI, hR⟩, Go.HL.at_nil _ _⟩ rfl (want_by rfl rfl (by rw [k27]; rfl)) rfl (ec en_23 rfl rfl) (same_spec _ _ l28 (L1.map Prod.fst) _ hOl28.slice hOq29.slice) ?_
            rintro _ hq ⟨rfl, hqe⟩
            obtain rfl := Eq.symm hqe
            refine HM.val (v := .bool (!(decide (l28 = L1.map Prod.fst)))) rfl rfl (want_by rfl rfl (by rw [k27]; rfl)) rfl (fun _ ⟨hE, hI, hR⟩ => q_not rfl) ?_
            refine HM.val (v := .bool (!(decide (l28 = L1.map Prod.fst)))) rfl rfl (want_none) rfl (fun _ ⟨hE, hI, hR⟩ => q_pickK false rfl (by rw [k27]; rfl) rfl) ?_
            refine HM.val (v := .bool (!(decide (l28 = L1.map Prod.fst)))) rfl rfl (want_none) rfl (fun _ ⟨hE, hI, hR⟩ => q_move rfl) ?_
            have k30 : (decide (l28 = L1.map Prod.fst)) = true := by rw [decide_eq_true_eq]; exact hWR.list hnd hpl28 hsl28
            refine HM.val (v := .pointer (some ⟨w, 0, none⟩)) rfl rfl (want_by rfl rfl (by rw [k30]; rfl)) rfl (fun _ ⟨hE, hI, hR⟩ => q_move rfl) ?_
            refine HM.val (v := .pointer (some ⟨x, 0, none⟩)) rfl rfl (want_by rfl rfl (by rw [k30]; rfl)) rfl (fun _ ⟨hE, hI, hR⟩ => q_move rfl) ?_
            refine HM.val (v := .pointer (some ⟨x, 0, none⟩)) rfl rfl (want_by rfl rfl (by rw [k30]; rfl)) rfl (fun _ ⟨hE, hI, hR⟩ => q_nilCheck rfl) ?_
            refine HM.val (v := .pointer (some ⟨x, 1, none⟩)) rfl rfl (want_by rfl rfl (by rw [k30]; rfl)) rfl (fun _ ⟨hE, hI, hR⟩ => q_fieldAddr fa_42_1 rfl rfl) ?_
            refine HM.val (v := .int .i64 b1) rfl rfl (want_by rfl rfl (by rw [k30]; rfl)) rfl (fun _ ⟨hE, hI, hR⟩ => q_load to_3 rfl (Blk.cell hR.blk rfl)) ?_
            refine HM.call ⟨⟨hE, hI, hR⟩, Go.HL.at_nil _ _⟩ rfl (want_by rfl rfl (by rw [k30]; rfl)) rfl (ec en_31 rfl rfl) (beats_spec w c r b1 D m1 _ hI  ) ?_
            rintro _ hq ⟨rfl, hqe⟩
            obtain rfl := Eq.symm hqe
            refine HM.val (v := .bool (!decide (b1 = b1))) rfl rfl (want_by rfl rfl (by rw [k30]; rfl)) rfl (fun _ ⟨hE, hI, hR⟩ => q_neq rfl rfl) ?_
            refine HM.val (v := .bool (!decide (b1 = b1))) rfl rfl (want_none) rfl (fun _ ⟨hE, hI, hR⟩ => q_pickK false rfl (by rw [k30]; rfl) rfl) ?_
            refine HM.nil ⟨⟨hE, hI, hR⟩, Go.HL.at_nil _ _⟩ (thenQ_normal (?_))
            have k31 : (decide (b1 = b1)) = true := by simp
            refine HW.condK false rfl (by rw [k31]; rfl) ?_
            refine HW.skip (blockQ_normal (thenQ_normal (?_)))
            refine HW.region ?_
            refine HO.val (v := .int .i64 ((i : Nat) : Int)) (want_none) rfl (q_move rfl) ?_
            refine HO.val (v := .int .i64 ((i + 1 : Nat) : Int)) (want_none) rfl (q_addN ((i + 1 : Nat) : Int) rfl rfl (by omega) (by omega) (by omega)) ?_
            refine HO.val (v := .int .i64 ((i + 1 : Nat) : Int)) (want_none) rfl (q_assign rfl) ?_
            refine HO.nil (thenQ_normal (?_))
            refine ⟨(i + 1, b1, m1, vL1, L1), ⟨rfl, rfl, rfl, rfl, rfl, ?_, ?_, ?_, ?_, ?_, ?_, ?_, ?_⟩, ?_⟩
            · exact hE
            · exact hI
            · exact hR
            · omega
            · omega
            · exact hWR
            · exact hk
            · omega
            · (try dsimp only); omega
      · have c2p := of_decide_eq_false c2
        refine HW.exit (thenQ_exit (thenQ_exit (blockQ_exit (thenQ_normal (?_)))))
        refine HW.seq ?_
        refine HW.region ?_
        refine HO.call (want_none) rfl (ec en_20 rfl rfl) (lives_spec _) ?_
        rintro _ h17 ⟨rfl, hx⟩
        replace hE := hE.trans hx
        replace hI := hI.ext hx
        replace hR := hR.ext hx
        have hxs := hx.size
        refine HO.val (v := .bool true) (want_none) rfl (q_assign rfl) ?_
        refine HO.nil (thenQ_normal (?_))
        refine HW.ret (?_)
        refine ⟨.inr rfl, .bool true, res_one rfl rfl, ?_⟩
        exact ⟨rfl, hE⟩
    · have g1p := of_decide_eq_false g1
      refine HO.past (past_by rfl rfl g1) rfl ?_
      refine HO.past (past_by rfl rfl g1) rfl ?_
      refine HO.val (v := .bool false) (want_none) rfl (q_pickK false rfl g1 rfl) ?_
      refine HO.nil (thenQ_normal (?_))
      refine HW.condF rfl ?_
      refine HW.exit (thenQ_exit (thenQ_exit (blockQ_exit (thenQ_normal (?_)))))
      refine HW.seq ?_
      refine HW.region ?_
      refine HO.call (want_none) rfl (ec en_20 rfl rfl) (lives_spec _) ?_
      rintro _ h18 ⟨rfl, hx⟩
      replace hE := hE.trans hx
      replace hI := hI.ext hx
      replace hR := hR.ext hx
      have hxs := hx.size
      refine HO.val (v := .bool true) (want_none) rfl (q_assign rfl) ?_
      refine HO.nil (thenQ_normal (?_))
      refine HW.ret (?_)
      refine ⟨.inr rfl, .bool true, res_one rfl rfl, ?_⟩
      exact ⟨rfl, hE⟩
end Go.HL.CI
