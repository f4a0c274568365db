/- Whoever is heard again stays: the walk. -/
import Derived.Test.YtnemfpgfgblpbaaOps2
import Derived.Test.YtnemfpgfgblpbaaProg
import Derived.Test.YtnemfpgfgblpbaaAlive3I
set_option linter.unusedSimpArgs false
set_option linter.unusedVariables false
set_option linter.unusedSectionVars false
namespace Go.HL.CI
open Go.Proofs
theorem en_17 (args : Array Value) (w : World) : (callFunc 17 args).run Try.prog w = .ok (.enter 17 args) w := by kernel_rfl
/-- One of a watch: so many beats are left, and none is without. -/
structure AS (m : List (Int × Int)) (b id x : Int) : Prop where
  inn : 0 < x → mget m id = some (b + x)
  out : x ≤ 0 → mget m id = none
  ok : WOk m b
theorem as_nil (b id x : Int) (hx : x ≤ 0) : AS [] b id x := ⟨fun h => by omega, fun _ => rfl, fun k v h => by simp [mget] at h⟩
theorem as_hear {m : List (Int × Int)} {b id x d : Int} (h : AS m b id x) (hd : 1 ≤ d ∧ d ≤ 1000) : AS (mset m id (b + d)) b id d := by
  refine ⟨fun _ => by rw [mget_mset, if_pos rfl], fun h' => by omega, fun k v hk => ?_⟩
  rw [mget_mset] at hk; split at hk
  · injection hk with hk; omega
  · exact h.ok k v hk
theorem as_other {m : List (Int × Int)} {b id x d j : Int} (h : AS m b id x) (hd : 1 ≤ d ∧ d ≤ 1000) (hj : j ≠ id) : AS (mset m j (b + d)) b id x := by
  refine ⟨fun hx => by rw [mget_mset, if_neg (Ne.symm hj)]; exact h.inn hx, fun hx => by rw [mget_mset, if_neg (Ne.symm hj)]; exact h.out hx, fun k v hk => ?_⟩
  rw [mget_mset] at hk; split at hk
  · injection hk with hk; omega
  · exact h.ok k v hk
theorem mget_filter {m : List (Int × Int)} (hn : (m.map Prod.fst).Nodup) (p : Int × Int → Bool) (k v : Int) : mget (m.filter p) k = some v ↔ mget m k = some v ∧ p (k, v) = true := by
  have hn' : ((m.filter p).map Prod.fst).Nodup := hn.sublist ((List.filter_sublist).map _)
  rw [← mem_iff_mget hn', ← mem_iff_mget hn, List.mem_filter]
theorem as_beat {m : List (Int × Int)} {b id x : Int} (h : AS m b id x) (hn : (m.map Prod.fst).Nodup) : AS (m.filter fun p => decide (b + 1 < p.2)) (b + 1) id (x - 1) := by
  refine ⟨fun hx => ?_, fun hx => ?_, fun k v hk => ?_⟩
  · rw [mget_filter hn]; refine ⟨by rw [h.inn (by omega)]; congr 1; omega, ?_⟩; simp; omega
  · rw [Option.eq_none_iff_forall_ne_some]; intro v hv
    rw [mget_filter hn] at hv
    rcases Int.lt_or_le 0 x with h' | h'
    · rw [h.inn h'] at hv; have h1 := hv.1; injection h1 with h1; have h2 := hv.2; simp at h2; omega
    · rw [h.out h'] at hv; cases hv.1
  · rw [mget_filter hn] at hk; have h1 := h.ok k v hk.1; have h2 := hk.2; simp at h2; omega
theorem as_has {m : List (Int × Int)} {b id x : Int} {l : List Int} (h : AS m b id x) (hn : (m.map Prod.fst).Nodup) (hd : DueIs (bef m) m (b + 1) l) : id ∈ l ↔ x = 1 := by
  rw [hd.perm.mem_iff, List.mem_map]
  constructor
  · rintro ⟨⟨k, v⟩, hm, rfl⟩
    rw [List.mem_filter, mem_iff_mget hn] at hm
    have h1 := hm.1; have h2 := hm.2; simp at h2
    rcases Int.lt_or_le 0 x with h' | h'
    · rw [h.inn h'] at h1; injection h1 with h1; omega
    · rw [h.out h'] at h1; cases h1
  · intro hx
    refine ⟨(id, b + x), List.mem_filter.2 ⟨(mem_iff_mget hn _ _).2 (h.inn (by omega)), by simp; omega⟩, rfl⟩
theorem as_is {m : List (Int × Int)} {b id x : Int} (h : AS m b id x) : 0 < wleft m b id ↔ 0 < x := by
  unfold wleft mgetI
  rcases Int.lt_or_le 0 x with h' | h'
  · rw [h.inn h']; simp; omega
  · rw [h.out h']; simp; omega
theorem as_some {m : List (Int × Int)} {b id x : Int} (h : AS m b id x) : (mget m id).isSome = decide (0 < x) := by
  rcases Int.lt_or_le 0 x with h' | h'
  · rw [h.inn h']; simp [h']
  · rw [h.out h']; simp; omega
theorem mset_len (m : List (Int × Int)) (k v : Int) : (mset m k v).length ≤ m.length + 1 := by
  have := congrArg List.length (keys_mset m k v); split at this <;> simp at this <;> omega
theorem filter_len (m : List (Int × Int)) (p : Int × Int → Bool) : (m.filter p).length ≤ m.length := List.length_filter_le _ _
/-- How many beats are waited. -/
def wv (x q : Int) : Int := (IntKind.u64.wrap x).tmod (1 + q)
theorem wv_bd (x q : Int) (hq : 0 ≤ q) : 0 ≤ wv x q ∧ wv x q ≤ q := by
  unfold wv
  have h : 0 ≤ IntKind.u64.wrap x := by rw [IntKind.wrap_u64]; exact Int.emod_nonneg _ (by decide)
  rw [Int.tmod_eq_emod_of_nonneg h]
  have h1 := Int.emod_nonneg (IntKind.u64.wrap x) (show (1 + q) ≠ 0 by omega)
  have h2 := Int.emod_lt_of_pos (IntKind.u64.wrap x) (show 0 < 1 + q by omega)
  omega

set_option maxRecDepth 100000 in
theorem alive_stays (dead id : Int) (vw : Value) (l : List Int) (h0 : Heap) (hS0 : SliceIs h0 1 encI vw l) (hdd : 0 ≤ dead ∧ dead ≤ 255) :
    HC Try.prog 3 #[.int .u8 dead, vw, .int .i64 id] h0 fun u h' => u = .bool true ∧ Ext h0 h' := by
  refine HC.of_HW (n := 91) Try.func3 rfl rfl (Nat.le_of_ble_eq_true rfl) ?_
  have hE := Ext.refl h0
  obtain ⟨q, hqe, hq⟩ : ∃ q : Int, dead.tmod 20 = q ∧ (0 ≤ q ∧ q < 20) := ⟨_, rfl, by rw [Int.tmod_eq_emod_of_nonneg hdd.1]; omega⟩
  refine HW.seq ?_
  refine HW.region ?_
  refine HO.val (v := .bool false) (want_none) rfl (q_assign rfl) ?_
  refine HO.nil (thenQ_normal (?_))
  refine HW.seq ?_
  refine HW.region ?_
  refine HO.val (v := .int .u8 dead) (want_none) rfl (q_move rfl) ?_
  refine HO.val (v := .int .u8 q) (want_none) rfl ((q_rem rfl rfl (by decide)).of_eq (by rw [hqe])) ?_
  refine HO.val (v := .int .i64 q) (want_none) rfl (q_convInt Try.underlying5 Try.underlying3 rfl (wrap_id (by simp [IntKind.min, IntKind.signed, IntKind.bits] <;> omega) (by simp [IntKind.max, IntKind.signed, IntKind.bits] <;> omega))) ?_
  refine HO.val (v := .int .i64 (1 + q)) (want_none) rfl (q_addN (1 + q) rfl rfl rfl (by omega) (by omega)) ?_
  refine HO.val (v := .int .i64 (1 + q)) (want_none) rfl (q_assign rfl) ?_
  refine HO.nil (thenQ_normal (?_))
  refine HW.seq ?_
  refine HW.region ?_
  refine HO.val (v := .int .i64 (1 + q)) (want_none) rfl (q_move rfl) ?_
  refine HO.call (want_none) rfl (ec en_15 rfl rfl) (wnew_spec (1 + q) _) ?_
  rintro _ h1 ⟨w, c, r, rfl, hI, hx, hwg, hcg, hrg⟩
  replace hE := hE.trans hx
  have hxs := hx.size
  have hwl := hI.blk.lt
  have hcl := hI.clk.lt
  have hrl := hI.map.lt
  replace hI : WatchIs h1 w c r 0 (1 + q) ([] : List (Int × Int)) := by have e : min (max (1 + q) 1) 1000 = 1 + q := (by omega); rw [e] at hI; exact hI
  refine HO.val (v := .pointer (some ⟨w, 0, none⟩)) (want_none) rfl (q_assign rfl) ?_
  refine HO.nil (thenQ_normal (?_))
  refine HW.seq ?_
  refine HW.region ?_
  refine HO.val (v := .pointer (some ⟨w, 0, none⟩)) (want_none) rfl (q_move rfl) ?_
  refine HO.val (v := .int .i64 id) (want_none) rfl (q_move rfl) ?_
  refine HO.call (want_none) rfl (ec en_16 rfl rfl) (hear_spec w c r 0 (1 + q) ([] : List (Int × Int)) _ hI id (by omega) (by omega)) ?_
  rintro _ h2 ⟨rfl, hI', hx⟩
  replace hE := hE.onlyL hx (by simp; omega)
  replace hI := hI'
  have hxs := hx.size
  refine HO.nil (thenQ_normal (?_))
  refine HW.seq ?_
  refine HW.seq ?_
  refine HW.region ?_
  refine HO.val (v := .int .i64 0) (want_none) rfl (q_assign rfl) ?_
  refine HO.nil (thenQ_normal (?_))
  refine HW.block ?_
  refine HW.loop (S := Nat × Int × List (Int × Int)) (fun s f h => match s with | (i, b, m) => f 1 = vw ∧ f 2 = .int .i64 id ∧ f 7 = .int .i64 (1 + q) ∧ f 8 = .pointer (some ⟨w, 0, none⟩) ∧ f 9 = .int .i64 ((i : Nat) : Int) ∧ (Ext h0 h) ∧ (WatchIs h w c r b (1 + q) m) ∧ (i ≤ l.length ∧ i ≤ 30) ∧ (0 ≤ b ∧ b ≤ (i : Int) * 20) ∧ (AS m b id (1 + q)) ∧ (m.length ≤ 2 * i + 1)) (fun s => match s with | (i, b, m) => l.length - i) (0, 0, mset [] id (0 + (1 + q))) ?_ ?_
  · refine ⟨rfl, rfl, rfl, rfl, rfl, ?_, ?_, ?_, ?_, ?_, ?_⟩
    · exact hE
    · exact hI
    · omega
    · omega
    · exact as_hear (as_nil 0 id 0 (by omega)) (by omega)
    · exact Nat.le_refl _
  · rintro ⟨i, b, m⟩ f3 hh3 ⟨e1, e2, e7, e8, e9, hE, hI, hi, hb, hA, hml⟩
    refine HW.fr [(1, vw), (2, .int .i64 id), (7, .int .i64 (1 + q)), (8, .pointer (some ⟨w, 0, none⟩)), (9, .int .i64 ((i : Nat) : Int))] ⟨e1, e2, e7, e8, e9, trivial⟩ ?_
    have hli := hS0.len_i
    have hnd := hI.map.nodup
    refine HW.seq ?_
    refine HW.seq ?_
    refine HW.region ?_
    refine HO.val (v := .int .i64 ((i : Nat) : Int)) (want_none) rfl (q_move rfl) ?_
    refine HO.val (v := vw) (want_none) rfl (q_move rfl) ?_
    refine HO.val (v := .int .i64 ((l.length : Nat) : Int)) (want_none) rfl (q_len ts_22 (hS0.ext hE) rfl rfl) ?_
    refine HO.val (v := .bool (decide (((i : Nat) : Int) < ((l.length : Nat) : Int)))) (want_none) rfl (q_lss rfl rfl) ?_
    refine HO.val (v := .bool (decide (((i : Nat) : Int) < ((l.length : Nat) : Int)))) (want_none) rfl (q_move rfl) ?_
    rcases Bool.eq_false_or_eq_true (decide (((i : Nat) : Int) < ((l.length : Nat) : Int))) with g1 | g1
    · have g1p := of_decide_eq_true g1
      refine HO.val (v := .int .i64 ((i : Nat) : Int)) (want_by rfl rfl g1) rfl (q_move rfl) ?_
      refine HO.val (v := .bool (decide (((i : Nat) : Int) < 30))) (want_by rfl rfl g1) rfl (q_lss rfl rfl) ?_
      refine HO.val (v := .bool (decide (((i : Nat) : Int) < 30))) (want_none) rfl (q_pickK true rfl g1 rfl) ?_
      refine HO.nil (thenQ_normal (?_))
      refine HW.cond (decide (((i : Nat) : Int) < 30)) rfl (fun c2 => ?_) (fun c2 => ?_)
      · have c2p := of_decide_eq_true c2
        refine HW.skip (thenQ_normal (?_))
        refine HW.seq ?_
        refine HW.block ?_
        refine HW.seq_mid (fun f h => ∃ (m1 : List (Int × Int)), f 1 = vw ∧ f 2 = .int .i64 id ∧ f 7 = .int .i64 (1 + q) ∧ f 8 = .pointer (some ⟨w, 0, none⟩) ∧ f 9 = .int .i64 ((i : Nat) : Int) ∧ (Ext h0 h) ∧ (WatchIs h w c r b (1 + q) m1) ∧ (AS m1 b id (1 + q)) ∧ (m1.length ≤ 2 * i + 2)) ?_ ?_
        · refine HW.seq ?_
          refine HW.region ?_
          refine HO.val (v := vw) (want_none) rfl (q_move rfl) ?_
          refine HO.val (v := .int .i64 ((i : Nat) : Int)) (want_none) rfl (q_move rfl) ?_
          refine HO.val (v := elemPtr 1 vw i) (want_none) rfl (q_indexAddr (i := i) ts_22 (hS0.ext hE) rfl rfl (by omega)) ?_
          refine HO.val (v := .int .i64 (l[i]'(by omega))) (want_none) rfl (q_loadElem to_3 (hS0.ext hE) rfl (by omega) rfl) ?_
          refine HO.val (v := .int .i64 id) (want_none) rfl (q_move rfl) ?_
          refine HO.val (v := .bool (!decide ((l[i]'(by omega)) = id))) (want_none) rfl (q_neq rfl rfl) ?_
          refine HO.nil (thenQ_normal (?_))
          refine HW.cond (!decide ((l[i]'(by omega)) = id)) rfl (fun c3 => ?_) (fun c3 => ?_)
          · have c3p : ¬ ((l[i]'(by omega)) = id) := by simpa using c3
            refine HW.region ?_
            refine HO.val (v := .pointer (some ⟨w, 0, none⟩)) (want_none) rfl (q_move rfl) ?_
            refine HO.val (v := vw) (want_none) rfl (q_move rfl) ?_
            refine HO.val (v := .int .i64 ((i : Nat) : Int)) (want_none) rfl (q_move rfl) ?_
            refine HO.val (v := elemPtr 1 vw i) (want_none) rfl (q_indexAddr (i := i) ts_22 (hS0.ext hE) rfl rfl (by omega)) ?_
            refine HO.val (v := .int .i64 (l[i]'(by omega))) (want_none) rfl (q_loadElem to_3 (hS0.ext hE) rfl (by omega) rfl) ?_
            refine HO.call (want_none) rfl (ec en_16 rfl rfl) (hear_spec w c r b (1 + q) m _ hI (l[i]'(by omega)) (by omega) (by omega)) ?_
            rintro _ h4 ⟨rfl, hI', hx⟩
            replace hE := hE.onlyL hx (by simp; omega)
            replace hI := hI'
            have hxs := hx.size
            refine HO.nil (thenQ_normal (?_))
            refine ⟨mset m (l[i]'(by omega)) (b + (1 + q)), rfl, rfl, rfl, rfl, rfl, ?_, ?_, ?_, ?_⟩
            · exact hE
            · exact hI
            · first | exact hA | (refine as_other hA (by omega) ?_; assumption)
            · first | omega | (have := mset_len m (l[i]'(by omega)) (b + (1 + q)); omega)
          · have c3p : ((l[i]'(by omega)) = id) := by simpa using c3
            refine HW.skip (thenQ_normal (?_))
            refine ⟨m, rfl, rfl, rfl, rfl, rfl, ?_, ?_, ?_, ?_⟩
            · exact hE
            · exact hI
            · first | exact hA | (refine as_other hA (by omega) ?_; assumption)
            · first | omega | (have := mset_len m (l[i]'(by omega)) (b + (1 + q)); omega)
        · rintro f5 hh5 ⟨m1, e1, e2, e7, e8, e9, hE, hI, hA, hml⟩
          refine HW.fr [(1, vw), (2, .int .i64 id), (7, .int .i64 (1 + q)), (8, .pointer (some ⟨w, 0, none⟩)), (9, .int .i64 ((i : Nat) : Int))] ⟨e1, e2, e7, e8, e9, trivial⟩ ?_
          refine HW.seq ?_
          refine HW.seq ?_
          refine HW.region ?_
          refine HO.val (v := .int .i64 0) (want_none) rfl (q_assign rfl) ?_
          refine HO.nil (thenQ_normal (?_))
          refine HW.block ?_
          refine HW.loop (S := Nat × Int × List (Int × Int)) (fun s f h => match s with | (k, b2, m2) => f 1 = vw ∧ f 2 = .int .i64 id ∧ f 7 = .int .i64 (1 + q) ∧ f 8 = .pointer (some ⟨w, 0, none⟩) ∧ f 9 = .int .i64 ((i : Nat) : Int) ∧ f 10 = .int .i64 ((k : Nat) : Int) ∧ (Ext h0 h) ∧ (WatchIs h w c r b2 (1 + q) m2) ∧ ((k : Int) ≤ wv (l[i]'(by omega)) q) ∧ (0 ≤ b2 ∧ b2 = b + (k : Int)) ∧ (AS m2 b2 id (1 + q - (k : Int))) ∧ (m2.length ≤ 2 * i + 2)) (fun s => match s with | (k, b2, m2) => (wv (l[i]'(by omega)) q).toNat - k) (0, b, m1) ?_ ?_
          · refine ⟨rfl, rfl, rfl, rfl, rfl, rfl, ?_, ?_, ?_, ?_, ?_, ?_⟩
            · exact hE
            · exact hI
            · exact (wv_bd _ q hq.1).1
            · (try dsimp only); omega
            · simpa using hA
            · exact hml
          · rintro ⟨k, b2, m2⟩ f6 hh6 ⟨e1, e2, e7, e8, e9, e10, hE, hI, hk2, hb2, hA, hml⟩
            refine HW.fr [(1, vw), (2, .int .i64 id), (7, .int .i64 (1 + q)), (8, .pointer (some ⟨w, 0, none⟩)), (9, .int .i64 ((i : Nat) : Int)), (10, .int .i64 ((k : Nat) : Int))] ⟨e1, e2, e7, e8, e9, e10, trivial⟩ ?_
            have hnd := hI.map.nodup
            have hwv := wv_bd (l[i]'(by omega)) q hq.1
            refine HW.seq ?_
            refine HW.seq ?_
            refine HW.region ?_
            refine HO.val (v := .int .i64 ((k : Nat) : Int)) (want_none) rfl (q_move rfl) ?_
            refine HO.val (v := vw) (want_none) rfl (q_move rfl) ?_
            refine HO.val (v := .int .i64 ((i : Nat) : Int)) (want_none) rfl (q_move rfl) ?_
            refine HO.val (v := elemPtr 1 vw i) (want_none) rfl (q_indexAddr (i := i) ts_22 (hS0.ext hE) rfl rfl (by omega)) ?_
            refine HO.val (v := .int .i64 (l[i]'(by omega))) (want_none) rfl (q_loadElem to_3 (hS0.ext hE) rfl (by omega) rfl) ?_
            refine HO.val (v := .int .u64 (IntKind.u64.wrap (l[i]'(by omega)))) (want_none) rfl (q_convInt Try.underlying3 Try.underlying26 rfl (rfl)) ?_
            refine HO.val (v := .int .i64 (1 + q)) (want_none) rfl (q_move rfl) ?_
            refine HO.val (v := .int .u64 (1 + q)) (want_none) rfl (q_convInt Try.underlying3 Try.underlying26 rfl (wrap_id (by simp [IntKind.min, IntKind.signed]; omega) (by simp [IntKind.max, IntKind.signed, IntKind.bits]; omega))) ?_
            refine HO.val (v := .int .u64 (wv (l[i]'(by omega)) q)) (want_none) rfl ((q_rem rfl rfl (by omega)).of_eq rfl) ?_
            refine HO.val (v := .int .i64 (wv (l[i]'(by omega)) q)) (want_none) rfl (q_convInt Try.underlying26 Try.underlying3 rfl (wrap_i64 (by have := wv_bd (l[i]'(by omega)) q hq.1; omega) (by have := wv_bd (l[i]'(by omega)) q hq.1; omega))) ?_
            refine HO.val (v := .bool (decide (((k : Nat) : Int) < (wv (l[i]'(by omega)) q)))) (want_none) rfl (q_lss rfl rfl) ?_
            refine HO.nil (thenQ_normal (?_))
            refine HW.cond (decide (((k : Nat) : Int) < (wv (l[i]'(by omega)) q))) rfl (fun c4 => ?_) (fun c4 => ?_)
            · have c4p := of_decide_eq_true c4
              refine HW.skip (thenQ_normal (?_))
              refine HW.seq ?_
              refine HW.block ?_
              refine HW.seq ?_
              refine HW.region ?_
              refine HO.val (v := .pointer (some ⟨w, 0, none⟩)) (want_none) rfl (q_move rfl) ?_
              refine HO.call (want_none) rfl (ec en_18 rfl rfl) (beat_spec w c r b2 (1 + q) m2 _ hI (by omega) (by omega)) ?_
              rintro vl5 h7 ⟨l5, hdl5, hOl5, hI', hx⟩
              replace hE := hE.onlyL hx (by simp; omega)
              replace hI := hI'
              have hxs := hx.size
              have hA2 := as_beat hA hnd
              have hfl := filter_len m2 fun p => decide (b2 + 1 < p.2)
              refine HO.val (v := .int .i64 id) (want_none) rfl (q_move rfl) ?_
              refine HO.call (want_none) rfl (ec en_17 rfl rfl) (has_spec _ l5 id _ hOl5.slice) ?_
              rintro _ _ ⟨rfl, rfl⟩
              refine HO.val (v := .bool (decide (id ∈ l5))) (want_none) rfl (q_move rfl) ?_
              have k6 : (decide (id ∈ l5)) = false := by rw [decide_eq_false_iff_not, as_has hA hnd hdl5]; omega
              refine HO.val (v := .pointer (some ⟨w, 0, none⟩)) (want_by rfl rfl k6) rfl (q_move rfl) ?_
              refine HO.val (v := .int .i64 id) (want_by rfl rfl k6) rfl (q_move rfl) ?_
              refine HO.call (want_by rfl rfl k6) rfl (ec en_19 rfl rfl) (is_spec w c r (b2 + 1) (1 + q) (m2.filter fun p => decide (b2 + 1 < p.2)) _ hI id (by omega) hA2.ok) ?_
              rintro _ _ ⟨rfl, rfl⟩
              refine HO.val (v := .bool (!(decide (0 < wleft (m2.filter fun p => decide (b2 + 1 < p.2)) (b2 + 1) id)))) (want_by rfl rfl k6) rfl (q_not rfl) ?_
              refine HO.val (v := .bool (!(decide (0 < wleft (m2.filter fun p => decide (b2 + 1 < p.2)) (b2 + 1) id)))) (want_none) rfl (q_pickK false rfl k6 rfl) ?_
              refine HO.nil (thenQ_normal (?_))
              have k7 : (decide (0 < wleft (m2.filter fun p => decide (b2 + 1 < p.2)) (b2 + 1) id)) = true := by rw [decide_eq_true_eq, as_is hA2]; omega
              refine HW.condK false rfl (by rw [k7]; rfl) ?_
              refine HW.skip (blockQ_normal (thenQ_normal (?_)))
              refine HW.region ?_
              refine HO.val (v := .int .i64 ((k : Nat) : Int)) (want_none) rfl (q_move rfl) ?_
              refine HO.val (v := .int .i64 ((k + 1 : Nat) : Int)) (want_none) rfl (q_addN ((k + 1 : Nat) : Int) rfl rfl (by omega) (by omega) (by omega)) ?_
              refine HO.val (v := .int .i64 ((k + 1 : Nat) : Int)) (want_none) rfl (q_assign rfl) ?_
              refine HO.nil (thenQ_normal (?_))
              refine ⟨(k + 1, b2 + 1, m2.filter fun p => decide (b2 + 1 < p.2)), ⟨rfl, rfl, rfl, rfl, rfl, rfl, ?_, ?_, ?_, ?_, ?_, ?_⟩, ?_⟩
              · exact hE
              · exact hI
              · (try dsimp only); omega
              · (try dsimp only); omega
              · have e : 1 + q - ((k + 1 : Nat) : Int) = 1 + q - (k : Int) - 1 := by omega
                rw [e]; exact hA2
              · (try dsimp only); omega
              · (try dsimp only); omega
            · have c4p := of_decide_eq_false c4
              refine HW.exit (thenQ_exit (thenQ_exit (blockQ_exit (thenQ_normal (?_)))))
              refine HW.seq ?_
              refine HW.region ?_
              refine HO.val (v := .pointer (some ⟨w, 0, none⟩)) (want_none) rfl (q_move rfl) ?_
              refine HO.val (v := .int .i64 id) (want_none) rfl (q_move rfl) ?_
              refine HO.call (want_none) rfl (ec en_16 rfl rfl) (hear_spec w c r b2 (1 + q) m2 _ hI id (by omega) (by omega)) ?_
              rintro _ h8 ⟨rfl, hI', hx⟩
              replace hE := hE.onlyL hx (by simp; omega)
              replace hI := hI'
              have hxs := hx.size
              refine HO.nil (thenQ_normal (?_))
              have k8 : ((mget m2 id).isSome) = true := by rw [as_some hA]; simp; omega
              refine HW.condK false rfl (by rw [k8]; rfl) ?_
              refine HW.skip (blockQ_normal (thenQ_normal (?_)))
              refine HW.region ?_
              refine HO.val (v := .int .i64 ((i : Nat) : Int)) (want_none) rfl (q_move rfl) ?_
              refine HO.val (v := .int .i64 ((i + 1 : Nat) : Int)) (want_none) rfl (q_addN ((i + 1 : Nat) : Int) rfl rfl (by omega) (by omega) (by omega)) ?_
              refine HO.val (v := .int .i64 ((i + 1 : Nat) : Int)) (want_none) rfl (q_assign rfl) ?_
              refine HO.nil (thenQ_normal (?_))
              refine ⟨(i + 1, b2, mset m2 id (b2 + (1 + q))), ⟨rfl, rfl, rfl, rfl, rfl, ?_, ?_, ?_, ?_, ?_, ?_⟩, ?_⟩
              · exact hE
              · exact hI
              · omega
              · omega
              · exact as_hear hA (by omega)
              · have := mset_len m2 id (b2 + (1 + q)); (try dsimp only); omega
              · (try dsimp only); omega
      · have c2p := of_decide_eq_false c2
        refine HW.exit (thenQ_exit (thenQ_exit (blockQ_exit (thenQ_normal (?_)))))
        refine HW.seq ?_
        refine HW.seq ?_
        refine HW.region ?_
        refine HO.val (v := .int .i64 0) (want_none) rfl (q_assign rfl) ?_
        refine HO.nil (thenQ_normal (?_))
        refine HW.block ?_
        refine HW.loop (S := Nat × Int × List (Int × Int)) (fun s f h => match s with | (j, b2, m2) => f 2 = .int .i64 id ∧ f 7 = .int .i64 (1 + q) ∧ f 8 = .pointer (some ⟨w, 0, none⟩) ∧ f 11 = .int .i64 ((j : Nat) : Int) ∧ (Ext h0 h) ∧ (WatchIs h w c r b2 (1 + q) m2) ∧ ((j : Int) ≤ 2 * (1 + q)) ∧ (0 ≤ b2 ∧ b2 ≤ 600 + (j : Int)) ∧ (AS m2 b2 id (1 + q - (j : Int))) ∧ (m2.length ≤ 61)) (fun s => match s with | (j, b2, m2) => (2 * (1 + q)).toNat - j) (0, b, m) ?_ ?_
        · refine ⟨rfl, rfl, rfl, rfl, ?_, ?_, ?_, ?_, ?_, ?_⟩
          · exact hE
          · exact hI
          · (try dsimp only); omega
          · (try dsimp only); omega
          · simpa using hA
          · (try dsimp only); omega
        · rintro ⟨j, b2, m2⟩ f9 hh9 ⟨e2, e7, e8, e11, hE, hI, hk2, hb2, hA, hml⟩
          refine HW.fr [(2, .int .i64 id), (7, .int .i64 (1 + q)), (8, .pointer (some ⟨w, 0, none⟩)), (11, .int .i64 ((j : Nat) : Int))] ⟨e2, e7, e8, e11, trivial⟩ ?_
          have hnd := hI.map.nodup
          refine HW.seq ?_
          refine HW.seq ?_
          refine HW.region ?_
          refine HO.val (v := .int .i64 ((j : Nat) : Int)) (want_none) rfl (q_move rfl) ?_
          refine HO.val (v := .int .i64 (1 + q)) (want_none) rfl (q_move rfl) ?_
          refine HO.val (v := .int .i64 (2 * (1 + q))) (want_none) rfl (q_mulN (2 * (1 + q)) rfl rfl rfl (by omega) (by omega)) ?_
          refine HO.val (v := .bool (decide (((j : Nat) : Int) < (2 * (1 + q))))) (want_none) rfl (q_lss rfl rfl) ?_
          refine HO.nil (thenQ_normal (?_))
          refine HW.cond (decide (((j : Nat) : Int) < (2 * (1 + q)))) rfl (fun c9 => ?_) (fun c9 => ?_)
          · have c9p := of_decide_eq_true c9
            refine HW.skip (thenQ_normal (?_))
            refine HW.seq ?_
            refine HW.block ?_
            refine HW.seq ?_
            refine HW.region ?_
            refine HO.val (v := .pointer (some ⟨w, 0, none⟩)) (want_none) rfl (q_move rfl) ?_
            refine HO.call (want_none) rfl (ec en_18 rfl rfl) (beat_spec w c r b2 (1 + q) m2 _ hI (by omega) (by omega)) ?_
            rintro vl10 h10 ⟨l10, hdl10, hOl10, hI', hx⟩
            replace hE := hE.onlyL hx (by simp; omega)
            replace hI := hI'
            have hxs := hx.size
            have hA2 := as_beat hA hnd
            have hfl := filter_len m2 fun p => decide (b2 + 1 < p.2)
            refine HO.val (v := .int .i64 id) (want_none) rfl (q_move rfl) ?_
            refine HO.call (want_none) rfl (ec en_17 rfl rfl) (has_spec _ l10 id _ hOl10.slice) ?_
            rintro _ _ ⟨rfl, rfl⟩
            refine HO.val (v := .int .i64 ((j : Nat) : Int)) (want_none) rfl (q_move rfl) ?_
            refine HO.val (v := .int .i64 (1 + q)) (want_none) rfl (q_move rfl) ?_
            refine HO.val (v := .int .i64 ((1 + q) - 1)) (want_none) rfl (q_subN ((1 + q) - 1) rfl rfl rfl (by omega) (by omega)) ?_
            refine HO.val (v := .bool (decide (((j : Nat) : Int) = ((1 + q) - 1)))) (want_none) rfl (q_eql rfl rfl) ?_
            refine HO.val (v := .bool (!((decide (id ∈ l10)) == (decide (((j : Nat) : Int) = ((1 + q) - 1)))))) (want_none) rfl (q_neqB Try.underlying4 rfl rfl) ?_
            refine HO.nil (thenQ_normal (?_))
            have k11 : ((decide (id ∈ l10)) == (decide (((j : Nat) : Int) = ((1 + q) - 1)))) = true := by rw [beq_iff_eq, Bool.eq_iff_iff, decide_eq_true_eq, decide_eq_true_eq, as_has hA hnd hdl10]; omega
            refine HW.condK false rfl (by rw [k11]; rfl) ?_
            refine HW.skip (blockQ_normal (thenQ_normal (?_)))
            refine HW.region ?_
            refine HO.val (v := .int .i64 ((j : Nat) : Int)) (want_none) rfl (q_move rfl) ?_
            refine HO.val (v := .int .i64 ((j + 1 : Nat) : Int)) (want_none) rfl (q_addN ((j + 1 : Nat) : Int) rfl rfl (by omega) (by omega) (by omega)) ?_
            refine HO.val (v := .int .i64 ((j + 1 : Nat) : Int)) (want_none) rfl (q_assign rfl) ?_
            refine HO.nil (thenQ_normal (?_))
            refine ⟨(j + 1, b2 + 1, m2.filter fun p => decide (b2 + 1 < p.2)), ⟨rfl, rfl, rfl, rfl, ?_, ?_, ?_, ?_, ?_, ?_⟩, ?_⟩
            · exact hE
            · exact hI
            · (try dsimp only); omega
            · (try dsimp only); omega
            · have e : 1 + q - ((j + 1 : Nat) : Int) = 1 + q - (j : Int) - 1 := by omega
              rw [e]; exact hA2
            · (try dsimp only); omega
            · (try dsimp only); omega
          · have c9p := of_decide_eq_false c9
            refine HW.exit (thenQ_exit (thenQ_exit (blockQ_exit (thenQ_normal (?_)))))
            refine HW.seq ?_
            refine HW.region ?_
            refine HO.val (v := .pointer (some ⟨w, 0, none⟩)) (want_none) rfl (q_move rfl) ?_
            refine HO.val (v := .int .i64 id) (want_none) rfl (q_move rfl) ?_
            refine HO.call (want_none) rfl (ec en_19 rfl rfl) (is_spec w c r b2 (1 + q) m2 _ hI id (by omega) hA.ok) ?_
            rintro _ _ ⟨rfl, rfl⟩
            refine HO.val (v := .bool (!(decide (0 < wleft m2 b2 id)))) (want_none) rfl (q_not rfl) ?_
            refine HO.val (v := .bool (!(decide (0 < wleft m2 b2 id)))) (want_none) rfl (q_move rfl) ?_
            have k12 : (decide (0 < wleft m2 b2 id)) = false := by rw [decide_eq_false_iff_not, as_is hA]; omega
            refine HO.call (want_by rfl rfl (by rw [k12]; rfl)) rfl (ec en_20 rfl rfl) (lives_spec _) ?_
            rintro _ h11 ⟨rfl, hx⟩
            replace hE := hE.trans hx
            replace hI := hI.ext hx
            have hxs := hx.size
            refine HO.val (v := .bool true) (want_none) rfl (q_pickK true rfl (by rw [k12]; rfl) rfl) ?_
            refine HO.val (v := .bool true) (want_none) rfl (q_assign rfl) ?_
            refine HO.nil (thenQ_normal (?_))
            refine HW.ret (?_)
            refine ⟨.inr rfl, .bool true, res_one rfl rfl, ?_⟩
            exact ⟨rfl, hE⟩
    · have g1p := of_decide_eq_false g1
      refine HO.past (past_by rfl rfl g1) rfl ?_
      refine HO.past (past_by rfl rfl g1) rfl ?_
      refine HO.val (v := .bool false) (want_none) rfl (q_pickK false rfl g1 rfl) ?_
      refine HO.nil (thenQ_normal (?_))
      refine HW.condF rfl ?_
      refine HW.exit (thenQ_exit (thenQ_exit (blockQ_exit (thenQ_normal (?_)))))
      refine HW.seq ?_
      refine HW.seq ?_
      refine HW.region ?_
      refine HO.val (v := .int .i64 0) (want_none) rfl (q_assign rfl) ?_
      refine HO.nil (thenQ_normal (?_))
      refine HW.block ?_
      refine HW.loop (S := Nat × Int × List (Int × Int)) (fun s f h => match s with | (j, b2, m2) => f 2 = .int .i64 id ∧ f 7 = .int .i64 (1 + q) ∧ f 8 = .pointer (some ⟨w, 0, none⟩) ∧ f 11 = .int .i64 ((j : Nat) : Int) ∧ (Ext h0 h) ∧ (WatchIs h w c r b2 (1 + q) m2) ∧ ((j : Int) ≤ 2 * (1 + q)) ∧ (0 ≤ b2 ∧ b2 ≤ 600 + (j : Int)) ∧ (AS m2 b2 id (1 + q - (j : Int))) ∧ (m2.length ≤ 61)) (fun s => match s with | (j, b2, m2) => (2 * (1 + q)).toNat - j) (0, b, m) ?_ ?_
      · refine ⟨rfl, rfl, rfl, rfl, ?_, ?_, ?_, ?_, ?_, ?_⟩
        · exact hE
        · exact hI
        · (try dsimp only); omega
        · (try dsimp only); omega
        · simpa using hA
        · (try dsimp only); omega
      · rintro ⟨j, b2, m2⟩ f12 hh12 ⟨e2, e7, e8, e11, hE, hI, hk2, hb2, hA, hml⟩
        refine HW.fr [(2, .int .i64 id), (7, .int .i64 (1 + q)), (8, .pointer (some ⟨w, 0, none⟩)), (11, .int .i64 ((j : Nat) : Int))] ⟨e2, e7, e8, e11, trivial⟩ ?_
        have hnd := hI.map.nodup
        refine HW.seq ?_
        refine HW.seq ?_
        refine HW.region ?_
        refine HO.val (v := .int .i64 ((j : Nat) : Int)) (want_none) rfl (q_move rfl) ?_
        refine HO.val (v := .int .i64 (1 + q)) (want_none) rfl (q_move rfl) ?_
        refine HO.val (v := .int .i64 (2 * (1 + q))) (want_none) rfl (q_mulN (2 * (1 + q)) rfl rfl rfl (by omega) (by omega)) ?_
        refine HO.val (v := .bool (decide (((j : Nat) : Int) < (2 * (1 + q))))) (want_none) rfl (q_lss rfl rfl) ?_
        refine HO.nil (thenQ_normal (?_))
        refine HW.cond (decide (((j : Nat) : Int) < (2 * (1 + q)))) rfl (fun c13 => ?_) (fun c13 => ?_)
        · have c13p := of_decide_eq_true c13
          refine HW.skip (thenQ_normal (?_))
          refine HW.seq ?_
          refine HW.block ?_
          refine HW.seq ?_
          refine HW.region ?_
          refine HO.val (v := .pointer (some ⟨w, 0, none⟩)) (want_none) rfl (q_move rfl) ?_
          refine HO.call (want_none) rfl (ec en_18 rfl rfl) (beat_spec w c r b2 (1 + q) m2 _ hI (by omega) (by omega)) ?_
          rintro vl14 h13 ⟨l14, hdl14, hOl14, hI', hx⟩
          replace hE := hE.onlyL hx (by simp; omega)
          replace hI := hI'
          have hxs := hx.size
          have hA2 := as_beat hA hnd
          have hfl := filter_len m2 fun p => decide (b2 + 1 < p.2)
          refine HO.val (v := .int .i64 id) (want_none) rfl (q_move rfl) ?_
          refine HO.call (want_none) rfl (ec en_17 rfl rfl) (has_spec _ l14 id _ hOl14.slice) ?_
          rintro _ _ ⟨rfl, rfl⟩
          refine HO.val (v := .int .i64 ((j : Nat) : Int)) (want_none) rfl (q_move rfl) ?_
          refine HO.val (v := .int .i64 (1 + q)) (want_none) rfl (q_move rfl) ?_
          refine HO.val (v := .int .i64 ((1 + q) - 1)) (want_none) rfl (q_subN ((1 + q) - 1) rfl rfl rfl (by omega) (by omega)) ?_
          refine HO.val (v := .bool (decide (((j : Nat) : Int) = ((1 + q) - 1)))) (want_none) rfl (q_eql rfl rfl) ?_
          refine HO.val (v := .bool (!((decide (id ∈ l14)) == (decide (((j : Nat) : Int) = ((1 + q) - 1)))))) (want_none) rfl (q_neqB Try.underlying4 rfl rfl) ?_
          refine HO.nil (thenQ_normal (?_))
          have k15 : ((decide (id ∈ l14)) == (decide (((j : Nat) : Int) = ((1 + q) - 1)))) = true := by rw [beq_iff_eq, Bool.eq_iff_iff, decide_eq_true_eq, decide_eq_true_eq, as_has hA hnd hdl14]; omega
          refine HW.condK false rfl (by rw [k15]; rfl) ?_
          refine HW.skip (blockQ_normal (thenQ_normal (?_)))
          refine HW.region ?_
          refine HO.val (v := .int .i64 ((j : Nat) : Int)) (want_none) rfl (q_move rfl) ?_
          refine HO.val (v := .int .i64 ((j + 1 : Nat) : Int)) (want_none) rfl (q_addN ((j + 1 : Nat) : Int) rfl rfl (by omega) (by omega) (by omega)) ?_
          refine HO.val (v := .int .i64 ((j + 1 : Nat) : Int)) (want_none) rfl (q_assign rfl) ?_
          refine HO.nil (thenQ_normal (?_))
          refine ⟨(j + 1, b2 + 1, m2.filter fun p => decide (b2 + 1 < p.2)), ⟨rfl, rfl, rfl, rfl, ?_, ?_, ?_, ?_, ?_, ?_⟩, ?_⟩
          · exact hE
          · exact hI
          · (try dsimp only); omega
          · (try dsimp only); omega
          · have e : 1 + q - ((j + 1 : Nat) : Int) = 1 + q - (j : Int) - 1 := by omega
            rw [e]; exact hA2
          · (try dsimp only); omega
          · (try dsimp only); omega
        · have c13p := of_decide_eq_false c13
          refine HW.exit (thenQ_exit (thenQ_exit (blockQ_exit (thenQ_normal (?_)))))
          refine HW.seq ?_
          refine HW.region ?_
          refine HO.val (v := .pointer (some ⟨w, 0, none⟩)) (want_none) rfl (q_move rfl) ?_
          refine HO.val (v := .int .i64 id) (want_none) rfl (q_move rfl) ?_
          refine HO.call (want_none) rfl (ec en_19 rfl rfl) (is_spec w c r b2 (1 + q) m2 _ hI id (by omega) hA.ok) ?_
          rintro _ _ ⟨rfl, rfl⟩
          refine HO.val (v := .bool (!(decide (0 < wleft m2 b2 id)))) (want_none) rfl (q_not rfl) ?_
          refine HO.val (v := .bool (!(decide (0 < wleft m2 b2 id)))) (want_none) rfl (q_move rfl) ?_
          have k16 : (decide (0 < wleft m2 b2 id)) = false := by rw [decide_eq_false_iff_not, as_is hA]; omega
          refine HO.call (want_by rfl rfl (by rw [k16]; rfl)) rfl (ec en_20 rfl rfl) (lives_spec _) ?_
          rintro _ h14 ⟨rfl, hx⟩
          replace hE := hE.trans hx
          replace hI := hI.ext hx
          have hxs := hx.size
          refine HO.val (v := .bool true) (want_none) rfl (q_pickK true rfl (by rw [k16]; rfl) rfl) ?_
          refine HO.val (v := .bool true) (want_none) rfl (q_assign rfl) ?_
          refine HO.nil (thenQ_normal (?_))
          refine HW.ret (?_)
          refine ⟨.inr rfl, .bool true, res_one rfl rfl, ?_⟩
          exact ⟨rfl, hE⟩
end Go.HL.CI
