/- Who is there: the functions of the reference: walks. -/
import Derived.Test.YtnemfpgfgblpbaaAliveRef
import Derived.Test.YtnemfpgfgblpbaaOps4
set_option linter.unusedSimpArgs false
set_option linter.unusedVariables false
set_option linter.unusedSectionVars false
namespace Go.HL.CI
open Go.Proofs
theorem en_96 (args : Array Value) (w : World) : (callFunc 96 args).run Try.prog w = .ok (.enter 96 args) w := by kernel_rfl
theorem tp_42 : TPlaces Try.prog 42 #[(0, 1), (1, 1), (2, 1)] #[.int .i64 0, .int .i64 0, .slice none 0 0] := tplaces Try.runUnderlying42 Try.zeroValue42 rfl (fun w => by kernel_rfl)
theorem fa_42_2 : FieldAt Try.prog 42 2 2 := fun a w => by kernel_rfl
theorem to_40 : TOne Try.prog 40 := ⟨Try.isAgg40, Try.sizeOf40⟩
theorem ts_40 : TSlice Try.prog 40 39 2 := ⟨Try.underlying40, Try.sizeOf39⟩
theorem fa_39_0 : FieldAt Try.prog 39 0 0 := fun a w => by kernel_rfl
theorem en_27 (args : Array Value) (w : World) : (callFunc 27 args).run Try.prog w = .ok (.enter 27 args) w := by kernel_rfl
theorem fa_42_0 : FieldAt Try.prog 42 0 0 := fun a w => by kernel_rfl
theorem fa_39_1 : FieldAt Try.prog 39 1 1 := fun a w => by kernel_rfl
theorem tp_39 : TPlaces Try.prog 39 #[(0, 1), (1, 1)] #[.int .i64 0, .int .i64 0] := tplaces Try.runUnderlying39 Try.zeroValue39 rfl (fun w => by kernel_rfl)
theorem tz_39 : TZero Try.prog 39 (.agg #[.int .i64 0, .int .i64 0]) := Try.zeroValue39
theorem tl_40 : TLit Try.prog 40 39 2 #[.int .i64 0, .int .i64 0] := tlit ts_40 tz_39 rfl
theorem te_40 : TElem Try.prog 40 39 2 16 := ⟨Try.underlying40, ⟨Try.t39, .agg #[.int .i64 0, .int .i64 0], by kernel_rfl, by kernel_rfl, by kernel_rfl, by kernel_rfl, by kernel_rfl⟩, by decide⟩
theorem fa_42_1 : FieldAt Try.prog 42 1 1 := fun a w => by kernel_rfl
/-- A reference watch: its struct lies at x, its list in v. -/
structure RefIs (h : Heap) (base x : Nat) (D b : Int) (v : Value) (L : List (Int × Int)) : Prop where
  blk : Blk h x (.cells #[.int .i64 D, .int .i64 b, v] 42 (0, 0))
  own : OwnIs h base 39 2 encII v L
  xb : x < base
  bs : base ≤ h.size
theorem RefIs.ext {h h' : Heap} {base x : Nat} {D b : Int} {v : Value} {L : List (Int × Int)} (k : RefIs h base x D b v L) (e : Ext h h') : RefIs h' base x D b v L := ⟨k.blk.ext e, k.own.ext e, k.xb, Nat.le_trans k.bs e.size⟩
theorem RefIs.onlyL {h h' : Heap} {base x : Nat} {D b : Int} {v : Value} {L : List (Int × Int)} {Ls : List Nat} (k : RefIs h base x D b v L) (e : OnlyL Ls h h') (h1 : x ∉ Ls) (h2 : ∀ y ∈ Ls, y < base) : RefIs h' base x D b v L := ⟨k.blk.onlyL e h1, k.own.onlyL e (k.own.notin h2), k.xb, Nat.le_trans k.bs e.size⟩
theorem WatchIs.onlyX {h h' : Heap} {w c r x : Nat} {beats dead : Int} {m : List (Int × Int)} {v : Value} (k : WatchIs h w c r beats dead m) (e : OnlyX x v h h') (h1 : w ≠ x) (h2 : c ≠ x) (h3 : r ≠ x) (hv : ∀ y, y = w ∨ y = c ∨ y = r → blockOf v ≠ some y) : WatchIs h' w c r beats dead m :=
  ⟨k.blk.onlyX e h1 (hv _ (by simp)), k.clk.onlyX e h2 (hv _ (by simp)), k.map.onlyX e h3 (hv _ (by simp)), k.wc, k.wr, k.cr⟩
theorem WatchIs.onlyL {h h' : Heap} {w c r : Nat} {beats dead : Int} {m : List (Int × Int)} {Ls : List Nat} (k : WatchIs h w c r beats dead m) (e : OnlyL Ls h h') (h1 : w ∉ Ls) (h2 : c ∉ Ls) (h3 : r ∉ Ls) : WatchIs h' w c r beats dead m :=
  ⟨k.blk.onlyL e h1, k.clk.onlyL e h2, k.map.onlyL e h3, k.wc, k.wr, k.cr⟩
theorem wgone_nil : wgone [] = [] := rfl
theorem wgone_step {L : List (Int × Int)} {i : Nat} (h : i < L.length) : wgone (L.take (i + 1)) = if L[i].2 = 1 then wgone (L.take i) ++ [L[i].1] else wgone (L.take i) := by
  unfold wgone; rw [List.take_add_one, List.getElem?_eq_getElem h]; simp only [Option.toList_some, List.filter_append, List.map_append]
  split <;> simp [*]
theorem wrest_step {L : List (Int × Int)} {i : Nat} (h : i < L.length) : wrest (L.take (i + 1)) = if L[i].2 = 1 then wrest (L.take i) else wrest (L.take i) ++ [(L[i].1, L[i].2 - 1)] := by
  unfold wrest; rw [List.take_add_one, List.getElem?_eq_getElem h]; simp only [Option.toList_some, List.filter_append, List.map_append]
  split <;> simp [*]
theorem wgone_len (L : List (Int × Int)) (i : Nat) : (wgone (L.take i)).length ≤ L.length := by
  unfold wgone; have := List.length_filter_le (fun p : Int × Int => decide (p.2 = 1)) (L.take i); simp at this ⊢; omega
theorem wrest_len (L : List (Int × Int)) (i : Nat) : (wrest (L.take i)).length ≤ L.length := by
  unfold wrest; have := List.length_filter_le (fun p : Int × Int => !decide (p.2 = 1)) (L.take i); simp at this ⊢; omega
theorem keys_step {L : List (Int × Int)} {i : Nat} (h : i < L.length) : (L.take (i + 1)).map Prod.fst = (L.take i).map Prod.fst ++ [L[i].1] := by
  rw [List.take_add_one, List.getElem?_eq_getElem h, List.map_append]; rfl

set_option maxRecDepth 100000 in
theorem within_spec (n lo hi : Int) (h0 : Heap) (hlh : lo ≤ hi) :
    HC Try.prog 96 #[.int .i64 n, .int .i64 lo, .int .i64 hi] h0 fun u h' => u = .int .i64 (min (max n lo) hi) ∧ h' = h0 := by
  refine HC.of_HW (n := 16) Try.func96 rfl rfl (Nat.le_of_ble_eq_true rfl) ?_
  refine HW.seq ?_
  refine HW.region ?_
  refine HO.val (v := .int .i64 0) (want_none) rfl (q_assign rfl) ?_
  refine HO.nil (thenQ_normal (?_))
  refine HW.seq ?_
  refine HW.seq ?_
  refine HW.region ?_
  refine HO.val (v := .int .i64 n) (want_none) rfl (q_move rfl) ?_
  refine HO.val (v := .int .i64 lo) (want_none) rfl (q_move rfl) ?_
  refine HO.val (v := .bool (decide (n < lo))) (want_none) rfl (q_lss rfl rfl) ?_
  refine HO.nil (thenQ_normal (?_))
  refine HW.cond (decide (n < lo)) rfl (fun c1 => ?_) (fun c1 => ?_)
  · have c1p := of_decide_eq_true c1
    refine HW.seq ?_
    refine HW.region ?_
    refine HO.val (v := .int .i64 lo) (want_none) rfl (q_move rfl) ?_
    refine HO.val (v := .int .i64 lo) (want_none) rfl (q_assign rfl) ?_
    refine HO.nil (thenQ_normal (?_))
    refine HW.ret (thenQ_ret (?_))
    refine ⟨.inr rfl, .int .i64 lo, res_one rfl rfl, ?_⟩
    exact ⟨by congr 1; omega, rfl⟩
  · have c1p := of_decide_eq_false c1
    refine HW.skip (thenQ_normal (?_))
    refine HW.seq ?_
    refine HW.seq ?_
    refine HW.region ?_
    refine HO.val (v := .int .i64 n) (want_none) rfl (q_move rfl) ?_
    refine HO.val (v := .int .i64 hi) (want_none) rfl (q_move rfl) ?_
    refine HO.val (v := .bool (decide (hi < n))) (want_none) rfl (q_gtr rfl rfl) ?_
    refine HO.nil (thenQ_normal (?_))
    refine HW.cond (decide (hi < n)) rfl (fun c2 => ?_) (fun c2 => ?_)
    · have c2p := of_decide_eq_true c2
      refine HW.seq ?_
      refine HW.region ?_
      refine HO.val (v := .int .i64 hi) (want_none) rfl (q_move rfl) ?_
      refine HO.val (v := .int .i64 hi) (want_none) rfl (q_assign rfl) ?_
      refine HO.nil (thenQ_normal (?_))
      refine HW.ret (thenQ_ret (?_))
      refine ⟨.inr rfl, .int .i64 hi, res_one rfl rfl, ?_⟩
      exact ⟨by congr 1; omega, rfl⟩
    · have c2p := of_decide_eq_false c2
      refine HW.skip (thenQ_normal (?_))
      refine HW.seq ?_
      refine HW.region ?_
      refine HO.val (v := .int .i64 n) (want_none) rfl (q_move rfl) ?_
      refine HO.val (v := .int .i64 n) (want_none) rfl (q_assign rfl) ?_
      refine HO.nil (thenQ_normal (?_))
      refine HW.ret (?_)
      refine ⟨.inr rfl, .int .i64 n, res_one rfl rfl, ?_⟩
      exact ⟨by congr 1; omega, rfl⟩

set_option maxRecDepth 100000 in
theorem rnew_spec (dead : Int) (h0 : Heap) :
    HC Try.prog 21 #[.int .i64 dead] h0 fun u h' => ∃ x, u = .pointer (some ⟨x, 0, none⟩) ∧ Blk h' x (.cells #[.int .i64 (min (max dead 1) 1000), .int .i64 0, .slice none 0 0] 42 (0, 0)) ∧ Ext h0 h' ∧ h0.size ≤ x := by
  refine HC.of_HW (n := 7) Try.func21 rfl rfl (Nat.le_of_ble_eq_true rfl) ?_
  have hE := Ext.refl h0
  refine HW.seq ?_
  refine HW.region ?_
  refine HO.val (v := .pointer none) (want_none) rfl (q_assign rfl) ?_
  refine HO.nil (thenQ_normal (?_))
  refine HW.seq ?_
  refine HW.region ?_
  refine HO.val (v := .int .i64 dead) (want_none) rfl (q_move rfl) ?_
  refine HO.call (want_none) rfl (ec en_96 rfl rfl) (within_spec dead 1 1000 _ (by omega)) ?_
  rintro _ hq ⟨rfl, hqe⟩
  obtain rfl := Eq.symm hqe
  refine HO.val (v := .agg #[.int .i64 (min (max dead 1) 1000), .int .i64 0, .slice none 0 0]) (want_none) rfl (q_build tp_42 rfl) ?_
  refine HO.eff (want_none) rfl (e_box (c := #[.int .i64 (min (max dead 1) 1000), .int .i64 0, .slice none 0 0]) (k' := 3) rfl rfl) ?_
  rintro _ h1 ⟨b1, rfl, hn⟩
  replace hE := hE.trans hn.ext
  have hb1 : Blk h1 b1 (.cells #[.int .i64 (min (max dead 1) 1000), .int .i64 0, .slice none 0 0] 42 (0, 0)) := hn.blk
  have hb1a := hn.at_; have hb1s := hn.size; clear hn
  refine HO.val (v := .pointer (some ⟨b1, 0, none⟩)) (want_none) rfl (q_assign rfl) ?_
  refine HO.nil (thenQ_normal (?_))
  refine HW.ret (?_)
  refine ⟨.inr rfl, .pointer (some ⟨b1, 0, none⟩), res_one rfl rfl, ?_⟩
  exact ⟨_, rfl, hb1, hE, by omega⟩

set_option maxRecDepth 100000 in
theorem find_fnd (x : Nat) (D b : Int) (v : Value) (L : List (Int × Int)) (id : Int) (h0 : Heap) (hX : Blk h0 x (.cells #[.int .i64 D, .int .i64 b, v] 42 (0, 0))) (hL : SliceIs h0 2 encII v L) :
    HC Try.prog 27 #[.pointer (some ⟨x, 0, none⟩), .int .i64 id] h0 fun u h' => u = .int .i64 (fndI L id) ∧ h' = h0 := by
  refine HC.of_HW (n := 26) Try.func27 rfl rfl (Nat.le_of_ble_eq_true rfl) ?_
  refine HW.seq ?_
  refine HW.region ?_
  refine HO.val (v := .int .i64 0) (want_none) rfl (q_assign rfl) ?_
  refine HO.nil (thenQ_normal (?_))
  refine HW.seq ?_
  refine HW.seq ?_
  refine HW.region ?_
  refine HO.val (v := .int .i64 0) (want_none) rfl (q_assign rfl) ?_
  refine HO.nil (thenQ_normal (?_))
  refine HW.block ?_
  refine HW.loop (S := Nat) (fun i f h => f 0 = .pointer (some ⟨x, 0, none⟩) ∧ f 1 = .int .i64 id ∧ f 5 = .int .i64 ((i : Nat) : Int) ∧ (Blk h x (.cells #[.int .i64 D, .int .i64 b, v] 42 (0, 0))) ∧ (SliceIs h 2 encII v L) ∧ (i ≤ L.length) ∧ (∀ j (h : j < L.length), j < i → L[j].1 ≠ id) ∧ (h0 = h)) (fun i => L.length - i) (0) ?_ ?_
  · refine ⟨rfl, rfl, rfl, ?_, ?_, ?_, ?_, ?_⟩
    · exact hX
    · exact hL
    · omega
    · intro j h hj; omega
    · rfl
  · rintro i f1 hh1 ⟨e0, e1, e5, hX, hL, hi, hz, hh⟩
    refine HW.fr [(0, .pointer (some ⟨x, 0, none⟩)), (1, .int .i64 id), (5, .int .i64 ((i : Nat) : Int))] ⟨e0, e1, e5, trivial⟩ ?_
    subst hh; have hn := hL.len_i
    refine HW.seq ?_
    refine HW.seq ?_
    refine HW.region ?_
    refine HO.val (v := .int .i64 ((i : Nat) : Int)) (want_none) rfl (q_move rfl) ?_
    refine HO.val (v := .pointer (some ⟨x, 0, none⟩)) (want_none) rfl (q_move rfl) ?_
    refine HO.val (v := .pointer (some ⟨x, 0, none⟩)) (want_none) rfl (q_nilCheck rfl) ?_
    refine HO.val (v := .pointer (some ⟨x, 2, none⟩)) (want_none) rfl (q_fieldAddr fa_42_2 rfl rfl) ?_
    refine HO.val (v := v) (want_none) rfl (q_load to_40 rfl (Blk.cell hX rfl)) ?_
    refine HO.val (v := .int .i64 ((L.length : Nat) : Int)) (want_none) rfl (q_lenS ts_40 hL.shp rfl rfl) ?_
    refine HO.val (v := .bool (decide (((i : Nat) : Int) < ((L.length : Nat) : Int)))) (want_none) rfl (q_lss rfl rfl) ?_
    refine HO.nil (thenQ_normal (?_))
    refine HW.cond (decide (((i : Nat) : Int) < ((L.length : Nat) : Int))) rfl (fun c1 => ?_) (fun c1 => ?_)
    · have c1p := of_decide_eq_true c1
      refine HW.skip (thenQ_normal (?_))
      refine HW.seq ?_
      refine HW.block ?_
      refine HW.seq ?_
      refine HW.region ?_
      refine HO.val (v := .pointer (some ⟨x, 0, none⟩)) (want_none) rfl (q_move rfl) ?_
      refine HO.val (v := .pointer (some ⟨x, 0, none⟩)) (want_none) rfl (q_nilCheck rfl) ?_
      refine HO.val (v := .pointer (some ⟨x, 2, none⟩)) (want_none) rfl (q_fieldAddr fa_42_2 rfl rfl) ?_
      refine HO.val (v := v) (want_none) rfl (q_load to_40 rfl (Blk.cell hX rfl)) ?_
      refine HO.val (v := .int .i64 ((i : Nat) : Int)) (want_none) rfl (q_move rfl) ?_
      refine HO.val (v := elemPtr 2 v i) (want_none) rfl (q_indexAddr (i := i) ts_40 hL rfl rfl (by omega)) ?_
      refine HO.val (v := fieldPtr 2 v i 0) (want_none) rfl (q_fieldElemS fa_39_0 hL rfl (by omega)) ?_
      refine HO.val (v := .int .i64 ((L[i]'(by omega)).1)) (want_none) rfl (q_loadField to_3 hL rfl (by omega) (by decide) rfl) ?_
      refine HO.val (v := .int .i64 id) (want_none) rfl (q_move rfl) ?_
      refine HO.val (v := .bool (decide (((L[i]'(by omega)).1) = id))) (want_none) rfl (q_eql rfl rfl) ?_
      refine HO.nil (thenQ_normal (?_))
      refine HW.cond (decide (((L[i]'(by omega)).1) = id)) rfl (fun c2 => ?_) (fun c2 => ?_)
      · have c2p := of_decide_eq_true c2
        refine HW.seq ?_
        refine HW.region ?_
        refine HO.val (v := .int .i64 ((i : Nat) : Int)) (want_none) rfl (q_move rfl) ?_
        refine HO.val (v := .int .i64 ((i : Nat) : Int)) (want_none) rfl (q_assign rfl) ?_
        refine HO.nil (thenQ_normal (?_))
        refine HW.ret (blockQ_ret (thenQ_ret (thenQ_ret (blockQ_ret (thenQ_ret (?_))))))
        refine ⟨.inr rfl, .int .i64 ((i : Nat) : Int), res_one rfl rfl, ?_⟩
        refine ⟨?_, rfl⟩
        unfold fndI; rw [fnd_some (by omega) c2p hz]
      · have c2p := of_decide_eq_false c2
        refine HW.skip (blockQ_normal (thenQ_normal (?_)))
        refine HW.region ?_
        refine HO.val (v := .int .i64 ((i : Nat) : Int)) (want_none) rfl (q_move rfl) ?_
        refine HO.val (v := .int .i64 ((i + 1 : Nat) : Int)) (want_none) rfl (q_addN ((i + 1 : Nat) : Int) rfl rfl (by omega) (by omega) (by omega)) ?_
        refine HO.val (v := .int .i64 ((i + 1 : Nat) : Int)) (want_none) rfl (q_assign rfl) ?_
        refine HO.nil (thenQ_normal (?_))
        refine ⟨(i + 1), ⟨rfl, rfl, rfl, ?_, ?_, ?_, ?_, ?_⟩, ?_⟩
        · exact hX
        · exact hL
        · omega
        · intro j h hj; by_cases e : j = i
          · subst e; exact c2p
          · exact hz j h (by omega)
        · rfl
        · omega
    · have c1p := of_decide_eq_false c1
      refine HW.exit (thenQ_exit (thenQ_exit (blockQ_exit (thenQ_normal (?_)))))
      refine HW.seq ?_
      refine HW.region ?_
      refine HO.val (v := .int .i64 (-1)) (want_none) rfl (q_assign rfl) ?_
      refine HO.nil (thenQ_normal (?_))
      refine HW.ret (?_)
      refine ⟨.inr rfl, .int .i64 (-1), res_one rfl rfl, ?_⟩
      refine ⟨?_, rfl⟩
      unfold fndI; rw [fnd_none fun j h => hz j h (by omega)]

def FC (L : List (Int × Int)) (id n : Int) : Prop := (n = -1 ∧ mget L id = none) ∨ ∃ i, ∃ h : i < L.length, n = (i : Int) ∧ L.findIdx? (fun p => decide (id = p.1)) = some i ∧ L[i].1 = id ∧ mget L id = some L[i].2
theorem find_spec (x : Nat) (D b : Int) (v : Value) (L : List (Int × Int)) (id : Int) (h0 : Heap) (hX : Blk h0 x (.cells #[.int .i64 D, .int .i64 b, v] 42 (0, 0))) (hL : SliceIs h0 2 encII v L) :
    HC Try.prog 27 #[.pointer (some ⟨x, 0, none⟩), .int .i64 id] h0 fun u h' => ∃ n, u = .int .i64 n ∧ FC L id n ∧ h0 = h' := by
  refine (find_fnd x D b v L id h0 hX hL).mono ?_
  rintro u h' ⟨rfl, rfl⟩
  refine ⟨_, rfl, ?_, rfl⟩
  rcases fndI_cases L id with ⟨h1, h2⟩ | ⟨i, h, h1, h2, h3, h4⟩
  · exact .inl ⟨h1, by simpa using h2⟩
  · exact .inr ⟨i, h, h1, h2, h3, h4⟩

set_option maxRecDepth 100000 in
theorem rhear_spec (base x : Nat) (D b : Int) (v : Value) (L : List (Int × Int)) (h0 : Heap) (hR : RefIs h0 base x D b v L) (id : Int) (hl : L.length ≤ 1000) :
    HC Try.prog 22 #[.pointer (some ⟨x, 0, none⟩), .int .i64 id] h0 fun u h' => u = .bool (!(mget L id).isSome) ∧ ∃ v', RefIs h' base x D b v' (wput L id D) ∧ OnlyX x v h0 h' := by
  refine HC.of_HW (n := 70) Try.func22 rfl rfl (Nat.le_of_ble_eq_true rfl) ?_
  obtain ⟨hX, hL, hxb, hbs⟩ := hR
  have hO := OnlyX.refl x v h0
  have hvlt : ∀ y, blockOf v = some y → y < h0.size := fun y hy => hL.lt hy
  have hli := hL.len_i
  refine HW.seq ?_
  refine HW.region ?_
  refine HO.val (v := .bool false) (want_none) rfl (q_assign rfl) ?_
  refine HO.nil (thenQ_normal (?_))
  refine HW.seq ?_
  refine HW.seq ?_
  refine HW.region ?_
  refine HO.val (v := .pointer (some ⟨x, 0, none⟩)) (want_none) rfl (q_move rfl) ?_
  refine HO.val (v := .int .i64 id) (want_none) rfl (q_move rfl) ?_
  refine HO.call (want_none) rfl (ec en_27 rfl rfl) (find_spec x D b v L id _ hX hL.slice) ?_
  rintro _ _ ⟨n1, rfl, hfn1, rfl⟩
  refine HO.val (v := .int .i64 n1) (want_none) rfl (q_assign rfl) ?_
  refine HO.nil (thenQ_normal (?_))
  refine HW.seq ?_
  refine HW.region ?_
  refine HO.val (v := .int .i64 n1) (want_none) rfl (q_move rfl) ?_
  refine HO.val (v := .bool (decide (0 ≤ n1))) (want_none) rfl (q_geq rfl rfl) ?_
  refine HO.nil (thenQ_normal (?_))
  refine HW.cond (decide (0 ≤ n1)) rfl (fun c2 => ?_) (fun c2 => ?_)
  · have c2p := of_decide_eq_true c2
    obtain ⟨i, hi, rfl, hfi, hi1, hig⟩ : ∃ i, ∃ h : i < L.length, n1 = (i : Int) ∧ L.findIdx? (fun p => decide (id = p.1)) = some i ∧ L[i].1 = id ∧ mget L id = some L[i].2 := by
      rcases hfn1 with ⟨e, _⟩ | e
      · omega
      · exact e
    refine HW.seq ?_
    refine HW.regionD 12 mixed (fun h => (Blk h x (.cells #[.int .i64 D, .int .i64 b, v] 42 (0, 0))) ∧ (OnlyX x v h0 h)) [(11, fun h => (OwnIs h base 39 2 encII v L))] [(0, true), (1, true), (2, true), (3, true), (4, true), (5, true), (6, true), (7, true), (8, true), (9, true), (10, true), (11, false)] (by kernel_rfl) ?_
    refine HM.val (v := .pointer (some ⟨x, 0, none⟩)) rfl rfl (want_none) rfl (fun _ ⟨hX, hO⟩ => q_move rfl) ?_
    refine HM.val (v := .pointer (some ⟨x, 0, none⟩)) rfl rfl (want_none) rfl (fun _ ⟨hX, hO⟩ => q_nilCheck rfl) ?_
    refine HM.val (v := .pointer (some ⟨x, 2, none⟩)) rfl rfl (want_none) rfl (fun _ ⟨hX, hO⟩ => q_fieldAddr fa_42_2 rfl rfl) ?_
    refine HM.val (v := v) rfl rfl (want_none) rfl (fun _ ⟨hX, hO⟩ => q_load to_40 rfl (Blk.cell hX rfl)) ?_
    refine HM.val (v := .int .i64 ((i : Nat) : Int)) rfl rfl (want_none) rfl (fun _ ⟨hX, hO⟩ => q_move rfl) ?_
    refine HM.val (v := .pointer (some ⟨x, 0, none⟩)) rfl rfl (want_none) rfl (fun _ ⟨hX, hO⟩ => q_move rfl) ?_
    refine HM.val (v := .pointer (some ⟨x, 0, none⟩)) rfl rfl (want_none) rfl (fun _ ⟨hX, hO⟩ => q_nilCheck rfl) ?_
    refine HM.val (v := .pointer (some ⟨x, 0, none⟩)) rfl rfl (want_none) rfl (fun _ ⟨hX, hO⟩ => q_fieldAddr fa_42_0 rfl rfl) ?_
    refine HM.val (v := .int .i64 D) rfl rfl (want_none) rfl (fun _ ⟨hX, hO⟩ => q_load to_3 rfl (Blk.cell hX rfl)) ?_
    refine HM.valN (v := elemPtr 2 v i) 11 (fun h => (OwnIs h base 39 2 encII v L)) rfl rfl (want_none) rfl (by simp) (by kernel_rfl) (fun _ ⟨hX, hO⟩ hL => q_indexAddr (i := i) ts_40 hL.slice rfl rfl (by omega)) ?_
    refine HM.valN (v := fieldPtr 2 v i 1) 11 (fun h => (OwnIs h base 39 2 encII v L)) rfl rfl (want_none) rfl (by simp) (by kernel_rfl) (fun _ ⟨hX, hO⟩ hL => q_fieldElemS fa_39_1 hL.slice rfl (by omega)) ?_
    refine HM.sto ⟨⟨hX, hO⟩, (at_cons (.inr hL) (Go.HL.at_nil _ _))⟩ rfl (want_none) rfl (s_storeField (a := ((L[i]'(by omega)).1, D)) to_3 hL rfl (by omega) (by decide) rfl rfl rfl rfl) ?_
    rintro h1 ⟨hO', hg⟩
    replace hX := hX.grown hg (hL.ne_lt (by omega))
    replace hO := hO.grown hg (fun y hy => .inr hy)
    replace hL := hO'
    have hgs := hg.size; clear hg
    refine HM.nil ⟨⟨hX, hO⟩, (at_cons (.inl (by kernel_rfl)) (Go.HL.at_nil _ _))⟩ (thenQ_normal (?_))
    refine HW.seq ?_
    refine HW.region ?_
    refine HO.val (v := .bool false) (want_none) rfl (q_assign rfl) ?_
    refine HO.nil (thenQ_normal (?_))
    refine HW.ret (thenQ_ret (?_))
    refine ⟨.inr rfl, .bool false, res_one rfl rfl, ?_⟩
    refine ⟨by rw [hig]; rfl, v, ⟨hX, ?_, hxb, by omega⟩, hO⟩
    have e : wput L id D = L.set i ((L[i]'(by omega)).1, D) := by unfold wput; rw [if_pos (by rw [hig]; rfl), mset_set hfi, hi1]
    rw [e]; exact hL
  · have c2p := of_decide_eq_false c2
    obtain ⟨rfl, hnn⟩ : n1 = -1 ∧ mget L id = none := by
      rcases hfn1 with e | ⟨i, _, e, _⟩
      · exact e
      · omega
    refine HW.skip (thenQ_normal (?_))
    refine HW.seq ?_
    refine HW.region ?_
    refine HO.val (v := .int .i64 0) (want_none) rfl (q_assign rfl) ?_
    refine HO.nil (thenQ_normal (?_))
    refine HW.seq ?_
    refine HW.block ?_
    refine HW.loop (S := Nat) (fun j f h => f 0 = .pointer (some ⟨x, 0, none⟩) ∧ f 1 = .int .i64 id ∧ f 6 = .int .i64 ((j : Nat) : Int) ∧ (Blk h x (.cells #[.int .i64 D, .int .i64 b, v] 42 (0, 0))) ∧ (OwnIs h base 39 2 encII v L) ∧ (OnlyX x v h0 h) ∧ (j ≤ L.length) ∧ (∀ i (h : i < L.length), i < j → L[i].1 < id)) (fun j => L.length - j) (0) ?_ ?_
    · refine ⟨rfl, rfl, rfl, ?_, ?_, ?_, ?_, ?_⟩
      · exact hX
      · exact hL
      · exact hO
      · omega
      · intro i h hj; omega
    · rintro j f2 hh2 ⟨e0, e1, e6, hX, hL, hO, hj, hz⟩
      refine HW.fr [(0, .pointer (some ⟨x, 0, none⟩)), (1, .int .i64 id), (6, .int .i64 ((j : Nat) : Int))] ⟨e0, e1, e6, trivial⟩ ?_
      have hos := hO.size
      refine HW.seq ?_
      refine HW.seq ?_
      refine HW.region ?_
      refine HO.val (v := .int .i64 ((j : Nat) : Int)) (want_none) rfl (q_move rfl) ?_
      refine HO.val (v := .pointer (some ⟨x, 0, none⟩)) (want_none) rfl (q_move rfl) ?_
      refine HO.val (v := .pointer (some ⟨x, 0, none⟩)) (want_none) rfl (q_nilCheck rfl) ?_
      refine HO.val (v := .pointer (some ⟨x, 2, none⟩)) (want_none) rfl (q_fieldAddr fa_42_2 rfl rfl) ?_
      refine HO.val (v := v) (want_none) rfl (q_load to_40 rfl (Blk.cell hX rfl)) ?_
      refine HO.val (v := .int .i64 ((L.length : Nat) : Int)) (want_none) rfl (q_lenS ts_40 hL.slice.shp rfl rfl) ?_
      refine HO.val (v := .bool (decide (((j : Nat) : Int) < ((L.length : Nat) : Int)))) (want_none) rfl (q_lss rfl rfl) ?_
      refine HO.val (v := .bool (decide (((j : Nat) : Int) < ((L.length : Nat) : Int)))) (want_none) rfl (q_move rfl) ?_
      rcases Bool.eq_false_or_eq_true (decide (((j : Nat) : Int) < ((L.length : Nat) : Int))) with g3 | g3
      · have g3p := of_decide_eq_true g3
        refine HO.val (v := .pointer (some ⟨x, 0, none⟩)) (want_by rfl rfl g3) rfl (q_move rfl) ?_
        refine HO.val (v := .pointer (some ⟨x, 0, none⟩)) (want_by rfl rfl g3) rfl (q_nilCheck rfl) ?_
        refine HO.val (v := .pointer (some ⟨x, 2, none⟩)) (want_by rfl rfl g3) rfl (q_fieldAddr fa_42_2 rfl rfl) ?_
        refine HO.val (v := v) (want_by rfl rfl g3) rfl (q_load to_40 rfl (Blk.cell hX rfl)) ?_
        refine HO.val (v := .int .i64 ((j : Nat) : Int)) (want_by rfl rfl g3) rfl (q_move rfl) ?_
        refine HO.val (v := elemPtr 2 v j) (want_by rfl rfl g3) rfl (q_indexAddr (i := j) ts_40 hL.slice rfl rfl (by omega)) ?_
        refine HO.val (v := fieldPtr 2 v j 0) (want_by rfl rfl g3) rfl (q_fieldElemS fa_39_0 hL.slice rfl (by omega)) ?_
        refine HO.val (v := .int .i64 ((L[j]'(by omega)).1)) (want_by rfl rfl g3) rfl (q_loadField to_3 hL.slice rfl (by omega) (by decide) rfl) ?_
        refine HO.val (v := .int .i64 id) (want_by rfl rfl g3) rfl (q_move rfl) ?_
        refine HO.val (v := .bool (decide (((L[j]'(by omega)).1) < id))) (want_by rfl rfl g3) rfl (q_lss rfl rfl) ?_
        refine HO.val (v := .bool (decide (((L[j]'(by omega)).1) < id))) (want_none) rfl (q_pickK true rfl g3 rfl) ?_
        refine HO.nil (thenQ_normal (?_))
        refine HW.cond (decide (((L[j]'(by omega)).1) < id)) rfl (fun c4 => ?_) (fun c4 => ?_)
        · have c4p := of_decide_eq_true c4
          refine HW.skip (thenQ_normal (?_))
          refine HW.block ?_
          refine HW.region ?_
          refine HO.val (v := .int .i64 ((j : Nat) : Int)) (want_none) rfl (q_move rfl) ?_
          refine HO.val (v := .int .i64 ((j + 1 : Nat) : Int)) (want_none) rfl (q_addN ((j + 1 : Nat) : Int) rfl rfl (by omega) (by omega) (by omega)) ?_
          refine HO.val (v := .int .i64 ((j + 1 : Nat) : Int)) (want_none) rfl (q_assign rfl) ?_
          refine HO.nil (blockQ_normal (thenQ_normal (?_)))
          refine ⟨(j + 1), ⟨rfl, rfl, rfl, ?_, ?_, ?_, ?_, ?_⟩, ?_⟩
          · exact hX
          · exact hL
          · exact hO
          · omega
          · intro i h hij; by_cases e : i = j
            · subst e; assumption
            · exact hz i h (by omega)
          · omega
        · have c4p := of_decide_eq_false c4
          have hend : ∀ h : j < L.length, ¬ (L[j].1 < id) := fun h => by simpa using c4
          refine HW.exit (thenQ_exit (thenQ_exit (blockQ_exit (thenQ_normal (?_)))))
          refine HW.seq ?_
          refine HW.regionA 27 mixed (fun h => (OwnIs h base 39 2 encII v L) ∧ (OnlyX x v h0 h)) [(26, fun h => (Blk h x (.cells #[.int .i64 D, .int .i64 b, v] 42 (0, 0))))] (by kernel_rfl) ?_
          refine HA.val (k := 0) (v := .pointer (some ⟨x, 0, none⟩)) rfl rfl (by kernel_rfl) (by kernel_rfl) (want_none) rfl (fun _ ⟨hL, hO⟩ => q_move rfl) ?_
          refine HA.val (k := 2) (v := .pointer (some ⟨x, 0, none⟩)) rfl rfl (by kernel_rfl) (by kernel_rfl) (want_none) rfl (fun _ ⟨hL, hO⟩ => q_move rfl) ?_
          refine HA.val (k := 3) (v := .pointer (some ⟨x, 0, none⟩)) rfl rfl (by kernel_rfl) (by kernel_rfl) (want_none) rfl (fun _ ⟨hL, hO⟩ => q_nilCheck rfl) ?_
          refine HA.val (k := 4) (v := .pointer (some ⟨x, 2, none⟩)) rfl rfl (by kernel_rfl) (by kernel_rfl) (want_none) rfl (fun _ ⟨hL, hO⟩ => q_fieldAddr fa_42_2 rfl rfl) ?_
          refine HA.valN (k := 5) (v := v) 26 (fun h => (Blk h x (.cells #[.int .i64 D, .int .i64 b, v] 42 (0, 0)))) rfl rfl (by kernel_rfl) (by kernel_rfl) (want_none) rfl (by simp) (by kernel_rfl) (fun _ ⟨hL, hO⟩ hX => q_load to_40 rfl (Blk.cell hX rfl)) ?_
          refine HA.val (k := 6) (v := .int .i64 ((j : Nat) : Int)) rfl rfl (by kernel_rfl) (by kernel_rfl) (want_none) rfl (fun _ ⟨hL, hO⟩ => q_move rfl) ?_
          refine HA.val (k := 7) (v := cutV 2 v 0 j) rfl rfl (by kernel_rfl) (by kernel_rfl) (want_none) rfl (fun _ ⟨hL, hO⟩ => q_sliceH (hi := j) ts_40 hL.slice rfl rfl (by omega)) ?_
          refine HA.val (k := 9) (v := .int .i64 id) rfl rfl (by kernel_rfl) (by kernel_rfl) (want_none) rfl (fun _ ⟨hL, hO⟩ => q_move rfl) ?_
          refine HA.val (k := 10) (v := .pointer (some ⟨x, 0, none⟩)) rfl rfl (by kernel_rfl) (by kernel_rfl) (want_none) rfl (fun _ ⟨hL, hO⟩ => q_move rfl) ?_
          refine HA.val (k := 11) (v := .pointer (some ⟨x, 0, none⟩)) rfl rfl (by kernel_rfl) (by kernel_rfl) (want_none) rfl (fun _ ⟨hL, hO⟩ => q_nilCheck rfl) ?_
          refine HA.val (k := 12) (v := .pointer (some ⟨x, 0, none⟩)) rfl rfl (by kernel_rfl) (by kernel_rfl) (want_none) rfl (fun _ ⟨hL, hO⟩ => q_fieldAddr fa_42_0 rfl rfl) ?_
          refine HA.valN (k := 13) (v := .int .i64 D) 26 (fun h => (Blk h x (.cells #[.int .i64 D, .int .i64 b, v] 42 (0, 0)))) rfl rfl (by kernel_rfl) (by kernel_rfl) (want_none) rfl (by simp) (by kernel_rfl) (fun _ ⟨hL, hO⟩ hX => q_load to_3 rfl (Blk.cell hX rfl)) ?_
          refine HA.val (k := 14) (v := .agg #[.int .i64 id, .int .i64 D]) rfl rfl (by kernel_rfl) (by kernel_rfl) (want_none) rfl (fun _ ⟨hL, hO⟩ => q_build tp_39 rfl) ?_
          refine HA.val (k := 17) (v := .pointer (some ⟨x, 0, none⟩)) rfl rfl (by kernel_rfl) (by kernel_rfl) (want_none) rfl (fun _ ⟨hL, hO⟩ => q_move rfl) ?_
          refine HA.val (k := 18) (v := .pointer (some ⟨x, 0, none⟩)) rfl rfl (by kernel_rfl) (by kernel_rfl) (want_none) rfl (fun _ ⟨hL, hO⟩ => q_nilCheck rfl) ?_
          refine HA.val (k := 19) (v := .pointer (some ⟨x, 2, none⟩)) rfl rfl (by kernel_rfl) (by kernel_rfl) (want_none) rfl (fun _ ⟨hL, hO⟩ => q_fieldAddr fa_42_2 rfl rfl) ?_
          refine HA.valN (k := 20) (v := v) 26 (fun h => (Blk h x (.cells #[.int .i64 D, .int .i64 b, v] 42 (0, 0)))) rfl rfl (by kernel_rfl) (by kernel_rfl) (want_none) rfl (by simp) (by kernel_rfl) (fun _ ⟨hL, hO⟩ hX => q_load to_40 rfl (Blk.cell hX rfl)) ?_
          refine HA.val (k := 21) (v := .int .i64 ((j : Nat) : Int)) rfl rfl (by kernel_rfl) (by kernel_rfl) (want_none) rfl (fun _ ⟨hL, hO⟩ => q_move rfl) ?_
          refine HA.val (k := 22) (v := cutV 2 v j L.length) rfl rfl (by kernel_rfl) (by kernel_rfl) (want_none) rfl (fun _ ⟨hL, hO⟩ => q_sliceL (lo := j) ts_40 hL.slice rfl rfl (by omega)) ?_
          refine HA.two (k := 1) (k' := 15) ⟨⟨hL, hO⟩, (at_cons (.inr hX) (Go.HL.at_nil _ _))⟩ (by kernel_rfl) ?_ ?_
          · refine HS.eff rfl (want_none) rfl (e_litEmpty tl_40) ?_
            rintro _ h3 ⟨b5, rfl, hn⟩
            have hnehL_b5 := hL.ne_ge (Nat.le_of_eq hn.at_.symm)
            replace hX := hX.ext hn.ext
            replace hL := hL.ext hn.ext
            replace hO := hO.ext hn.ext
            have hb5 : Blk h3 b5 (.cells #[] 39 (0, 0)) := hn.blk
            have hb5a := hn.at_; have hb5s := hn.size; clear hn
            have hN : OwnIs h3 b5 39 2 encII (.slice (some ⟨b5, 0, none⟩) 0 0) ([] : List (Int × Int)) := OwnIs.lit (l := ([] : List (Int × Int))) hb5 (Nat.le_refl _) (by simp [maxLen]) (by simp) rfl
            have hap1 : ∀ y, blockOf (.slice (some ⟨b5, 0, none⟩) 0 0) = some y → blockOf v ≠ some y := by intro y hy; rw [← Option.some.inj (show some b5 = some y from hy)]; exact hnehL_b5
            refine HA.two (k := 8) (k' := 15) ⟨⟨hL, hO⟩, (at_cons (.inr hX) (Go.HL.at_nil _ _))⟩ (by kernel_rfl) ?_ ?_
            · refine HS.eff rfl (want_none) rfl (e_append te_40 hN (hL.slice.cutH j (by omega)) rfl rfl rfl (by intro a _ u hu; simp [encII] at hu; first | (subst hu; rfl) | (rcases hu with rfl | rfl <;> rfl) | (rcases hu with rfl | rfl | rfl <;> rfl) | (rcases hu with rfl | rfl | rfl | rfl <;> rfl) | (rcases hu with rfl | rfl | rfl | rfl | rfl <;> rfl) | (rcases hu with rfl | rfl | rfl | rfl | rfl | rfl <;> rfl)) (by simp only [List.length_append, List.length_cons, List.length_nil, List.length_take, List.length_drop]; omega) (by simp only [List.length_append, List.length_cons, List.length_nil, List.length_take, List.length_drop]; omega) (by omega)) ?_
              rintro v6 h4 ⟨hO', hg⟩
              have haphL := hg.apart (fun y hy => hL.lt hy) (fun y p q => hap1 y q p)
              replace hX := hX.grown hg (hN.ne_lt (by omega))
              replace hL := hL.grown hg (fun y hy => hN.ne_lt (Nat.lt_of_lt_of_le (hvlt y hy) (by omega)))
              replace hO := hO.grown hg (fun y hy => .inl (Nat.le_trans (by omega) (hN.ge hy)))
              have hap2 := haphL
              replace hN := hO'
              have hgs := hg.size; clear hg
              refine HA.one (k := 15) ⟨⟨hL, hO⟩, (at_cons (.inr hX) (Go.HL.at_nil _ _))⟩ (by kernel_rfl) ?_
              refine HS.eff rfl (want_none) rfl (e_lit (cells := #[.int .i64 id, .int .i64 D]) #[.int .i64 0, .int .i64 0] tl_40 (by decide) (by decide) (by kernel_rfl) rfl) ?_
              rintro _ h5 ⟨b7, rfl, hn⟩
              have hnehL_b7 := hL.ne_ge (Nat.le_of_eq hn.at_.symm)
              have hnehN_b7 := hN.ne_ge (Nat.le_of_eq hn.at_.symm)
              replace hX := hX.ext hn.ext
              replace hL := hL.ext hn.ext
              replace hO := hO.ext hn.ext
              replace hN := hN.ext hn.ext
              have hb7 : Blk h5 b7 (.cells #[.int .i64 id, .int .i64 D] 39 (0, 0)) := hn.blk
              have hb7a := hn.at_; have hb7s := hn.size; clear hn
              have hS1 : SliceIs h5 2 encII (.slice (some ⟨b7, 0, none⟩) 1 1) [(id, D)] := (OwnIs.lit (base := 0) (E := 39) (l := [(id, D)]) hb7 (Nat.zero_le _) (by simp [maxLen]) (by simp [encII]) rfl).slice
              refine HA.one (k := 16) ⟨⟨hL, hO⟩, (at_cons (.inr hX) (Go.HL.at_nil _ _))⟩ (by kernel_rfl) ?_
              refine HS.eff rfl (want_none) rfl (e_append te_40 hN hS1 rfl rfl rfl (by intro a _ u hu; simp [encII] at hu; first | (subst hu; rfl) | (rcases hu with rfl | rfl <;> rfl) | (rcases hu with rfl | rfl | rfl <;> rfl) | (rcases hu with rfl | rfl | rfl | rfl <;> rfl) | (rcases hu with rfl | rfl | rfl | rfl | rfl <;> rfl) | (rcases hu with rfl | rfl | rfl | rfl | rfl | rfl <;> rfl)) (by simp only [List.length_append, List.length_cons, List.length_nil, List.length_take, List.length_drop]; omega) (by simp only [List.length_append, List.length_cons, List.length_nil, List.length_take, List.length_drop]; omega) (by omega)) ?_
              rintro v8 h6 ⟨hO', hg⟩
              have haphL := hg.apart (fun y hy => hL.lt hy) hap2
              replace hX := hX.grown hg (hN.ne_lt (by omega))
              replace hL := hL.grown hg (fun y hy => hN.ne_lt (Nat.lt_of_lt_of_le (hvlt y hy) (by omega)))
              replace hO := hO.grown hg (fun y hy => .inl (Nat.le_trans (by omega) (hN.ge hy)))
              replace hS1 := hS1.grown hg (by intro y hy; rw [← Option.some.inj (show some b7 = some y from hy)]; exact hnehN_b7)
              replace hnehN_b7 := hg.ne hnehN_b7 (by omega)
              have hap3 := haphL
              replace hN := hO'
              have hgs := hg.size; clear hg
              refine HA.one (k := 23) ⟨⟨hL, hO⟩, (at_cons (.inr hX) (Go.HL.at_nil _ _))⟩ (by kernel_rfl) ?_
              refine HS.eff rfl (want_none) rfl (e_append te_40 hN (hL.slice.cutL j (by omega)) rfl rfl rfl (by intro a _ u hu; simp [encII] at hu; first | (subst hu; rfl) | (rcases hu with rfl | rfl <;> rfl) | (rcases hu with rfl | rfl | rfl <;> rfl) | (rcases hu with rfl | rfl | rfl | rfl <;> rfl) | (rcases hu with rfl | rfl | rfl | rfl | rfl <;> rfl) | (rcases hu with rfl | rfl | rfl | rfl | rfl | rfl <;> rfl)) (by simp only [List.length_append, List.length_cons, List.length_nil, List.length_take, List.length_drop]; omega) (by simp only [List.length_append, List.length_cons, List.length_nil, List.length_take, List.length_drop]; omega) (by omega)) ?_
              rintro v9 h7 ⟨hO', hg⟩
              have haphL := hg.apart (fun y hy => hL.lt hy) hap3
              replace hX := hX.grown hg (hN.ne_lt (by omega))
              replace hL := hL.grown hg (fun y hy => hN.ne_lt (Nat.lt_of_lt_of_le (hvlt y hy) (by omega)))
              replace hO := hO.grown hg (fun y hy => .inl (Nat.le_trans (by omega) (hN.ge hy)))
              replace hS1 := hS1.grown hg (by intro y hy; rw [← Option.some.inj (show some b7 = some y from hy)]; exact hnehN_b7)
              replace hnehN_b7 := hg.ne hnehN_b7 (by omega)
              have hap4 := haphL
              replace hN := hO'
              have hgs := hg.size; clear hg
              refine HA.val (k := 24) (v := .pointer (some ⟨x, 0, none⟩)) rfl rfl (by kernel_rfl) (by kernel_rfl) (want_none) rfl (fun _ ⟨hL, hO⟩ => q_nilCheck rfl) ?_
              refine HA.val (k := 25) (v := .pointer (some ⟨x, 2, none⟩)) rfl rfl (by kernel_rfl) (by kernel_rfl) (want_none) rfl (fun _ ⟨hL, hO⟩ => q_fieldAddr fa_42_2 rfl rfl) ?_
              refine HA.one (k := 26) ⟨⟨hL, hO⟩, (at_cons (.inr hX) (Go.HL.at_nil _ _))⟩ (by kernel_rfl) ?_
              refine HS.sto rfl (want_none) rfl (s_store (c' := #[.int .i64 D, .int .i64 b, v9]) to_40 hX rfl rfl hN.slice.shp.cells hN.slice.shp.one (Nat.le_of_ble_eq_true rfl) rfl) ?_
              rintro h8 hu
              replace hL := hL.upd hu (hL.ne_lt (by omega))
              replace hO := hO.upd hu
              replace hS1 := hS1.upd hu (by intro e; have := Option.some.inj (show some b7 = some x from e); omega)
              replace hN := hN.upd hu (hN.ne_lt (by omega))
              replace hX : Blk h8 x (.cells #[.int .i64 D, .int .i64 b, v9] 42 (0, 0)) := hu.blk rfl
              have hus := hu.size; clear hu
              refine HA.nil ⟨⟨hL, hO⟩, (at_cons (.inl (by kernel_rfl)) (Go.HL.at_nil _ _))⟩ (by kernel_rfl) (thenQ_normal (?_))
              refine HW.seq ?_
              refine HW.region ?_
              refine HO.val (v := .bool true) (want_none) rfl (q_assign rfl) ?_
              refine HO.nil (thenQ_normal (?_))
              refine HW.ret (?_)
              refine ⟨.inr rfl, .bool true, res_one rfl rfl, ?_⟩
              refine ⟨by rw [hnn]; rfl, _, ⟨hX, ?_, hxb, by omega⟩, hO⟩
              have hat : insAt L id = j := insAt_eq (by omega) hz (fun h => by first | exact hend h | (exfalso; omega))
              have e : wput L id D = L.take j ++ [(id, D)] ++ L.drop j := by unfold wput; rw [if_neg (by rw [hnn]; simp), hat]
              rw [e]; have hN2 := hN.mono (show base ≤ _ by omega); simpa using hN2
            · refine HS.eff rfl (want_none) rfl (e_lit (cells := #[.int .i64 id, .int .i64 D]) #[.int .i64 0, .int .i64 0] tl_40 (by decide) (by decide) (by kernel_rfl) rfl) ?_
              rintro _ h9 ⟨b10, rfl, hn⟩
              have hnehL_b10 := hL.ne_ge (Nat.le_of_eq hn.at_.symm)
              have hnehN_b10 := hN.ne_ge (Nat.le_of_eq hn.at_.symm)
              replace hX := hX.ext hn.ext
              replace hL := hL.ext hn.ext
              replace hO := hO.ext hn.ext
              replace hN := hN.ext hn.ext
              have hb10 : Blk h9 b10 (.cells #[.int .i64 id, .int .i64 D] 39 (0, 0)) := hn.blk
              have hb10a := hn.at_; have hb10s := hn.size; clear hn
              have hS1 : SliceIs h9 2 encII (.slice (some ⟨b10, 0, none⟩) 1 1) [(id, D)] := (OwnIs.lit (base := 0) (E := 39) (l := [(id, D)]) hb10 (Nat.zero_le _) (by simp [maxLen]) (by simp [encII]) rfl).slice
              refine HA.one (k := 8) ⟨⟨hL, hO⟩, (at_cons (.inr hX) (Go.HL.at_nil _ _))⟩ (by kernel_rfl) ?_
              refine HS.eff rfl (want_none) rfl (e_append te_40 hN (hL.slice.cutH j (by omega)) rfl rfl rfl (by intro a _ u hu; simp [encII] at hu; first | (subst hu; rfl) | (rcases hu with rfl | rfl <;> rfl) | (rcases hu with rfl | rfl | rfl <;> rfl) | (rcases hu with rfl | rfl | rfl | rfl <;> rfl) | (rcases hu with rfl | rfl | rfl | rfl | rfl <;> rfl) | (rcases hu with rfl | rfl | rfl | rfl | rfl | rfl <;> rfl)) (by simp only [List.length_append, List.length_cons, List.length_nil, List.length_take, List.length_drop]; omega) (by simp only [List.length_append, List.length_cons, List.length_nil, List.length_take, List.length_drop]; omega) (by omega)) ?_
              rintro v11 h10 ⟨hO', hg⟩
              have haphL := hg.apart (fun y hy => hL.lt hy) (fun y p q => hap1 y q p)
              replace hX := hX.grown hg (hN.ne_lt (by omega))
              replace hL := hL.grown hg (fun y hy => hN.ne_lt (Nat.lt_of_lt_of_le (hvlt y hy) (by omega)))
              replace hO := hO.grown hg (fun y hy => .inl (Nat.le_trans (by omega) (hN.ge hy)))
              replace hS1 := hS1.grown hg (by intro y hy; rw [← Option.some.inj (show some b10 = some y from hy)]; exact hnehN_b10)
              replace hnehN_b10 := hg.ne hnehN_b10 (by omega)
              have hap5 := haphL
              replace hN := hO'
              have hgs := hg.size; clear hg
              refine HA.one (k := 16) ⟨⟨hL, hO⟩, (at_cons (.inr hX) (Go.HL.at_nil _ _))⟩ (by kernel_rfl) ?_
              refine HS.eff rfl (want_none) rfl (e_append te_40 hN hS1 rfl rfl rfl (by intro a _ u hu; simp [encII] at hu; first | (subst hu; rfl) | (rcases hu with rfl | rfl <;> rfl) | (rcases hu with rfl | rfl | rfl <;> rfl) | (rcases hu with rfl | rfl | rfl | rfl <;> rfl) | (rcases hu with rfl | rfl | rfl | rfl | rfl <;> rfl) | (rcases hu with rfl | rfl | rfl | rfl | rfl | rfl <;> rfl)) (by simp only [List.length_append, List.length_cons, List.length_nil, List.length_take, List.length_drop]; omega) (by simp only [List.length_append, List.length_cons, List.length_nil, List.length_take, List.length_drop]; omega) (by omega)) ?_
              rintro v12 h11 ⟨hO', hg⟩
              have haphL := hg.apart (fun y hy => hL.lt hy) hap5
              replace hX := hX.grown hg (hN.ne_lt (by omega))
              replace hL := hL.grown hg (fun y hy => hN.ne_lt (Nat.lt_of_lt_of_le (hvlt y hy) (by omega)))
              replace hO := hO.grown hg (fun y hy => .inl (Nat.le_trans (by omega) (hN.ge hy)))
              replace hS1 := hS1.grown hg (by intro y hy; rw [← Option.some.inj (show some b10 = some y from hy)]; exact hnehN_b10)
              replace hnehN_b10 := hg.ne hnehN_b10 (by omega)
              have hap6 := haphL
              replace hN := hO'
              have hgs := hg.size; clear hg
              refine HA.one (k := 23) ⟨⟨hL, hO⟩, (at_cons (.inr hX) (Go.HL.at_nil _ _))⟩ (by kernel_rfl) ?_
              refine HS.eff rfl (want_none) rfl (e_append te_40 hN (hL.slice.cutL j (by omega)) rfl rfl rfl (by intro a _ u hu; simp [encII] at hu; first | (subst hu; rfl) | (rcases hu with rfl | rfl <;> rfl) | (rcases hu with rfl | rfl | rfl <;> rfl) | (rcases hu with rfl | rfl | rfl | rfl <;> rfl) | (rcases hu with rfl | rfl | rfl | rfl | rfl <;> rfl) | (rcases hu with rfl | rfl | rfl | rfl | rfl | rfl <;> rfl)) (by simp only [List.length_append, List.length_cons, List.length_nil, List.length_take, List.length_drop]; omega) (by simp only [List.length_append, List.length_cons, List.length_nil, List.length_take, List.length_drop]; omega) (by omega)) ?_
              rintro v13 h12 ⟨hO', hg⟩
              have haphL := hg.apart (fun y hy => hL.lt hy) hap6
              replace hX := hX.grown hg (hN.ne_lt (by omega))
              replace hL := hL.grown hg (fun y hy => hN.ne_lt (Nat.lt_of_lt_of_le (hvlt y hy) (by omega)))
              replace hO := hO.grown hg (fun y hy => .inl (Nat.le_trans (by omega) (hN.ge hy)))
              replace hS1 := hS1.grown hg (by intro y hy; rw [← Option.some.inj (show some b10 = some y from hy)]; exact hnehN_b10)
              replace hnehN_b10 := hg.ne hnehN_b10 (by omega)
              have hap7 := haphL
              replace hN := hO'
              have hgs := hg.size; clear hg
              refine HA.val (k := 24) (v := .pointer (some ⟨x, 0, none⟩)) rfl rfl (by kernel_rfl) (by kernel_rfl) (want_none) rfl (fun _ ⟨hL, hO⟩ => q_nilCheck rfl) ?_
              refine HA.val (k := 25) (v := .pointer (some ⟨x, 2, none⟩)) rfl rfl (by kernel_rfl) (by kernel_rfl) (want_none) rfl (fun _ ⟨hL, hO⟩ => q_fieldAddr fa_42_2 rfl rfl) ?_
              refine HA.one (k := 26) ⟨⟨hL, hO⟩, (at_cons (.inr hX) (Go.HL.at_nil _ _))⟩ (by kernel_rfl) ?_
              refine HS.sto rfl (want_none) rfl (s_store (c' := #[.int .i64 D, .int .i64 b, v13]) to_40 hX rfl rfl hN.slice.shp.cells hN.slice.shp.one (Nat.le_of_ble_eq_true rfl) rfl) ?_
              rintro h13 hu
              replace hL := hL.upd hu (hL.ne_lt (by omega))
              replace hO := hO.upd hu
              replace hS1 := hS1.upd hu (by intro e; have := Option.some.inj (show some b10 = some x from e); omega)
              replace hN := hN.upd hu (hN.ne_lt (by omega))
              replace hX : Blk h13 x (.cells #[.int .i64 D, .int .i64 b, v13] 42 (0, 0)) := hu.blk rfl
              have hus := hu.size; clear hu
              refine HA.nil ⟨⟨hL, hO⟩, (at_cons (.inl (by kernel_rfl)) (Go.HL.at_nil _ _))⟩ (by kernel_rfl) (thenQ_normal (?_))
              refine HW.seq ?_
              refine HW.region ?_
              refine HO.val (v := .bool true) (want_none) rfl (q_assign rfl) ?_
              refine HO.nil (thenQ_normal (?_))
              refine HW.ret (?_)
              refine ⟨.inr rfl, .bool true, res_one rfl rfl, ?_⟩
              refine ⟨by rw [hnn]; rfl, _, ⟨hX, ?_, hxb, by omega⟩, hO⟩
              have hat : insAt L id = j := insAt_eq (by omega) hz (fun h => by first | exact hend h | (exfalso; omega))
              have e : wput L id D = L.take j ++ [(id, D)] ++ L.drop j := by unfold wput; rw [if_neg (by rw [hnn]; simp), hat]
              rw [e]; have hN2 := hN.mono (show base ≤ _ by omega); simpa using hN2
          · refine HS.eff rfl (want_none) rfl (e_lit (cells := #[.int .i64 id, .int .i64 D]) #[.int .i64 0, .int .i64 0] tl_40 (by decide) (by decide) (by kernel_rfl) rfl) ?_
            rintro _ h14 ⟨b14, rfl, hn⟩
            have hnehL_b14 := hL.ne_ge (Nat.le_of_eq hn.at_.symm)
            replace hX := hX.ext hn.ext
            replace hL := hL.ext hn.ext
            replace hO := hO.ext hn.ext
            have hb14 : Blk h14 b14 (.cells #[.int .i64 id, .int .i64 D] 39 (0, 0)) := hn.blk
            have hb14a := hn.at_; have hb14s := hn.size; clear hn
            have hS1 : SliceIs h14 2 encII (.slice (some ⟨b14, 0, none⟩) 1 1) [(id, D)] := (OwnIs.lit (base := 0) (E := 39) (l := [(id, D)]) hb14 (Nat.zero_le _) (by simp [maxLen]) (by simp [encII]) rfl).slice
            refine HA.one (k := 1) ⟨⟨hL, hO⟩, (at_cons (.inr hX) (Go.HL.at_nil _ _))⟩ (by kernel_rfl) ?_
            refine HS.eff rfl (want_none) rfl (e_litEmpty tl_40) ?_
            rintro _ h15 ⟨b15, rfl, hn⟩
            have hnehL_b15 := hL.ne_ge (Nat.le_of_eq hn.at_.symm)
            replace hX := hX.ext hn.ext
            replace hL := hL.ext hn.ext
            replace hO := hO.ext hn.ext
            replace hS1 := hS1.ext hn.ext
            have hb15 : Blk h15 b15 (.cells #[] 39 (0, 0)) := hn.blk
            have hb15a := hn.at_; have hb15s := hn.size; clear hn
            have hN : OwnIs h15 b15 39 2 encII (.slice (some ⟨b15, 0, none⟩) 0 0) ([] : List (Int × Int)) := OwnIs.lit (l := ([] : List (Int × Int))) hb15 (Nat.le_refl _) (by simp [maxLen]) (by simp) rfl
            have hap8 : ∀ y, blockOf (.slice (some ⟨b15, 0, none⟩) 0 0) = some y → blockOf v ≠ some y := by intro y hy; rw [← Option.some.inj (show some b15 = some y from hy)]; exact hnehL_b15
            refine HA.one (k := 8) ⟨⟨hL, hO⟩, (at_cons (.inr hX) (Go.HL.at_nil _ _))⟩ (by kernel_rfl) ?_
            refine HS.eff rfl (want_none) rfl (e_append te_40 hN (hL.slice.cutH j (by omega)) rfl rfl rfl (by intro a _ u hu; simp [encII] at hu; first | (subst hu; rfl) | (rcases hu with rfl | rfl <;> rfl) | (rcases hu with rfl | rfl | rfl <;> rfl) | (rcases hu with rfl | rfl | rfl | rfl <;> rfl) | (rcases hu with rfl | rfl | rfl | rfl | rfl <;> rfl) | (rcases hu with rfl | rfl | rfl | rfl | rfl | rfl <;> rfl)) (by simp only [List.length_append, List.length_cons, List.length_nil, List.length_take, List.length_drop]; omega) (by simp only [List.length_append, List.length_cons, List.length_nil, List.length_take, List.length_drop]; omega) (by omega)) ?_
            rintro v16 h16 ⟨hO', hg⟩
            have haphL := hg.apart (fun y hy => hL.lt hy) (fun y p q => hap8 y q p)
            replace hX := hX.grown hg (hN.ne_lt (by omega))
            replace hL := hL.grown hg (fun y hy => hN.ne_lt (Nat.lt_of_lt_of_le (hvlt y hy) (by omega)))
            replace hO := hO.grown hg (fun y hy => .inl (Nat.le_trans (by omega) (hN.ge hy)))
            replace hS1 := hS1.grown hg (by intro y hy; rw [← Option.some.inj (show some b14 = some y from hy)]; exact (hN.ne_lt (by omega)))
            have hap9 := haphL
            replace hN := hO'
            have hgs := hg.size; clear hg
            refine HA.one (k := 16) ⟨⟨hL, hO⟩, (at_cons (.inr hX) (Go.HL.at_nil _ _))⟩ (by kernel_rfl) ?_
            refine HS.eff rfl (want_none) rfl (e_append te_40 hN hS1 rfl rfl rfl (by intro a _ u hu; simp [encII] at hu; first | (subst hu; rfl) | (rcases hu with rfl | rfl <;> rfl) | (rcases hu with rfl | rfl | rfl <;> rfl) | (rcases hu with rfl | rfl | rfl | rfl <;> rfl) | (rcases hu with rfl | rfl | rfl | rfl | rfl <;> rfl) | (rcases hu with rfl | rfl | rfl | rfl | rfl | rfl <;> rfl)) (by simp only [List.length_append, List.length_cons, List.length_nil, List.length_take, List.length_drop]; omega) (by simp only [List.length_append, List.length_cons, List.length_nil, List.length_take, List.length_drop]; omega) (by omega)) ?_
            rintro v17 h17 ⟨hO', hg⟩
            have haphL := hg.apart (fun y hy => hL.lt hy) hap9
            replace hX := hX.grown hg (hN.ne_lt (by omega))
            replace hL := hL.grown hg (fun y hy => hN.ne_lt (Nat.lt_of_lt_of_le (hvlt y hy) (by omega)))
            replace hO := hO.grown hg (fun y hy => .inl (Nat.le_trans (by omega) (hN.ge hy)))
            replace hS1 := hS1.grown hg (by intro y hy; rw [← Option.some.inj (show some b14 = some y from hy)]; exact (hN.ne_lt (by omega)))
            have hap10 := haphL
            replace hN := hO'
            have hgs := hg.size; clear hg
            refine HA.one (k := 23) ⟨⟨hL, hO⟩, (at_cons (.inr hX) (Go.HL.at_nil _ _))⟩ (by kernel_rfl) ?_
            refine HS.eff rfl (want_none) rfl (e_append te_40 hN (hL.slice.cutL j (by omega)) rfl rfl rfl (by intro a _ u hu; simp [encII] at hu; first | (subst hu; rfl) | (rcases hu with rfl | rfl <;> rfl) | (rcases hu with rfl | rfl | rfl <;> rfl) | (rcases hu with rfl | rfl | rfl | rfl <;> rfl) | (rcases hu with rfl | rfl | rfl | rfl | rfl <;> rfl) | (rcases hu with rfl | rfl | rfl | rfl | rfl | rfl <;> rfl)) (by simp only [List.length_append, List.length_cons, List.length_nil, List.length_take, List.length_drop]; omega) (by simp only [List.length_append, List.length_cons, List.length_nil, List.length_take, List.length_drop]; omega) (by omega)) ?_
            rintro v18 h18 ⟨hO', hg⟩
            have haphL := hg.apart (fun y hy => hL.lt hy) hap10
            replace hX := hX.grown hg (hN.ne_lt (by omega))
            replace hL := hL.grown hg (fun y hy => hN.ne_lt (Nat.lt_of_lt_of_le (hvlt y hy) (by omega)))
            replace hO := hO.grown hg (fun y hy => .inl (Nat.le_trans (by omega) (hN.ge hy)))
            replace hS1 := hS1.grown hg (by intro y hy; rw [← Option.some.inj (show some b14 = some y from hy)]; exact (hN.ne_lt (by omega)))
            have hap11 := haphL
            replace hN := hO'
            have hgs := hg.size; clear hg
            refine HA.val (k := 24) (v := .pointer (some ⟨x, 0, none⟩)) rfl rfl (by kernel_rfl) (by kernel_rfl) (want_none) rfl (fun _ ⟨hL, hO⟩ => q_nilCheck rfl) ?_
            refine HA.val (k := 25) (v := .pointer (some ⟨x, 2, none⟩)) rfl rfl (by kernel_rfl) (by kernel_rfl) (want_none) rfl (fun _ ⟨hL, hO⟩ => q_fieldAddr fa_42_2 rfl rfl) ?_
            refine HA.one (k := 26) ⟨⟨hL, hO⟩, (at_cons (.inr hX) (Go.HL.at_nil _ _))⟩ (by kernel_rfl) ?_
            refine HS.sto rfl (want_none) rfl (s_store (c' := #[.int .i64 D, .int .i64 b, v18]) to_40 hX rfl rfl hN.slice.shp.cells hN.slice.shp.one (Nat.le_of_ble_eq_true rfl) rfl) ?_
            rintro h19 hu
            replace hL := hL.upd hu (hL.ne_lt (by omega))
            replace hO := hO.upd hu
            replace hS1 := hS1.upd hu (by intro e; have := Option.some.inj (show some b14 = some x from e); omega)
            replace hN := hN.upd hu (hN.ne_lt (by omega))
            replace hX : Blk h19 x (.cells #[.int .i64 D, .int .i64 b, v18] 42 (0, 0)) := hu.blk rfl
            have hus := hu.size; clear hu
            refine HA.nil ⟨⟨hL, hO⟩, (at_cons (.inl (by kernel_rfl)) (Go.HL.at_nil _ _))⟩ (by kernel_rfl) (thenQ_normal (?_))
            refine HW.seq ?_
            refine HW.region ?_
            refine HO.val (v := .bool true) (want_none) rfl (q_assign rfl) ?_
            refine HO.nil (thenQ_normal (?_))
            refine HW.ret (?_)
            refine ⟨.inr rfl, .bool true, res_one rfl rfl, ?_⟩
            refine ⟨by rw [hnn]; rfl, _, ⟨hX, ?_, hxb, by omega⟩, hO⟩
            have hat : insAt L id = j := insAt_eq (by omega) hz (fun h => by first | exact hend h | (exfalso; omega))
            have e : wput L id D = L.take j ++ [(id, D)] ++ L.drop j := by unfold wput; rw [if_neg (by rw [hnn]; simp), hat]
            rw [e]; have hN2 := hN.mono (show base ≤ _ by omega); simpa using hN2
      · have g3p := of_decide_eq_false g3
        refine HO.past (past_by rfl rfl g3) rfl ?_
        refine HO.past (past_by rfl rfl g3) rfl ?_
        refine HO.past (past_by rfl rfl g3) rfl ?_
        refine HO.past (past_by rfl rfl g3) rfl ?_
        refine HO.past (past_by rfl rfl g3) rfl ?_
        refine HO.past (past_by rfl rfl g3) rfl ?_
        refine HO.past (past_by rfl rfl g3) rfl ?_
        refine HO.past (past_by rfl rfl g3) rfl ?_
        refine HO.past (past_by rfl rfl g3) rfl ?_
        refine HO.past (past_by rfl rfl g3) rfl ?_
        refine HO.val (v := .bool false) (want_none) rfl (q_pickK false rfl g3 rfl) ?_
        refine HO.nil (thenQ_normal (?_))
        refine HW.condF rfl ?_
        refine HW.exit (thenQ_exit (thenQ_exit (blockQ_exit (thenQ_normal (?_)))))
        refine HW.seq ?_
        refine HW.regionA 27 mixed (fun h => (OwnIs h base 39 2 encII v L) ∧ (OnlyX x v h0 h)) [(26, fun h => (Blk h x (.cells #[.int .i64 D, .int .i64 b, v] 42 (0, 0))))] (by kernel_rfl) ?_
        refine HA.val (k := 0) (v := .pointer (some ⟨x, 0, none⟩)) rfl rfl (by kernel_rfl) (by kernel_rfl) (want_none) rfl (fun _ ⟨hL, hO⟩ => q_move rfl) ?_
        refine HA.val (k := 2) (v := .pointer (some ⟨x, 0, none⟩)) rfl rfl (by kernel_rfl) (by kernel_rfl) (want_none) rfl (fun _ ⟨hL, hO⟩ => q_move rfl) ?_
        refine HA.val (k := 3) (v := .pointer (some ⟨x, 0, none⟩)) rfl rfl (by kernel_rfl) (by kernel_rfl) (want_none) rfl (fun _ ⟨hL, hO⟩ => q_nilCheck rfl) ?_
        refine HA.val (k := 4) (v := .pointer (some ⟨x, 2, none⟩)) rfl rfl (by kernel_rfl) (by kernel_rfl) (want_none) rfl (fun _ ⟨hL, hO⟩ => q_fieldAddr fa_42_2 rfl rfl) ?_
        refine HA.valN (k := 5) (v := v) 26 (fun h => (Blk h x (.cells #[.int .i64 D, .int .i64 b, v] 42 (0, 0)))) rfl rfl (by kernel_rfl) (by kernel_rfl) (want_none) rfl (by simp) (by kernel_rfl) (fun _ ⟨hL, hO⟩ hX => q_load to_40 rfl (Blk.cell hX rfl)) ?_
        refine HA.val (k := 6) (v := .int .i64 ((j : Nat) : Int)) rfl rfl (by kernel_rfl) (by kernel_rfl) (want_none) rfl (fun _ ⟨hL, hO⟩ => q_move rfl) ?_
        refine HA.val (k := 7) (v := cutV 2 v 0 j) rfl rfl (by kernel_rfl) (by kernel_rfl) (want_none) rfl (fun _ ⟨hL, hO⟩ => q_sliceH (hi := j) ts_40 hL.slice rfl rfl (by omega)) ?_
        refine HA.val (k := 9) (v := .int .i64 id) rfl rfl (by kernel_rfl) (by kernel_rfl) (want_none) rfl (fun _ ⟨hL, hO⟩ => q_move rfl) ?_
        refine HA.val (k := 10) (v := .pointer (some ⟨x, 0, none⟩)) rfl rfl (by kernel_rfl) (by kernel_rfl) (want_none) rfl (fun _ ⟨hL, hO⟩ => q_move rfl) ?_
        refine HA.val (k := 11) (v := .pointer (some ⟨x, 0, none⟩)) rfl rfl (by kernel_rfl) (by kernel_rfl) (want_none) rfl (fun _ ⟨hL, hO⟩ => q_nilCheck rfl) ?_
        refine HA.val (k := 12) (v := .pointer (some ⟨x, 0, none⟩)) rfl rfl (by kernel_rfl) (by kernel_rfl) (want_none) rfl (fun _ ⟨hL, hO⟩ => q_fieldAddr fa_42_0 rfl rfl) ?_
        refine HA.valN (k := 13) (v := .int .i64 D) 26 (fun h => (Blk h x (.cells #[.int .i64 D, .int .i64 b, v] 42 (0, 0)))) rfl rfl (by kernel_rfl) (by kernel_rfl) (want_none) rfl (by simp) (by kernel_rfl) (fun _ ⟨hL, hO⟩ hX => q_load to_3 rfl (Blk.cell hX rfl)) ?_
        refine HA.val (k := 14) (v := .agg #[.int .i64 id, .int .i64 D]) rfl rfl (by kernel_rfl) (by kernel_rfl) (want_none) rfl (fun _ ⟨hL, hO⟩ => q_build tp_39 rfl) ?_
        refine HA.val (k := 17) (v := .pointer (some ⟨x, 0, none⟩)) rfl rfl (by kernel_rfl) (by kernel_rfl) (want_none) rfl (fun _ ⟨hL, hO⟩ => q_move rfl) ?_
        refine HA.val (k := 18) (v := .pointer (some ⟨x, 0, none⟩)) rfl rfl (by kernel_rfl) (by kernel_rfl) (want_none) rfl (fun _ ⟨hL, hO⟩ => q_nilCheck rfl) ?_
        refine HA.val (k := 19) (v := .pointer (some ⟨x, 2, none⟩)) rfl rfl (by kernel_rfl) (by kernel_rfl) (want_none) rfl (fun _ ⟨hL, hO⟩ => q_fieldAddr fa_42_2 rfl rfl) ?_
        refine HA.valN (k := 20) (v := v) 26 (fun h => (Blk h x (.cells #[.int .i64 D, .int .i64 b, v] 42 (0, 0)))) rfl rfl (by kernel_rfl) (by kernel_rfl) (want_none) rfl (by simp) (by kernel_rfl) (fun _ ⟨hL, hO⟩ hX => q_load to_40 rfl (Blk.cell hX rfl)) ?_
        refine HA.val (k := 21) (v := .int .i64 ((j : Nat) : Int)) rfl rfl (by kernel_rfl) (by kernel_rfl) (want_none) rfl (fun _ ⟨hL, hO⟩ => q_move rfl) ?_
        refine HA.val (k := 22) (v := cutV 2 v j L.length) rfl rfl (by kernel_rfl) (by kernel_rfl) (want_none) rfl (fun _ ⟨hL, hO⟩ => q_sliceL (lo := j) ts_40 hL.slice rfl rfl (by omega)) ?_
        refine HA.two (k := 1) (k' := 15) ⟨⟨hL, hO⟩, (at_cons (.inr hX) (Go.HL.at_nil _ _))⟩ (by kernel_rfl) ?_ ?_
        · refine HS.eff rfl (want_none) rfl (e_litEmpty tl_40) ?_
          rintro _ h20 ⟨b19, rfl, hn⟩
          have hnehL_b19 := hL.ne_ge (Nat.le_of_eq hn.at_.symm)
          replace hX := hX.ext hn.ext
          replace hL := hL.ext hn.ext
          replace hO := hO.ext hn.ext
          have hb19 : Blk h20 b19 (.cells #[] 39 (0, 0)) := hn.blk
          have hb19a := hn.at_; have hb19s := hn.size; clear hn
          have hN : OwnIs h20 b19 39 2 encII (.slice (some ⟨b19, 0, none⟩) 0 0) ([] : List (Int × Int)) := OwnIs.lit (l := ([] : List (Int × Int))) hb19 (Nat.le_refl _) (by simp [maxLen]) (by simp) rfl
          have hap12 : ∀ y, blockOf (.slice (some ⟨b19, 0, none⟩) 0 0) = some y → blockOf v ≠ some y := by intro y hy; rw [← Option.some.inj (show some b19 = some y from hy)]; exact hnehL_b19
          refine HA.two (k := 8) (k' := 15) ⟨⟨hL, hO⟩, (at_cons (.inr hX) (Go.HL.at_nil _ _))⟩ (by kernel_rfl) ?_ ?_
          · refine HS.eff rfl (want_none) rfl (e_append te_40 hN (hL.slice.cutH j (by omega)) rfl rfl rfl (by intro a _ u hu; simp [encII] at hu; first | (subst hu; rfl) | (rcases hu with rfl | rfl <;> rfl) | (rcases hu with rfl | rfl | rfl <;> rfl) | (rcases hu with rfl | rfl | rfl | rfl <;> rfl) | (rcases hu with rfl | rfl | rfl | rfl | rfl <;> rfl) | (rcases hu with rfl | rfl | rfl | rfl | rfl | rfl <;> rfl)) (by simp only [List.length_append, List.length_cons, List.length_nil, List.length_take, List.length_drop]; omega) (by simp only [List.length_append, List.length_cons, List.length_nil, List.length_take, List.length_drop]; omega) (by omega)) ?_
            rintro v20 h21 ⟨hO', hg⟩
            have haphL := hg.apart (fun y hy => hL.lt hy) (fun y p q => hap12 y q p)
            replace hX := hX.grown hg (hN.ne_lt (by omega))
            replace hL := hL.grown hg (fun y hy => hN.ne_lt (Nat.lt_of_lt_of_le (hvlt y hy) (by omega)))
            replace hO := hO.grown hg (fun y hy => .inl (Nat.le_trans (by omega) (hN.ge hy)))
            have hap13 := haphL
            replace hN := hO'
            have hgs := hg.size; clear hg
            refine HA.one (k := 15) ⟨⟨hL, hO⟩, (at_cons (.inr hX) (Go.HL.at_nil _ _))⟩ (by kernel_rfl) ?_
            refine HS.eff rfl (want_none) rfl (e_lit (cells := #[.int .i64 id, .int .i64 D]) #[.int .i64 0, .int .i64 0] tl_40 (by decide) (by decide) (by kernel_rfl) rfl) ?_
            rintro _ h22 ⟨b21, rfl, hn⟩
            have hnehL_b21 := hL.ne_ge (Nat.le_of_eq hn.at_.symm)
            have hnehN_b21 := hN.ne_ge (Nat.le_of_eq hn.at_.symm)
            replace hX := hX.ext hn.ext
            replace hL := hL.ext hn.ext
            replace hO := hO.ext hn.ext
            replace hN := hN.ext hn.ext
            have hb21 : Blk h22 b21 (.cells #[.int .i64 id, .int .i64 D] 39 (0, 0)) := hn.blk
            have hb21a := hn.at_; have hb21s := hn.size; clear hn
            have hS1 : SliceIs h22 2 encII (.slice (some ⟨b21, 0, none⟩) 1 1) [(id, D)] := (OwnIs.lit (base := 0) (E := 39) (l := [(id, D)]) hb21 (Nat.zero_le _) (by simp [maxLen]) (by simp [encII]) rfl).slice
            refine HA.one (k := 16) ⟨⟨hL, hO⟩, (at_cons (.inr hX) (Go.HL.at_nil _ _))⟩ (by kernel_rfl) ?_
            refine HS.eff rfl (want_none) rfl (e_append te_40 hN hS1 rfl rfl rfl (by intro a _ u hu; simp [encII] at hu; first | (subst hu; rfl) | (rcases hu with rfl | rfl <;> rfl) | (rcases hu with rfl | rfl | rfl <;> rfl) | (rcases hu with rfl | rfl | rfl | rfl <;> rfl) | (rcases hu with rfl | rfl | rfl | rfl | rfl <;> rfl) | (rcases hu with rfl | rfl | rfl | rfl | rfl | rfl <;> rfl)) (by simp only [List.length_append, List.length_cons, List.length_nil, List.length_take, List.length_drop]; omega) (by simp only [List.length_append, List.length_cons, List.length_nil, List.length_take, List.length_drop]; omega) (by omega)) ?_
            rintro v22 h23 ⟨hO', hg⟩
            have haphL := hg.apart (fun y hy => hL.lt hy) hap13
            replace hX := hX.grown hg (hN.ne_lt (by omega))
            replace hL := hL.grown hg (fun y hy => hN.ne_lt (Nat.lt_of_lt_of_le (hvlt y hy) (by omega)))
            replace hO := hO.grown hg (fun y hy => .inl (Nat.le_trans (by omega) (hN.ge hy)))
            replace hS1 := hS1.grown hg (by intro y hy; rw [← Option.some.inj (show some b21 = some y from hy)]; exact hnehN_b21)
            replace hnehN_b21 := hg.ne hnehN_b21 (by omega)
            have hap14 := haphL
            replace hN := hO'
            have hgs := hg.size; clear hg
            refine HA.one (k := 23) ⟨⟨hL, hO⟩, (at_cons (.inr hX) (Go.HL.at_nil _ _))⟩ (by kernel_rfl) ?_
            refine HS.eff rfl (want_none) rfl (e_append te_40 hN (hL.slice.cutL j (by omega)) rfl rfl rfl (by intro a _ u hu; simp [encII] at hu; first | (subst hu; rfl) | (rcases hu with rfl | rfl <;> rfl) | (rcases hu with rfl | rfl | rfl <;> rfl) | (rcases hu with rfl | rfl | rfl | rfl <;> rfl) | (rcases hu with rfl | rfl | rfl | rfl | rfl <;> rfl) | (rcases hu with rfl | rfl | rfl | rfl | rfl | rfl <;> rfl)) (by simp only [List.length_append, List.length_cons, List.length_nil, List.length_take, List.length_drop]; omega) (by simp only [List.length_append, List.length_cons, List.length_nil, List.length_take, List.length_drop]; omega) (by omega)) ?_
            rintro v23 h24 ⟨hO', hg⟩
            have haphL := hg.apart (fun y hy => hL.lt hy) hap14
            replace hX := hX.grown hg (hN.ne_lt (by omega))
            replace hL := hL.grown hg (fun y hy => hN.ne_lt (Nat.lt_of_lt_of_le (hvlt y hy) (by omega)))
            replace hO := hO.grown hg (fun y hy => .inl (Nat.le_trans (by omega) (hN.ge hy)))
            replace hS1 := hS1.grown hg (by intro y hy; rw [← Option.some.inj (show some b21 = some y from hy)]; exact hnehN_b21)
            replace hnehN_b21 := hg.ne hnehN_b21 (by omega)
            have hap15 := haphL
            replace hN := hO'
            have hgs := hg.size; clear hg
            refine HA.val (k := 24) (v := .pointer (some ⟨x, 0, none⟩)) rfl rfl (by kernel_rfl) (by kernel_rfl) (want_none) rfl (fun _ ⟨hL, hO⟩ => q_nilCheck rfl) ?_
            refine HA.val (k := 25) (v := .pointer (some ⟨x, 2, none⟩)) rfl rfl (by kernel_rfl) (by kernel_rfl) (want_none) rfl (fun _ ⟨hL, hO⟩ => q_fieldAddr fa_42_2 rfl rfl) ?_
            refine HA.one (k := 26) ⟨⟨hL, hO⟩, (at_cons (.inr hX) (Go.HL.at_nil _ _))⟩ (by kernel_rfl) ?_
            refine HS.sto rfl (want_none) rfl (s_store (c' := #[.int .i64 D, .int .i64 b, v23]) to_40 hX rfl rfl hN.slice.shp.cells hN.slice.shp.one (Nat.le_of_ble_eq_true rfl) rfl) ?_
            rintro h25 hu
            replace hL := hL.upd hu (hL.ne_lt (by omega))
            replace hO := hO.upd hu
            replace hS1 := hS1.upd hu (by intro e; have := Option.some.inj (show some b21 = some x from e); omega)
            replace hN := hN.upd hu (hN.ne_lt (by omega))
            replace hX : Blk h25 x (.cells #[.int .i64 D, .int .i64 b, v23] 42 (0, 0)) := hu.blk rfl
            have hus := hu.size; clear hu
            refine HA.nil ⟨⟨hL, hO⟩, (at_cons (.inl (by kernel_rfl)) (Go.HL.at_nil _ _))⟩ (by kernel_rfl) (thenQ_normal (?_))
            refine HW.seq ?_
            refine HW.region ?_
            refine HO.val (v := .bool true) (want_none) rfl (q_assign rfl) ?_
            refine HO.nil (thenQ_normal (?_))
            refine HW.ret (?_)
            refine ⟨.inr rfl, .bool true, res_one rfl rfl, ?_⟩
            refine ⟨by rw [hnn]; rfl, _, ⟨hX, ?_, hxb, by omega⟩, hO⟩
            have hat : insAt L id = j := insAt_eq (by omega) hz (fun h => by first | exact hend h | (exfalso; omega))
            have e : wput L id D = L.take j ++ [(id, D)] ++ L.drop j := by unfold wput; rw [if_neg (by rw [hnn]; simp), hat]
            rw [e]; have hN2 := hN.mono (show base ≤ _ by omega); simpa using hN2
          · refine HS.eff rfl (want_none) rfl (e_lit (cells := #[.int .i64 id, .int .i64 D]) #[.int .i64 0, .int .i64 0] tl_40 (by decide) (by decide) (by kernel_rfl) rfl) ?_
            rintro _ h26 ⟨b24, rfl, hn⟩
            have hnehL_b24 := hL.ne_ge (Nat.le_of_eq hn.at_.symm)
            have hnehN_b24 := hN.ne_ge (Nat.le_of_eq hn.at_.symm)
            replace hX := hX.ext hn.ext
            replace hL := hL.ext hn.ext
            replace hO := hO.ext hn.ext
            replace hN := hN.ext hn.ext
            have hb24 : Blk h26 b24 (.cells #[.int .i64 id, .int .i64 D] 39 (0, 0)) := hn.blk
            have hb24a := hn.at_; have hb24s := hn.size; clear hn
            have hS1 : SliceIs h26 2 encII (.slice (some ⟨b24, 0, none⟩) 1 1) [(id, D)] := (OwnIs.lit (base := 0) (E := 39) (l := [(id, D)]) hb24 (Nat.zero_le _) (by simp [maxLen]) (by simp [encII]) rfl).slice
            refine HA.one (k := 8) ⟨⟨hL, hO⟩, (at_cons (.inr hX) (Go.HL.at_nil _ _))⟩ (by kernel_rfl) ?_
            refine HS.eff rfl (want_none) rfl (e_append te_40 hN (hL.slice.cutH j (by omega)) rfl rfl rfl (by intro a _ u hu; simp [encII] at hu; first | (subst hu; rfl) | (rcases hu with rfl | rfl <;> rfl) | (rcases hu with rfl | rfl | rfl <;> rfl) | (rcases hu with rfl | rfl | rfl | rfl <;> rfl) | (rcases hu with rfl | rfl | rfl | rfl | rfl <;> rfl) | (rcases hu with rfl | rfl | rfl | rfl | rfl | rfl <;> rfl)) (by simp only [List.length_append, List.length_cons, List.length_nil, List.length_take, List.length_drop]; omega) (by simp only [List.length_append, List.length_cons, List.length_nil, List.length_take, List.length_drop]; omega) (by omega)) ?_
            rintro v25 h27 ⟨hO', hg⟩
            have haphL := hg.apart (fun y hy => hL.lt hy) (fun y p q => hap12 y q p)
            replace hX := hX.grown hg (hN.ne_lt (by omega))
            replace hL := hL.grown hg (fun y hy => hN.ne_lt (Nat.lt_of_lt_of_le (hvlt y hy) (by omega)))
            replace hO := hO.grown hg (fun y hy => .inl (Nat.le_trans (by omega) (hN.ge hy)))
            replace hS1 := hS1.grown hg (by intro y hy; rw [← Option.some.inj (show some b24 = some y from hy)]; exact hnehN_b24)
            replace hnehN_b24 := hg.ne hnehN_b24 (by omega)
            have hap16 := haphL
            replace hN := hO'
            have hgs := hg.size; clear hg
            refine HA.one (k := 16) ⟨⟨hL, hO⟩, (at_cons (.inr hX) (Go.HL.at_nil _ _))⟩ (by kernel_rfl) ?_
            refine HS.eff rfl (want_none) rfl (e_append te_40 hN hS1 rfl rfl rfl (by intro a _ u hu; simp [encII] at hu; first | (subst hu; rfl) | (rcases hu with rfl | rfl <;> rfl) | (rcases hu with rfl | rfl | rfl <;> rfl) | (rcases hu with rfl | rfl | rfl | rfl <;> rfl) | (rcases hu with rfl | rfl | rfl | rfl | rfl <;> rfl) | (rcases hu with rfl | rfl | rfl | rfl | rfl | rfl <;> rfl)) (by simp only [List.length_append, List.length_cons, List.length_nil, List.length_take, List.length_drop]; omega) (by simp only [List.length_append, List.length_cons, List.length_nil, List.length_take, List.length_drop]; omega) (by omega)) ?_
            rintro v26 h28 ⟨hO', hg⟩
            have haphL := hg.apart (fun y hy => hL.lt hy) hap16
            replace hX := hX.grown hg (hN.ne_lt (by omega))
            replace hL := hL.grown hg (fun y hy => hN.ne_lt (Nat.lt_of_lt_of_le (hvlt y hy) (by omega)))
            replace hO := hO.grown hg (fun y hy => .inl (Nat.le_trans (by omega) (hN.ge hy)))
            replace hS1 := hS1.grown hg (by intro y hy; rw [← Option.some.inj (show some b24 = some y from hy)]; exact hnehN_b24)
            replace hnehN_b24 := hg.ne hnehN_b24 (by omega)
            have hap17 := haphL
            replace hN := hO'
            have hgs := hg.size; clear hg
            refine HA.one (k := 23) ⟨⟨hL, hO⟩, (at_cons (.inr hX) (Go.HL.at_nil _ _))⟩ (by kernel_rfl) ?_
            refine HS.eff rfl (want_none) rfl (e_append te_40 hN (hL.slice.cutL j (by omega)) rfl rfl rfl (by intro a _ u hu; simp [encII] at hu; first | (subst hu; rfl) | (rcases hu with rfl | rfl <;> rfl) | (rcases hu with rfl | rfl | rfl <;> rfl) | (rcases hu with rfl | rfl | rfl | rfl <;> rfl) | (rcases hu with rfl | rfl | rfl | rfl | rfl <;> rfl) | (rcases hu with rfl | rfl | rfl | rfl | rfl | rfl <;> rfl)) (by simp only [List.length_append, List.length_cons, List.length_nil, List.length_take, List.length_drop]; omega) (by simp only [List.length_append, List.length_cons, List.length_nil, List.length_take, List.length_drop]; omega) (by omega)) ?_
            rintro v27 h29 ⟨hO', hg⟩
            have haphL := hg.apart (fun y hy => hL.lt hy) hap17
            replace hX := hX.grown hg (hN.ne_lt (by omega))
            replace hL := hL.grown hg (fun y hy => hN.ne_lt (Nat.lt_of_lt_of_le (hvlt y hy) (by omega)))
            replace hO := hO.grown hg (fun y hy => .inl (Nat.le_trans (by omega) (hN.ge hy)))
            replace hS1 := hS1.grown hg (by intro y hy; rw [← Option.some.inj (show some b24 = some y from hy)]; exact hnehN_b24)
            replace hnehN_b24 := hg.ne hnehN_b24 (by omega)
            have hap18 := haphL
            replace hN := hO'
            have hgs := hg.size; clear hg
            refine HA.val (k := 24) (v := .pointer (some ⟨x, 0, none⟩)) rfl rfl (by kernel_rfl) (by kernel_rfl) (want_none) rfl (fun _ ⟨hL, hO⟩ => q_nilCheck rfl) ?_
            refine HA.val (k := 25) (v := .pointer (some ⟨x, 2, none⟩)) rfl rfl (by kernel_rfl) (by kernel_rfl) (want_none) rfl (fun _ ⟨hL, hO⟩ => q_fieldAddr fa_42_2 rfl rfl) ?_
            refine HA.one (k := 26) ⟨⟨hL, hO⟩, (at_cons (.inr hX) (Go.HL.at_nil _ _))⟩ (by kernel_rfl) ?_
            refine HS.sto rfl (want_none) rfl (s_store (c' := #[.int .i64 D, .int .i64 b, v27]) to_40 hX rfl rfl hN.slice.shp.cells hN.slice.shp.one (Nat.le_of_ble_eq_true rfl) rfl) ?_
            rintro h30 hu
            replace hL := hL.upd hu (hL.ne_lt (by omega))
            replace hO := hO.upd hu
            replace hS1 := hS1.upd hu (by intro e; have := Option.some.inj (show some b24 = some x from e); omega)
            replace hN := hN.upd hu (hN.ne_lt (by omega))
            replace hX : Blk h30 x (.cells #[.int .i64 D, .int .i64 b, v27] 42 (0, 0)) := hu.blk rfl
            have hus := hu.size; clear hu
            refine HA.nil ⟨⟨hL, hO⟩, (at_cons (.inl (by kernel_rfl)) (Go.HL.at_nil _ _))⟩ (by kernel_rfl) (thenQ_normal (?_))
            refine HW.seq ?_
            refine HW.region ?_
            refine HO.val (v := .bool true) (want_none) rfl (q_assign rfl) ?_
            refine HO.nil (thenQ_normal (?_))
            refine HW.ret (?_)
            refine ⟨.inr rfl, .bool true, res_one rfl rfl, ?_⟩
            refine ⟨by rw [hnn]; rfl, _, ⟨hX, ?_, hxb, by omega⟩, hO⟩
            have hat : insAt L id = j := insAt_eq (by omega) hz (fun h => by first | exact hend h | (exfalso; omega))
            have e : wput L id D = L.take j ++ [(id, D)] ++ L.drop j := by unfold wput; rw [if_neg (by rw [hnn]; simp), hat]
            rw [e]; have hN2 := hN.mono (show base ≤ _ by omega); simpa using hN2
        · refine HS.eff rfl (want_none) rfl (e_lit (cells := #[.int .i64 id, .int .i64 D]) #[.int .i64 0, .int .i64 0] tl_40 (by decide) (by decide) (by kernel_rfl) rfl) ?_
          rintro _ h31 ⟨b28, rfl, hn⟩
          have hnehL_b28 := hL.ne_ge (Nat.le_of_eq hn.at_.symm)
          replace hX := hX.ext hn.ext
          replace hL := hL.ext hn.ext
          replace hO := hO.ext hn.ext
          have hb28 : Blk h31 b28 (.cells #[.int .i64 id, .int .i64 D] 39 (0, 0)) := hn.blk
          have hb28a := hn.at_; have hb28s := hn.size; clear hn
          have hS1 : SliceIs h31 2 encII (.slice (some ⟨b28, 0, none⟩) 1 1) [(id, D)] := (OwnIs.lit (base := 0) (E := 39) (l := [(id, D)]) hb28 (Nat.zero_le _) (by simp [maxLen]) (by simp [encII]) rfl).slice
          refine HA.one (k := 1) ⟨⟨hL, hO⟩, (at_cons (.inr hX) (Go.HL.at_nil _ _))⟩ (by kernel_rfl) ?_
          refine HS.eff rfl (want_none) rfl (e_litEmpty tl_40) ?_
          rintro _ h32 ⟨b29, rfl, hn⟩
          have hnehL_b29 := hL.ne_ge (Nat.le_of_eq hn.at_.symm)
          replace hX := hX.ext hn.ext
          replace hL := hL.ext hn.ext
          replace hO := hO.ext hn.ext
          replace hS1 := hS1.ext hn.ext
          have hb29 : Blk h32 b29 (.cells #[] 39 (0, 0)) := hn.blk
          have hb29a := hn.at_; have hb29s := hn.size; clear hn
          have hN : OwnIs h32 b29 39 2 encII (.slice (some ⟨b29, 0, none⟩) 0 0) ([] : List (Int × Int)) := OwnIs.lit (l := ([] : List (Int × Int))) hb29 (Nat.le_refl _) (by simp [maxLen]) (by simp) rfl
          have hap19 : ∀ y, blockOf (.slice (some ⟨b29, 0, none⟩) 0 0) = some y → blockOf v ≠ some y := by intro y hy; rw [← Option.some.inj (show some b29 = some y from hy)]; exact hnehL_b29
          refine HA.one (k := 8) ⟨⟨hL, hO⟩, (at_cons (.inr hX) (Go.HL.at_nil _ _))⟩ (by kernel_rfl) ?_
          refine HS.eff rfl (want_none) rfl (e_append te_40 hN (hL.slice.cutH j (by omega)) rfl rfl rfl (by intro a _ u hu; simp [encII] at hu; first | (subst hu; rfl) | (rcases hu with rfl | rfl <;> rfl) | (rcases hu with rfl | rfl | rfl <;> rfl) | (rcases hu with rfl | rfl | rfl | rfl <;> rfl) | (rcases hu with rfl | rfl | rfl | rfl | rfl <;> rfl) | (rcases hu with rfl | rfl | rfl | rfl | rfl | rfl <;> rfl)) (by simp only [List.length_append, List.length_cons, List.length_nil, List.length_take, List.length_drop]; omega) (by simp only [List.length_append, List.length_cons, List.length_nil, List.length_take, List.length_drop]; omega) (by omega)) ?_
          rintro v30 h33 ⟨hO', hg⟩
          have haphL := hg.apart (fun y hy => hL.lt hy) (fun y p q => hap19 y q p)
          replace hX := hX.grown hg (hN.ne_lt (by omega))
          replace hL := hL.grown hg (fun y hy => hN.ne_lt (Nat.lt_of_lt_of_le (hvlt y hy) (by omega)))
          replace hO := hO.grown hg (fun y hy => .inl (Nat.le_trans (by omega) (hN.ge hy)))
          replace hS1 := hS1.grown hg (by intro y hy; rw [← Option.some.inj (show some b28 = some y from hy)]; exact (hN.ne_lt (by omega)))
          have hap20 := haphL
          replace hN := hO'
          have hgs := hg.size; clear hg
          refine HA.one (k := 16) ⟨⟨hL, hO⟩, (at_cons (.inr hX) (Go.HL.at_nil _ _))⟩ (by kernel_rfl) ?_
          refine HS.eff rfl (want_none) rfl (e_append te_40 hN hS1 rfl rfl rfl (by intro a _ u hu; simp [encII] at hu; first | (subst hu; rfl) | (rcases hu with rfl | rfl <;> rfl) | (rcases hu with rfl | rfl | rfl <;> rfl) | (rcases hu with rfl | rfl | rfl | rfl <;> rfl) | (rcases hu with rfl | rfl | rfl | rfl | rfl <;> rfl) | (rcases hu with rfl | rfl | rfl | rfl | rfl | rfl <;> rfl)) (by simp only [List.length_append, List.length_cons, List.length_nil, List.length_take, List.length_drop]; omega) (by simp only [List.length_append, List.length_cons, List.length_nil, List.length_take, List.length_drop]; omega) (by omega)) ?_
          rintro v31 h34 ⟨hO', hg⟩
          have haphL := hg.apart (fun y hy => hL.lt hy) hap20
          replace hX := hX.grown hg (hN.ne_lt (by omega))
          replace hL := hL.grown hg (fun y hy => hN.ne_lt (Nat.lt_of_lt_of_le (hvlt y hy) (by omega)))
          replace hO := hO.grown hg (fun y hy => .inl (Nat.le_trans (by omega) (hN.ge hy)))
          replace hS1 := hS1.grown hg (by intro y hy; rw [← Option.some.inj (show some b28 = some y from hy)]; exact (hN.ne_lt (by omega)))
          have hap21 := haphL
          replace hN := hO'
          have hgs := hg.size; clear hg
          refine HA.one (k := 23) ⟨⟨hL, hO⟩, (at_cons (.inr hX) (Go.HL.at_nil _ _))⟩ (by kernel_rfl) ?_
          refine HS.eff rfl (want_none) rfl (e_append te_40 hN (hL.slice.cutL j (by omega)) rfl rfl rfl (by intro a _ u hu; simp [encII] at hu; first | (subst hu; rfl) | (rcases hu with rfl | rfl <;> rfl) | (rcases hu with rfl | rfl | rfl <;> rfl) | (rcases hu with rfl | rfl | rfl | rfl <;> rfl) | (rcases hu with rfl | rfl | rfl | rfl | rfl <;> rfl) | (rcases hu with rfl | rfl | rfl | rfl | rfl | rfl <;> rfl)) (by simp only [List.length_append, List.length_cons, List.length_nil, List.length_take, List.length_drop]; omega) (by simp only [List.length_append, List.length_cons, List.length_nil, List.length_take, List.length_drop]; omega) (by omega)) ?_
          rintro v32 h35 ⟨hO', hg⟩
          have haphL := hg.apart (fun y hy => hL.lt hy) hap21
          replace hX := hX.grown hg (hN.ne_lt (by omega))
          replace hL := hL.grown hg (fun y hy => hN.ne_lt (Nat.lt_of_lt_of_le (hvlt y hy) (by omega)))
          replace hO := hO.grown hg (fun y hy => .inl (Nat.le_trans (by omega) (hN.ge hy)))
          replace hS1 := hS1.grown hg (by intro y hy; rw [← Option.some.inj (show some b28 = some y from hy)]; exact (hN.ne_lt (by omega)))
          have hap22 := haphL
          replace hN := hO'
          have hgs := hg.size; clear hg
          refine HA.val (k := 24) (v := .pointer (some ⟨x, 0, none⟩)) rfl rfl (by kernel_rfl) (by kernel_rfl) (want_none) rfl (fun _ ⟨hL, hO⟩ => q_nilCheck rfl) ?_
          refine HA.val (k := 25) (v := .pointer (some ⟨x, 2, none⟩)) rfl rfl (by kernel_rfl) (by kernel_rfl) (want_none) rfl (fun _ ⟨hL, hO⟩ => q_fieldAddr fa_42_2 rfl rfl) ?_
          refine HA.one (k := 26) ⟨⟨hL, hO⟩, (at_cons (.inr hX) (Go.HL.at_nil _ _))⟩ (by kernel_rfl) ?_
          refine HS.sto rfl (want_none) rfl (s_store (c' := #[.int .i64 D, .int .i64 b, v32]) to_40 hX rfl rfl hN.slice.shp.cells hN.slice.shp.one (Nat.le_of_ble_eq_true rfl) rfl) ?_
          rintro h36 hu
          replace hL := hL.upd hu (hL.ne_lt (by omega))
          replace hO := hO.upd hu
          replace hS1 := hS1.upd hu (by intro e; have := Option.some.inj (show some b28 = some x from e); omega)
          replace hN := hN.upd hu (hN.ne_lt (by omega))
          replace hX : Blk h36 x (.cells #[.int .i64 D, .int .i64 b, v32] 42 (0, 0)) := hu.blk rfl
          have hus := hu.size; clear hu
          refine HA.nil ⟨⟨hL, hO⟩, (at_cons (.inl (by kernel_rfl)) (Go.HL.at_nil _ _))⟩ (by kernel_rfl) (thenQ_normal (?_))
          refine HW.seq ?_
          refine HW.region ?_
          refine HO.val (v := .bool true) (want_none) rfl (q_assign rfl) ?_
          refine HO.nil (thenQ_normal (?_))
          refine HW.ret (?_)
          refine ⟨.inr rfl, .bool true, res_one rfl rfl, ?_⟩
          refine ⟨by rw [hnn]; rfl, _, ⟨hX, ?_, hxb, by omega⟩, hO⟩
          have hat : insAt L id = j := insAt_eq (by omega) hz (fun h => by first | exact hend h | (exfalso; omega))
          have e : wput L id D = L.take j ++ [(id, D)] ++ L.drop j := by unfold wput; rw [if_neg (by rw [hnn]; simp), hat]
          rw [e]; have hN2 := hN.mono (show base ≤ _ by omega); simpa using hN2

set_option maxRecDepth 100000 in
theorem rcut_spec (base x : Nat) (D b : Int) (v : Value) (L : List (Int × Int)) (h0 : Heap) (hR : RefIs h0 base x D b v L) (id : Int) (hl : L.length ≤ 1000) (hnd : (L.map Prod.fst).Nodup) :
    HC Try.prog 26 #[.pointer (some ⟨x, 0, none⟩), .int .i64 id] h0 fun u h' => u = .bool (mget L id).isSome ∧ ∃ v', RefIs h' base x D b v' (mdel L id) ∧ OnlyX x v h0 h' := by
  refine HC.of_HW (n := 32) Try.func26 rfl rfl (Nat.le_of_ble_eq_true rfl) ?_
  obtain ⟨hX, hL, hxb, hbs⟩ := hR
  have hO := OnlyX.refl x v h0
  have hvlt : ∀ y, blockOf v = some y → y < h0.size := fun y hy => hL.lt hy
  have hli := hL.len_i
  refine HW.seq ?_
  refine HW.region ?_
  refine HO.val (v := .bool false) (want_none) rfl (q_assign rfl) ?_
  refine HO.nil (thenQ_normal (?_))
  refine HW.seq ?_
  refine HW.region ?_
  refine HO.val (v := .pointer (some ⟨x, 0, none⟩)) (want_none) rfl (q_move rfl) ?_
  refine HO.val (v := .int .i64 id) (want_none) rfl (q_move rfl) ?_
  refine HO.call (want_none) rfl (ec en_27 rfl rfl) (find_spec x D b v L id _ hX hL.slice) ?_
  rintro _ _ ⟨n1, rfl, hfn1, rfl⟩
  refine HO.val (v := .int .i64 n1) (want_none) rfl (q_assign rfl) ?_
  refine HO.nil (thenQ_normal (?_))
  refine HW.seq ?_
  refine HW.seq ?_
  refine HW.region ?_
  refine HO.val (v := .int .i64 n1) (want_none) rfl (q_move rfl) ?_
  refine HO.val (v := .bool (decide (0 ≤ n1))) (want_none) rfl (q_geq rfl rfl) ?_
  refine HO.nil (thenQ_normal (?_))
  refine HW.cond (decide (0 ≤ n1)) rfl (fun c2 => ?_) (fun c2 => ?_)
  · have c2p := of_decide_eq_true c2
    obtain ⟨i, hi, rfl, hfi, hi1, hig⟩ : ∃ i, ∃ h : i < L.length, n1 = (i : Int) ∧ L.findIdx? (fun p => decide (id = p.1)) = some i ∧ L[i].1 = id ∧ mget L id = some L[i].2 := by
      rcases hfn1 with ⟨e, _⟩ | e
      · omega
      · exact e
    refine HW.regionD 20 mixed (fun h => (OwnIs h base 39 2 encII v L) ∧ (OnlyX x v h0 h)) [(19, fun h => (Blk h x (.cells #[.int .i64 D, .int .i64 b, v] 42 (0, 0))))] [(0, true), (2, true), (3, true), (4, true), (5, true), (6, true), (7, true), (9, true), (10, true), (11, true), (12, true), (13, true), (14, true), (15, true), (1, false), (8, false), (16, false), (17, true), (18, true), (19, false)] (by kernel_rfl) ?_
    refine HM.val (v := .pointer (some ⟨x, 0, none⟩)) rfl rfl (want_none) rfl (fun _ ⟨hL, hO⟩ => q_move rfl) ?_
    refine HM.val (v := .pointer (some ⟨x, 0, none⟩)) rfl rfl (want_none) rfl (fun _ ⟨hL, hO⟩ => q_move rfl) ?_
    refine HM.val (v := .pointer (some ⟨x, 0, none⟩)) rfl rfl (want_none) rfl (fun _ ⟨hL, hO⟩ => q_nilCheck rfl) ?_
    refine HM.val (v := .pointer (some ⟨x, 2, none⟩)) rfl rfl (want_none) rfl (fun _ ⟨hL, hO⟩ => q_fieldAddr fa_42_2 rfl rfl) ?_
    refine HM.valN (v := v) 19 (fun h => (Blk h x (.cells #[.int .i64 D, .int .i64 b, v] 42 (0, 0)))) rfl rfl (want_none) rfl (by simp) (by kernel_rfl) (fun _ ⟨hL, hO⟩ hX => q_load to_40 rfl (Blk.cell hX rfl)) ?_
    refine HM.val (v := .int .i64 ((i : Nat) : Int)) rfl rfl (want_none) rfl (fun _ ⟨hL, hO⟩ => q_move rfl) ?_
    refine HM.val (v := cutV 2 v 0 i) rfl rfl (want_none) rfl (fun _ ⟨hL, hO⟩ => q_sliceH (hi := i) ts_40 hL.slice rfl rfl (by omega)) ?_
    refine HM.val (v := .pointer (some ⟨x, 0, none⟩)) rfl rfl (want_none) rfl (fun _ ⟨hL, hO⟩ => q_move rfl) ?_
    refine HM.val (v := .pointer (some ⟨x, 0, none⟩)) rfl rfl (want_none) rfl (fun _ ⟨hL, hO⟩ => q_nilCheck rfl) ?_
    refine HM.val (v := .pointer (some ⟨x, 2, none⟩)) rfl rfl (want_none) rfl (fun _ ⟨hL, hO⟩ => q_fieldAddr fa_42_2 rfl rfl) ?_
    refine HM.valN (v := v) 19 (fun h => (Blk h x (.cells #[.int .i64 D, .int .i64 b, v] 42 (0, 0)))) rfl rfl (want_none) rfl (by simp) (by kernel_rfl) (fun _ ⟨hL, hO⟩ hX => q_load to_40 rfl (Blk.cell hX rfl)) ?_
    refine HM.val (v := .int .i64 ((i : Nat) : Int)) rfl rfl (want_none) rfl (fun _ ⟨hL, hO⟩ => q_move rfl) ?_
    refine HM.val (v := .int .i64 ((i + 1 : Nat) : Int)) rfl rfl (want_none) rfl (fun _ ⟨hL, hO⟩ => q_addN ((i + 1 : Nat) : Int) rfl rfl (by omega) (by omega) (by omega)) ?_
    refine HM.val (v := cutV 2 v (i + 1) L.length) rfl rfl (want_none) rfl (fun _ ⟨hL, hO⟩ => q_sliceL (lo := (i + 1)) ts_40 hL.slice rfl rfl (by omega)) ?_
    refine HM.eff ⟨⟨hL, hO⟩, (at_cons (.inr hX) (Go.HL.at_nil _ _))⟩ rfl (want_none) rfl (e_litEmpty tl_40) ?_
    rintro _ h1 ⟨b3, rfl, hn⟩
    have hnehL_b3 := hL.ne_ge (Nat.le_of_eq hn.at_.symm)
    replace hX := hX.ext hn.ext
    replace hL := hL.ext hn.ext
    replace hO := hO.ext hn.ext
    have hb3 : Blk h1 b3 (.cells #[] 39 (0, 0)) := hn.blk
    have hb3a := hn.at_; have hb3s := hn.size; clear hn
    have hN : OwnIs h1 b3 39 2 encII (.slice (some ⟨b3, 0, none⟩) 0 0) ([] : List (Int × Int)) := OwnIs.lit (l := ([] : List (Int × Int))) hb3 (Nat.le_refl _) (by simp [maxLen]) (by simp) rfl
    have hap1 : ∀ y, blockOf (.slice (some ⟨b3, 0, none⟩) 0 0) = some y → blockOf v ≠ some y := by intro y hy; rw [← Option.some.inj (show some b3 = some y from hy)]; exact hnehL_b3
    refine HM.eff ⟨⟨hL, hO⟩, (at_cons (.inr hX) (Go.HL.at_nil _ _))⟩ rfl (want_none) rfl (e_append te_40 hN (hL.slice.cutH i (by omega)) rfl rfl rfl (by intro a _ u hu; simp [encII] at hu; first | (subst hu; rfl) | (rcases hu with rfl | rfl <;> rfl) | (rcases hu with rfl | rfl | rfl <;> rfl) | (rcases hu with rfl | rfl | rfl | rfl <;> rfl) | (rcases hu with rfl | rfl | rfl | rfl | rfl <;> rfl) | (rcases hu with rfl | rfl | rfl | rfl | rfl | rfl <;> rfl)) (by simp only [List.length_append, List.length_cons, List.length_nil, List.length_take, List.length_drop]; omega) (by simp only [List.length_append, List.length_cons, List.length_nil, List.length_take, List.length_drop]; omega) (by omega)) ?_
    rintro v4 h2 ⟨hO', hg⟩
    have haphL := hg.apart (fun y hy => hL.lt hy) (fun y p q => hap1 y q p)
    replace hX := hX.grown hg (hN.ne_lt (by omega))
    replace hL := hL.grown hg (fun y hy => hN.ne_lt (Nat.lt_of_lt_of_le (hvlt y hy) (by omega)))
    replace hO := hO.grown hg (fun y hy => .inl (Nat.le_trans (by omega) (hN.ge hy)))
    have hap2 := haphL
    replace hN := hO'
    have hgs := hg.size; clear hg
    refine HM.eff ⟨⟨hL, hO⟩, (at_cons (.inr hX) (Go.HL.at_nil _ _))⟩ rfl (want_none) rfl (e_append te_40 hN (hL.slice.cutL (i + 1) (by omega)) rfl rfl rfl (by intro a _ u hu; simp [encII] at hu; first | (subst hu; rfl) | (rcases hu with rfl | rfl <;> rfl) | (rcases hu with rfl | rfl | rfl <;> rfl) | (rcases hu with rfl | rfl | rfl | rfl <;> rfl) | (rcases hu with rfl | rfl | rfl | rfl | rfl <;> rfl) | (rcases hu with rfl | rfl | rfl | rfl | rfl | rfl <;> rfl)) (by simp only [List.length_append, List.length_cons, List.length_nil, List.length_take, List.length_drop]; omega) (by simp only [List.length_append, List.length_cons, List.length_nil, List.length_take, List.length_drop]; omega) (by omega)) ?_
    rintro v5 h3 ⟨hO', hg⟩
    have haphL := hg.apart (fun y hy => hL.lt hy) hap2
    replace hX := hX.grown hg (hN.ne_lt (by omega))
    replace hL := hL.grown hg (fun y hy => hN.ne_lt (Nat.lt_of_lt_of_le (hvlt y hy) (by omega)))
    replace hO := hO.grown hg (fun y hy => .inl (Nat.le_trans (by omega) (hN.ge hy)))
    have hap3 := haphL
    replace hN := hO'
    have hgs := hg.size; clear hg
    refine HM.val (v := .pointer (some ⟨x, 0, none⟩)) rfl rfl (want_none) rfl (fun _ ⟨hL, hO⟩ => q_nilCheck rfl) ?_
    refine HM.val (v := .pointer (some ⟨x, 2, none⟩)) rfl rfl (want_none) rfl (fun _ ⟨hL, hO⟩ => q_fieldAddr fa_42_2 rfl rfl) ?_
    refine HM.sto ⟨⟨hL, hO⟩, (at_cons (.inr hX) (Go.HL.at_nil _ _))⟩ rfl (want_none) rfl (s_store (c' := #[.int .i64 D, .int .i64 b, v5]) to_40 hX rfl rfl hN.slice.shp.cells hN.slice.shp.one (Nat.le_of_ble_eq_true rfl) rfl) ?_
    rintro h4 hu
    replace hL := hL.upd hu (hL.ne_lt (by omega))
    replace hO := hO.upd hu
    replace hN := hN.upd hu (hN.ne_lt (by omega))
    replace hX : Blk h4 x (.cells #[.int .i64 D, .int .i64 b, v5] 42 (0, 0)) := hu.blk rfl
    have hus := hu.size; clear hu
    refine HM.nil ⟨⟨hL, hO⟩, (at_cons (.inl (by kernel_rfl)) (Go.HL.at_nil _ _))⟩ (thenQ_normal (?_))
    refine HW.seq ?_
    refine HW.region ?_
    refine HO.val (v := .int .i64 ((i : Nat) : Int)) (want_none) rfl (q_move rfl) ?_
    refine HO.val (v := .bool (decide (0 ≤ ((i : Nat) : Int)))) (want_none) rfl (q_geq rfl rfl) ?_
    refine HO.val (v := .bool (decide (0 ≤ ((i : Nat) : Int)))) (want_none) rfl (q_assign rfl) ?_
    refine HO.nil (thenQ_normal (?_))
    refine HW.ret (?_)
    refine ⟨.inr rfl, .bool (decide (0 ≤ ((i : Nat) : Int))), res_one rfl rfl, ?_⟩
    refine ⟨by rw [hig]; simp, _, ⟨hX, ?_, hxb, by omega⟩, hO⟩
    have e : mdel L id = L.take i ++ L.drop (i + 1) := by rw [mdel_idx hnd hfi, List.eraseIdx_eq_take_drop_succ]
    rw [e]; have hN2 := hN.mono (show base ≤ _ by omega); simpa using hN2
  · have c2p := of_decide_eq_false c2
    obtain ⟨rfl, hnn⟩ : n1 = -1 ∧ mget L id = none := by
      rcases hfn1 with e | ⟨i, _, e, _⟩
      · exact e
      · omega
    refine HW.skip (thenQ_normal (?_))
    refine HW.seq ?_
    refine HW.region ?_
    refine HO.val (v := .int .i64 (-1)) (want_none) rfl (q_move rfl) ?_
    refine HO.val (v := .bool (decide (0 ≤ (-1)))) (want_none) rfl (q_geq rfl rfl) ?_
    refine HO.val (v := .bool (decide (0 ≤ (-1)))) (want_none) rfl (q_assign rfl) ?_
    refine HO.nil (thenQ_normal (?_))
    refine HW.ret (?_)
    refine ⟨.inr rfl, .bool (decide (0 ≤ (-1))), res_one rfl rfl, ?_⟩
    refine ⟨by rw [hnn]; rfl, v, ⟨hX, ?_, hxb, by omega⟩, hO⟩
    rw [mdel_none hnn]; exact hL

set_option maxRecDepth 100000 in
theorem rlist_spec (base x : Nat) (D b : Int) (v : Value) (L : List (Int × Int)) (h0 : Heap) (hR : RefIs h0 base x D b v L) (hl : L.length ≤ 1000) :
    HC Try.prog 30 #[.pointer (some ⟨x, 0, none⟩)] h0 fun u h' => OwnIs h' h0.size 3 1 encI u (L.map Prod.fst) ∧ Ext h0 h' := by
  refine HC.of_HW (n := 27) Try.func30 rfl rfl (Nat.le_of_ble_eq_true rfl) ?_
  obtain ⟨hX, hL, hxb, hbs⟩ := hR
  have hO := OnlyX.refl x v h0
  have hvlt : ∀ y, blockOf v = some y → y < h0.size := fun y hy => hL.lt hy
  have hli := hL.len_i
  have hE := Ext.refl h0
  refine HW.seq ?_
  refine HW.region ?_
  refine HO.val (v := .slice none 0 0) (want_none) rfl (q_assign rfl) ?_
  refine HO.nil (thenQ_normal (?_))
  refine HW.seq ?_
  refine HW.region ?_
  refine HO.eff (want_none) rfl (e_litEmpty tl_22) ?_
  rintro _ h1 ⟨b1, rfl, hn⟩
  replace hX := hX.ext hn.ext
  replace hL := hL.ext hn.ext
  replace hE := hE.trans hn.ext
  have hb1 : Blk h1 b1 (.cells #[] 3 (0, 0)) := hn.blk
  have hb1a := hn.at_; have hb1s := hn.size; clear hn
  have hA : OwnIs h1 b1 3 1 encI (.slice (some ⟨b1, 0, none⟩) 0 0) ([] : List Int) := OwnIs.lit (l := ([] : List Int)) hb1 (Nat.le_refl _) (by simp [maxLen]) (by simp) rfl
  refine HO.val (v := .slice (some ⟨b1, 0, none⟩) 0 0) (want_none) rfl (q_assign rfl) ?_
  refine HO.nil (thenQ_normal (?_))
  refine HW.seq ?_
  refine HW.seq ?_
  refine HW.region ?_
  refine HO.val (v := .int .i64 0) (want_none) rfl (q_assign rfl) ?_
  refine HO.nil (thenQ_normal (?_))
  refine HW.block ?_
  refine HW.loop (S := Nat × Value) (fun s f h => match s with | (i, vo) => f 0 = .pointer (some ⟨x, 0, none⟩) ∧ f 3 = vo ∧ f 4 = .int .i64 ((i : Nat) : Int) ∧ (Blk h x (.cells #[.int .i64 D, .int .i64 b, v] 42 (0, 0))) ∧ (OwnIs h base 39 2 encII v L) ∧ (Ext h0 h) ∧ (OwnIs h h0.size 3 1 encI vo ((L.take i).map Prod.fst)) ∧ (i ≤ L.length)) (fun s => match s with | (i, vo) => L.length - i) (0, .slice (some ⟨b1, 0, none⟩) 0 0) ?_ ?_
  · refine ⟨rfl, rfl, rfl, ?_, ?_, ?_, ?_, ?_⟩
    · exact hX
    · exact hL
    · exact hE
    · exact hA.mono (by omega)
    · omega
  · rintro ⟨i, vo⟩ f2 hh2 ⟨e0, e3, e4, hX, hL, hE, hA, hi⟩
    refine HW.fr [(0, .pointer (some ⟨x, 0, none⟩)), (3, vo), (4, .int .i64 ((i : Nat) : Int))] ⟨e0, e3, e4, trivial⟩ ?_
    have hes := hE.size
    refine HW.seq ?_
    refine HW.seq ?_
    refine HW.region ?_
    refine HO.val (v := .int .i64 ((i : Nat) : Int)) (want_none) rfl (q_move rfl) ?_
    refine HO.val (v := .pointer (some ⟨x, 0, none⟩)) (want_none) rfl (q_move rfl) ?_
    refine HO.val (v := .pointer (some ⟨x, 0, none⟩)) (want_none) rfl (q_nilCheck rfl) ?_
    refine HO.val (v := .pointer (some ⟨x, 2, none⟩)) (want_none) rfl (q_fieldAddr fa_42_2 rfl rfl) ?_
    refine HO.val (v := v) (want_none) rfl (q_load to_40 rfl (Blk.cell hX rfl)) ?_
    refine HO.val (v := .int .i64 ((L.length : Nat) : Int)) (want_none) rfl (q_lenS ts_40 hL.slice.shp rfl rfl) ?_
    refine HO.val (v := .bool (decide (((i : Nat) : Int) < ((L.length : Nat) : Int)))) (want_none) rfl (q_lss rfl rfl) ?_
    refine HO.nil (thenQ_normal (?_))
    refine HW.cond (decide (((i : Nat) : Int) < ((L.length : Nat) : Int))) rfl (fun c2 => ?_) (fun c2 => ?_)
    · have c2p := of_decide_eq_true c2
      refine HW.skip (thenQ_normal (?_))
      refine HW.seq ?_
      refine HW.block ?_
      refine HW.region ?_
      refine HO.val (v := vo) (want_none) rfl (q_move rfl) ?_
      refine HO.val (v := .pointer (some ⟨x, 0, none⟩)) (want_none) rfl (q_move rfl) ?_
      refine HO.val (v := .pointer (some ⟨x, 0, none⟩)) (want_none) rfl (q_nilCheck rfl) ?_
      refine HO.val (v := .pointer (some ⟨x, 2, none⟩)) (want_none) rfl (q_fieldAddr fa_42_2 rfl rfl) ?_
      refine HO.val (v := v) (want_none) rfl (q_load to_40 rfl (Blk.cell hX rfl)) ?_
      refine HO.val (v := .int .i64 ((i : Nat) : Int)) (want_none) rfl (q_move rfl) ?_
      refine HO.val (v := elemPtr 2 v i) (want_none) rfl (q_indexAddr (i := i) ts_40 hL.slice rfl rfl (by omega)) ?_
      refine HO.val (v := fieldPtr 2 v i 0) (want_none) rfl (q_fieldElemS fa_39_0 hL.slice rfl (by omega)) ?_
      refine HO.val (v := .int .i64 ((L[i]'(by omega)).1)) (want_none) rfl (q_loadField to_3 hL.slice rfl (by omega) (by decide) rfl) ?_
      refine HO.eff (want_none) rfl (e_lit (cells := #[.int .i64 ((L[i]'(by omega)).1)]) #[.int .i64 0] tl_22 (by decide) (by decide) (by kernel_rfl) rfl) ?_
      rintro _ h3 ⟨b3, rfl, hn⟩
      have hnehA_b3 := hA.ne_ge (Nat.le_of_eq hn.at_.symm)
      replace hX := hX.ext hn.ext
      replace hL := hL.ext hn.ext
      replace hE := hE.trans hn.ext
      replace hA := hA.ext hn.ext
      have hb3 : Blk h3 b3 (.cells #[.int .i64 ((L[i]'(by omega)).1)] 3 (0, 0)) := hn.blk
      have hb3a := hn.at_; have hb3s := hn.size; clear hn
      have hS1 : SliceIs h3 1 encI (.slice (some ⟨b3, 0, none⟩) 1 1) [(L[i]'(by omega)).1] := (OwnIs.lit (base := 0) (E := 3) (l := [(L[i]'(by omega)).1]) hb3 (Nat.zero_le _) (by simp [maxLen]) (by simp [encI]) rfl).slice
      refine HO.eff (want_none) rfl (e_append te_22 hA hS1 rfl rfl rfl (by intro a _ u hu; simp [encI] at hu; first | (subst hu; rfl) | (rcases hu with rfl | rfl <;> rfl) | (rcases hu with rfl | rfl | rfl <;> rfl) | (rcases hu with rfl | rfl | rfl | rfl <;> rfl) | (rcases hu with rfl | rfl | rfl | rfl | rfl <;> rfl) | (rcases hu with rfl | rfl | rfl | rfl | rfl | rfl <;> rfl)) (by simp only [List.length_map, List.length_take, List.length_cons, List.length_nil]; omega) (by simp only [List.length_map, List.length_take, List.length_cons, List.length_nil]; omega) (by omega)) ?_
      rintro v4 h4 ⟨hO', hg⟩
      replace hX := hX.grown hg (hA.ne_lt (by omega))
      replace hL := hL.grown hg (fun y hy => hA.ne_lt (hvlt y hy))
      replace hE := hE.grown hg hA (by omega)
      replace hS1 := hS1.grown hg (by intro y hy; rw [← Option.some.inj (show some b3 = some y from hy)]; exact hnehA_b3)
      replace hnehA_b3 := hg.ne hnehA_b3 (by omega)
      replace hA := hO'
      have hgs := hg.size; clear hg
      refine HO.val (v := v4) (want_none) rfl (q_assign rfl) ?_
      refine HO.nil (blockQ_normal (thenQ_normal (?_)))
      refine HW.region ?_
      refine HO.val (v := .int .i64 ((i : Nat) : Int)) (want_none) rfl (q_move rfl) ?_
      refine HO.val (v := .int .i64 ((i + 1 : Nat) : Int)) (want_none) rfl (q_addN ((i + 1 : Nat) : Int) rfl rfl (by omega) (by omega) (by omega)) ?_
      refine HO.val (v := .int .i64 ((i + 1 : Nat) : Int)) (want_none) rfl (q_assign rfl) ?_
      refine HO.nil (thenQ_normal (?_))
      refine ⟨(i + 1, v4), ⟨rfl, rfl, rfl, ?_, ?_, ?_, ?_, ?_⟩, ?_⟩
      · exact hX
      · exact hL
      · exact hE
      · rw [keys_step (by omega)]; exact hA
      · omega
      · dsimp only; omega
    · have c2p := of_decide_eq_false c2
      refine HW.exit (thenQ_exit (thenQ_exit (blockQ_exit (thenQ_normal (?_)))))
      refine HW.seq ?_
      refine HW.region ?_
      refine HO.val (v := vo) (want_none) rfl (q_move rfl) ?_
      refine HO.val (v := vo) (want_none) rfl (q_assign rfl) ?_
      refine HO.nil (thenQ_normal (?_))
      refine HW.ret (?_)
      refine ⟨.inr rfl, vo, res_one rfl rfl, ?_⟩
      have e : L.take i = L := List.take_of_length_le (by omega)
      rw [e] at hA; exact ⟨hA, hE⟩

set_option maxRecDepth 100000 in
theorem rbeat_spec (base x : Nat) (D b : Int) (v : Value) (L : List (Int × Int)) (h0 : Heap) (hR : RefIs h0 base x D b v L) (hl : L.length ≤ 1000) (hb : 0 ≤ b ∧ b ≤ 1000000) (hLb : ∀ p ∈ L, 1 ≤ p.2 ∧ p.2 ≤ 1000) :
    HC Try.prog 24 #[.pointer (some ⟨x, 0, none⟩)] h0 fun u h' => OwnIs h' h0.size 3 1 encI u (wgone L) ∧ ∃ v', RefIs h' base x D (b + 1) v' (wrest L) ∧ OnlyL [x] h0 h' := by
  refine HC.of_HW (n := 70) Try.func24 rfl rfl (Nat.le_of_ble_eq_true rfl) ?_
  obtain ⟨hX, hL0, hxb, hbs⟩ := hR
  have hO := OnlyL.refl [x] h0
  have hvlt : ∀ y, blockOf v = some y → y < h0.size := fun y hy => hL0.lt hy
  have hvx : blockOf v ≠ some x := hL0.ne_lt hxb
  have hL := hL0.slice
  clear hL0
  have hli := hL.len_i
  refine HW.seq ?_
  refine HW.region ?_
  refine HO.val (v := .slice none 0 0) (want_none) rfl (q_assign rfl) ?_
  refine HO.nil (thenQ_normal (?_))
  refine HW.seq ?_
  refine HW.region ?_
  refine HO.eff (want_none) rfl (e_litEmpty tl_22) ?_
  rintro _ h1 ⟨b1, rfl, hn⟩
  replace hX := hX.ext hn.ext
  replace hL := hL.ext hn.ext
  replace hO := hO.ext hn.ext
  have hb1 : Blk h1 b1 (.cells #[] 3 (0, 0)) := hn.blk
  have hb1a := hn.at_; have hb1s := hn.size; clear hn
  have hA : OwnIs h1 b1 3 1 encI (.slice (some ⟨b1, 0, none⟩) 0 0) ([] : List Int) := OwnIs.lit (l := ([] : List Int)) hb1 (Nat.le_refl _) (by simp [maxLen]) (by simp) rfl
  refine HO.eff (want_none) rfl (e_litEmpty tl_40) ?_
  rintro _ h2 ⟨b2, rfl, hn⟩
  have hnehA_b2 := hA.ne_ge (Nat.le_of_eq hn.at_.symm)
  replace hX := hX.ext hn.ext
  replace hL := hL.ext hn.ext
  replace hO := hO.ext hn.ext
  replace hA := hA.ext hn.ext
  have hb2 : Blk h2 b2 (.cells #[] 39 (0, 0)) := hn.blk
  have hb2a := hn.at_; have hb2s := hn.size; clear hn
  have hN : OwnIs h2 b2 39 2 encII (.slice (some ⟨b2, 0, none⟩) 0 0) ([] : List (Int × Int)) := OwnIs.lit (l := ([] : List (Int × Int))) hb2 (Nat.le_refl _) (by simp [maxLen]) (by simp) rfl
  have hap1 : ∀ y, blockOf (.slice (some ⟨b2, 0, none⟩) 0 0) = some y → blockOf (.slice (some ⟨b1, 0, none⟩) 0 0) ≠ some y := by intro y hy; rw [← Option.some.inj (show some b2 = some y from hy)]; exact hnehA_b2
  refine HO.val (v := .slice (some ⟨b1, 0, none⟩) 0 0) (want_none) rfl (q_assign rfl) ?_
  refine HO.val (v := .slice (some ⟨b2, 0, none⟩) 0 0) (want_none) rfl (q_assign rfl) ?_
  refine HO.nil (thenQ_normal (?_))
  refine HW.seq ?_
  refine HW.region ?_
  refine HO.val (v := .pointer (some ⟨x, 0, none⟩)) (want_none) rfl (q_move rfl) ?_
  refine HO.val (v := .pointer (some ⟨x, 0, none⟩)) (want_none) rfl (q_nilCheck rfl) ?_
  refine HO.val (v := .pointer (some ⟨x, 1, none⟩)) (want_none) rfl (q_fieldAddr fa_42_1 rfl rfl) ?_
  refine HO.val (v := .int .i64 b) (want_none) rfl (q_load to_3 rfl (Blk.cell hX rfl)) ?_
  refine HO.val (v := .int .i64 (b + 1)) (want_none) rfl (q_addN (b + 1) rfl rfl rfl (by omega) (by omega)) ?_
  refine HO.val (v := .pointer (some ⟨x, 0, none⟩)) (want_none) rfl (q_nilCheck rfl) ?_
  refine HO.val (v := .pointer (some ⟨x, 1, none⟩)) (want_none) rfl (q_fieldAddr fa_42_1 rfl rfl) ?_
  refine HO.sto (want_none) rfl (s_store (c' := #[.int .i64 D, .int .i64 (b + 1), v]) to_3 hX rfl rfl rfl rfl (Nat.le_of_ble_eq_true rfl) rfl) ?_
  rintro h3 hu
  replace hL := hL.upd hu hvx
  replace hO := hO.upd hu (by simp)
  replace hA := hA.upd hu (hA.ne_lt (by omega))
  replace hN := hN.upd hu (hN.ne_lt (by omega))
  replace hX : Blk h3 x (.cells #[.int .i64 D, .int .i64 (b + 1), v] 42 (0, 0)) := hu.blk rfl
  have hus := hu.size; clear hu
  refine HO.nil (thenQ_normal (?_))
  refine HW.seq ?_
  refine HW.seq ?_
  refine HW.region ?_
  refine HO.val (v := .int .i64 0) (want_none) rfl (q_assign rfl) ?_
  refine HO.nil (thenQ_normal (?_))
  refine HW.block ?_
  refine HW.loop (S := Nat × Value × Value) (fun s f h => match s with | (i, vo, vr) => f 0 = .pointer (some ⟨x, 0, none⟩) ∧ f 3 = vo ∧ f 4 = vr ∧ f 5 = .int .i64 ((i : Nat) : Int) ∧ (Blk h x (.cells #[.int .i64 D, .int .i64 (b + 1), v] 42 (0, 0))) ∧ (SliceIs h 2 encII v L) ∧ (OnlyL [x] h0 h) ∧ (OwnIs h h0.size 3 1 encI vo (wgone (L.take i))) ∧ (OwnIs h h0.size 39 2 encII vr (wrest (L.take i))) ∧ (i ≤ L.length) ∧ (∀ y, blockOf vo = some y → blockOf vr ≠ some y)) (fun s => match s with | (i, vo, vr) => L.length - i) (0, .slice (some ⟨b1, 0, none⟩) 0 0, .slice (some ⟨b2, 0, none⟩) 0 0) ?_ ?_
  · refine ⟨rfl, rfl, rfl, rfl, ?_, ?_, ?_, ?_, ?_, ?_, ?_⟩
    · exact hX
    · exact hL
    · exact hO
    · exact hA.mono (by omega)
    · exact hN.mono (by omega)
    · omega
    · exact (fun y p q => hap1 y q p)
  · rintro ⟨i, vo, vr⟩ f4 hh4 ⟨e0, e3, e4, e5, hX, hL, hO, hA, hN, hi, hap⟩
    refine HW.fr [(0, .pointer (some ⟨x, 0, none⟩)), (3, vo), (4, vr), (5, .int .i64 ((i : Nat) : Int))] ⟨e0, e3, e4, e5, trivial⟩ ?_
    have hos := hO.size
    have hw1 := wgone_len L i
    have hw2 := wrest_len L i
    refine HW.seq ?_
    refine HW.seq ?_
    refine HW.region ?_
    refine HO.val (v := .int .i64 ((i : Nat) : Int)) (want_none) rfl (q_move rfl) ?_
    refine HO.val (v := .pointer (some ⟨x, 0, none⟩)) (want_none) rfl (q_move rfl) ?_
    refine HO.val (v := .pointer (some ⟨x, 0, none⟩)) (want_none) rfl (q_nilCheck rfl) ?_
    refine HO.val (v := .pointer (some ⟨x, 2, none⟩)) (want_none) rfl (q_fieldAddr fa_42_2 rfl rfl) ?_
    refine HO.val (v := v) (want_none) rfl (q_load to_40 rfl (Blk.cell hX rfl)) ?_
    refine HO.val (v := .int .i64 ((L.length : Nat) : Int)) (want_none) rfl (q_lenS ts_40 hL.shp rfl rfl) ?_
    refine HO.val (v := .bool (decide (((i : Nat) : Int) < ((L.length : Nat) : Int)))) (want_none) rfl (q_lss rfl rfl) ?_
    refine HO.nil (thenQ_normal (?_))
    refine HW.cond (decide (((i : Nat) : Int) < ((L.length : Nat) : Int))) rfl (fun c3 => ?_) (fun c3 => ?_)
    · have c3p := of_decide_eq_true c3
      refine HW.skip (thenQ_normal (?_))
      refine HW.seq ?_
      refine HW.block ?_
      refine HW.seq ?_
      refine HW.region ?_
      refine HO.val (v := .pointer (some ⟨x, 0, none⟩)) (want_none) rfl (q_move rfl) ?_
      refine HO.val (v := .pointer (some ⟨x, 0, none⟩)) (want_none) rfl (q_nilCheck rfl) ?_
      refine HO.val (v := .pointer (some ⟨x, 2, none⟩)) (want_none) rfl (q_fieldAddr fa_42_2 rfl rfl) ?_
      refine HO.val (v := v) (want_none) rfl (q_load to_40 rfl (Blk.cell hX rfl)) ?_
      refine HO.val (v := .int .i64 ((i : Nat) : Int)) (want_none) rfl (q_move rfl) ?_
      refine HO.val (v := elemPtr 2 v i) (want_none) rfl (q_indexAddr (i := i) ts_40 hL rfl rfl (by omega)) ?_
      refine HO.val (v := fieldPtr 2 v i 1) (want_none) rfl (q_fieldElemS fa_39_1 hL rfl (by omega)) ?_
      refine HO.val (v := .int .i64 ((L[i]'(by omega)).2)) (want_none) rfl (q_loadField to_3 hL rfl (by omega) (by decide) rfl) ?_
      refine HO.val (v := .bool (decide (((L[i]'(by omega)).2) = 1))) (want_none) rfl (q_eql rfl rfl) ?_
      refine HO.nil (thenQ_normal (?_))
      refine HW.cond (decide (((L[i]'(by omega)).2) = 1)) rfl (fun c4 => ?_) (fun c4 => ?_)
      · have c4p := of_decide_eq_true c4
        have hbd := hLb _ (List.getElem_mem (show i < L.length by omega))
        refine HW.region ?_
        refine HO.val (v := vo) (want_none) rfl (q_move rfl) ?_
        refine HO.val (v := .pointer (some ⟨x, 0, none⟩)) (want_none) rfl (q_move rfl) ?_
        refine HO.val (v := .pointer (some ⟨x, 0, none⟩)) (want_none) rfl (q_nilCheck rfl) ?_
        refine HO.val (v := .pointer (some ⟨x, 2, none⟩)) (want_none) rfl (q_fieldAddr fa_42_2 rfl rfl) ?_
        refine HO.val (v := v) (want_none) rfl (q_load to_40 rfl (Blk.cell hX rfl)) ?_
        refine HO.val (v := .int .i64 ((i : Nat) : Int)) (want_none) rfl (q_move rfl) ?_
        refine HO.val (v := elemPtr 2 v i) (want_none) rfl (q_indexAddr (i := i) ts_40 hL rfl rfl (by omega)) ?_
        refine HO.val (v := fieldPtr 2 v i 0) (want_none) rfl (q_fieldElemS fa_39_0 hL rfl (by omega)) ?_
        refine HO.val (v := .int .i64 ((L[i]'(by omega)).1)) (want_none) rfl (q_loadField to_3 hL rfl (by omega) (by decide) rfl) ?_
        refine HO.eff (want_none) rfl (e_lit (cells := #[.int .i64 ((L[i]'(by omega)).1)]) #[.int .i64 0] tl_22 (by decide) (by decide) (by kernel_rfl) rfl) ?_
        rintro _ h5 ⟨b5, rfl, hn⟩
        have hnehA_b5 := hA.ne_ge (Nat.le_of_eq hn.at_.symm)
        have hnehN_b5 := hN.ne_ge (Nat.le_of_eq hn.at_.symm)
        replace hX := hX.ext hn.ext
        replace hL := hL.ext hn.ext
        replace hO := hO.ext hn.ext
        replace hA := hA.ext hn.ext
        replace hN := hN.ext hn.ext
        have hb5 : Blk h5 b5 (.cells #[.int .i64 ((L[i]'(by omega)).1)] 3 (0, 0)) := hn.blk
        have hb5a := hn.at_; have hb5s := hn.size; clear hn
        have hS1 : SliceIs h5 1 encI (.slice (some ⟨b5, 0, none⟩) 1 1) [(L[i]'(by omega)).1] := (OwnIs.lit (base := 0) (E := 3) (l := [(L[i]'(by omega)).1]) hb5 (Nat.zero_le _) (by simp [maxLen]) (by simp [encI]) rfl).slice
        refine HO.eff (want_none) rfl (e_append te_22 hA hS1 rfl rfl rfl (by intro a _ u hu; simp [encI] at hu; first | (subst hu; rfl) | (rcases hu with rfl | rfl <;> rfl) | (rcases hu with rfl | rfl | rfl <;> rfl) | (rcases hu with rfl | rfl | rfl | rfl <;> rfl) | (rcases hu with rfl | rfl | rfl | rfl | rfl <;> rfl) | (rcases hu with rfl | rfl | rfl | rfl | rfl | rfl <;> rfl)) (by simp only [List.length_cons, List.length_nil]; omega) (by simp only [List.length_cons, List.length_nil]; omega) (by omega)) ?_
        rintro v6 h6 ⟨hO', hg⟩
        have haphN := hg.apart (fun y hy => hN.lt hy) (fun y p q => hap y q p)
        replace hX := hX.grown hg (hA.ne_lt (by omega))
        replace hL := hL.grown hg (fun y hy => hA.ne_lt (Nat.lt_of_lt_of_le (hvlt y hy) (by omega)))
        replace hO := hO.grownL hg (fun y hy => Nat.le_trans (by omega) (hA.ge hy))
        replace hN := hN.grown hg (fun y p q => hap y q p)
        replace hS1 := hS1.grown hg (by intro y hy; rw [← Option.some.inj (show some b5 = some y from hy)]; exact hnehA_b5)
        replace hnehA_b5 := hg.ne hnehA_b5 (by omega)
        have hap2 := haphN
        replace hA := hO'
        have hgs := hg.size; clear hg
        refine HO.val (v := v6) (want_none) rfl (q_assign rfl) ?_
        refine HO.nil (blockQ_normal (thenQ_normal (?_)))
        refine HW.region ?_
        refine HO.val (v := .int .i64 ((i : Nat) : Int)) (want_none) rfl (q_move rfl) ?_
        refine HO.val (v := .int .i64 ((i + 1 : Nat) : Int)) (want_none) rfl (q_addN ((i + 1 : Nat) : Int) rfl rfl (by omega) (by omega) (by omega)) ?_
        refine HO.val (v := .int .i64 ((i + 1 : Nat) : Int)) (want_none) rfl (q_assign rfl) ?_
        refine HO.nil (thenQ_normal (?_))
        refine ⟨(i + 1, v6, vr), ⟨rfl, rfl, rfl, rfl, ?_, ?_, ?_, ?_, ?_, ?_, ?_⟩, ?_⟩
        · exact hX
        · exact hL
        · exact hO
        · rw [wgone_step (by omega), if_pos (by assumption)]; exact hA
        · rw [wrest_step (by omega), if_pos (by assumption)]; exact hN
        · omega
        · exact (fun y p q => hap2 y q p)
        · dsimp only; omega
      · have c4p := of_decide_eq_false c4
        have hbd := hLb _ (List.getElem_mem (show i < L.length by omega))
        refine HW.regionD 22 mixed (fun h => (Blk h x (.cells #[.int .i64 D, .int .i64 (b + 1), v] 42 (0, 0))) ∧ (SliceIs h 2 encII v L) ∧ (OnlyL [x] h0 h) ∧ (OwnIs h h0.size 3 1 encI vo (wgone (L.take i)))) [] [(0, true), (1, true), (2, true), (3, true), (4, true), (5, true), (6, true), (7, true), (8, true), (9, true), (10, true), (11, true), (12, true), (13, true), (14, true), (15, true), (16, true), (17, true), (18, true), (19, false), (20, false), (21, true)] (by kernel_rfl) ?_
        refine HM.val (v := vr) rfl rfl (want_none) rfl (fun _ ⟨hX, hL, hO, hA⟩ => q_move rfl) ?_
        refine HM.val (v := .pointer (some ⟨x, 0, none⟩)) rfl rfl (want_none) rfl (fun _ ⟨hX, hL, hO, hA⟩ => q_move rfl) ?_
        refine HM.val (v := .pointer (some ⟨x, 0, none⟩)) rfl rfl (want_none) rfl (fun _ ⟨hX, hL, hO, hA⟩ => q_nilCheck rfl) ?_
        refine HM.val (v := .pointer (some ⟨x, 2, none⟩)) rfl rfl (want_none) rfl (fun _ ⟨hX, hL, hO, hA⟩ => q_fieldAddr fa_42_2 rfl rfl) ?_
        refine HM.val (v := v) rfl rfl (want_none) rfl (fun _ ⟨hX, hL, hO, hA⟩ => q_load to_40 rfl (Blk.cell hX rfl)) ?_
        refine HM.val (v := .int .i64 ((i : Nat) : Int)) rfl rfl (want_none) rfl (fun _ ⟨hX, hL, hO, hA⟩ => q_move rfl) ?_
        refine HM.val (v := elemPtr 2 v i) rfl rfl (want_none) rfl (fun _ ⟨hX, hL, hO, hA⟩ => q_indexAddr (i := i) ts_40 hL rfl rfl (by omega)) ?_
        refine HM.val (v := fieldPtr 2 v i 0) rfl rfl (want_none) rfl (fun _ ⟨hX, hL, hO, hA⟩ => q_fieldElemS fa_39_0 hL rfl (by omega)) ?_
        refine HM.val (v := .int .i64 ((L[i]'(by omega)).1)) rfl rfl (want_none) rfl (fun _ ⟨hX, hL, hO, hA⟩ => q_loadField to_3 hL rfl (by omega) (by decide) rfl) ?_
        refine HM.val (v := .pointer (some ⟨x, 0, none⟩)) rfl rfl (want_none) rfl (fun _ ⟨hX, hL, hO, hA⟩ => q_move rfl) ?_
        refine HM.val (v := .pointer (some ⟨x, 0, none⟩)) rfl rfl (want_none) rfl (fun _ ⟨hX, hL, hO, hA⟩ => q_nilCheck rfl) ?_
        refine HM.val (v := .pointer (some ⟨x, 2, none⟩)) rfl rfl (want_none) rfl (fun _ ⟨hX, hL, hO, hA⟩ => q_fieldAddr fa_42_2 rfl rfl) ?_
        refine HM.val (v := v) rfl rfl (want_none) rfl (fun _ ⟨hX, hL, hO, hA⟩ => q_load to_40 rfl (Blk.cell hX rfl)) ?_
        refine HM.val (v := .int .i64 ((i : Nat) : Int)) rfl rfl (want_none) rfl (fun _ ⟨hX, hL, hO, hA⟩ => q_move rfl) ?_
        refine HM.val (v := elemPtr 2 v i) rfl rfl (want_none) rfl (fun _ ⟨hX, hL, hO, hA⟩ => q_indexAddr (i := i) ts_40 hL rfl rfl (by omega)) ?_
        refine HM.val (v := fieldPtr 2 v i 1) rfl rfl (want_none) rfl (fun _ ⟨hX, hL, hO, hA⟩ => q_fieldElemS fa_39_1 hL rfl (by omega)) ?_
        refine HM.val (v := .int .i64 ((L[i]'(by omega)).2)) rfl rfl (want_none) rfl (fun _ ⟨hX, hL, hO, hA⟩ => q_loadField to_3 hL rfl (by omega) (by decide) rfl) ?_
        refine HM.val (v := .int .i64 (((L[i]'(by omega)).2) - 1)) rfl rfl (want_none) rfl (fun _ ⟨hX, hL, hO, hA⟩ => q_subN (((L[i]'(by omega)).2) - 1) rfl rfl rfl (by omega) (by omega)) ?_
        refine HM.val (v := .agg #[.int .i64 ((L[i]'(by omega)).1), .int .i64 (((L[i]'(by omega)).2) - 1)]) rfl rfl (want_none) rfl (fun _ ⟨hX, hL, hO, hA⟩ => q_build tp_39 rfl) ?_
        refine HM.eff ⟨⟨hX, hL, hO, hA⟩, Go.HL.at_nil _ _⟩ rfl (want_none) rfl (e_lit (cells := #[.int .i64 ((L[i]'(by omega)).1), .int .i64 (((L[i]'(by omega)).2) - 1)]) #[.int .i64 0, .int .i64 0] tl_40 (by decide) (by decide) (by kernel_rfl) rfl) ?_
        rintro _ h7 ⟨b7, rfl, hn⟩
        have hnehA_b7 := hA.ne_ge (Nat.le_of_eq hn.at_.symm)
        have hnehN_b7 := hN.ne_ge (Nat.le_of_eq hn.at_.symm)
        replace hX := hX.ext hn.ext
        replace hL := hL.ext hn.ext
        replace hO := hO.ext hn.ext
        replace hA := hA.ext hn.ext
        replace hN := hN.ext hn.ext
        have hb7 : Blk h7 b7 (.cells #[.int .i64 ((L[i]'(by omega)).1), .int .i64 (((L[i]'(by omega)).2) - 1)] 39 (0, 0)) := hn.blk
        have hb7a := hn.at_; have hb7s := hn.size; clear hn
        have hS1 : SliceIs h7 2 encII (.slice (some ⟨b7, 0, none⟩) 1 1) [((L[i]'(by omega)).1, ((L[i]'(by omega)).2) - 1)] := (OwnIs.lit (base := 0) (E := 39) (l := [((L[i]'(by omega)).1, ((L[i]'(by omega)).2) - 1)]) hb7 (Nat.zero_le _) (by simp [maxLen]) (by simp [encII]) rfl).slice
        refine HM.eff ⟨⟨hX, hL, hO, hA⟩, Go.HL.at_nil _ _⟩ rfl (want_none) rfl (e_append te_40 hN hS1 rfl rfl rfl (by intro a _ u hu; simp [encII] at hu; first | (subst hu; rfl) | (rcases hu with rfl | rfl <;> rfl) | (rcases hu with rfl | rfl | rfl <;> rfl) | (rcases hu with rfl | rfl | rfl | rfl <;> rfl) | (rcases hu with rfl | rfl | rfl | rfl | rfl <;> rfl) | (rcases hu with rfl | rfl | rfl | rfl | rfl | rfl <;> rfl)) (by simp only [List.length_cons, List.length_nil]; omega) (by simp only [List.length_cons, List.length_nil]; omega) (by omega)) ?_
        rintro v8 h8 ⟨hO', hg⟩
        have haphA := hg.apart (fun y hy => hA.lt hy) hap
        replace hX := hX.grown hg (hN.ne_lt (by omega))
        replace hL := hL.grown hg (fun y hy => hN.ne_lt (Nat.lt_of_lt_of_le (hvlt y hy) (by omega)))
        replace hO := hO.grownL hg (fun y hy => Nat.le_trans (by omega) (hN.ge hy))
        replace hA := hA.grown hg hap
        replace hS1 := hS1.grown hg (by intro y hy; rw [← Option.some.inj (show some b7 = some y from hy)]; exact hnehN_b7)
        replace hnehN_b7 := hg.ne hnehN_b7 (by omega)
        have hap3 := haphA
        replace hN := hO'
        have hgs := hg.size; clear hg
        refine HM.val (v := v8) rfl rfl (want_none) rfl (fun _ ⟨hX, hL, hO, hA⟩ => q_assign rfl) ?_
        refine HM.nil ⟨⟨hX, hL, hO, hA⟩, Go.HL.at_nil _ _⟩ (blockQ_normal (thenQ_normal (?_)))
        refine HW.region ?_
        refine HO.val (v := .int .i64 ((i : Nat) : Int)) (want_none) rfl (q_move rfl) ?_
        refine HO.val (v := .int .i64 ((i + 1 : Nat) : Int)) (want_none) rfl (q_addN ((i + 1 : Nat) : Int) rfl rfl (by omega) (by omega) (by omega)) ?_
        refine HO.val (v := .int .i64 ((i + 1 : Nat) : Int)) (want_none) rfl (q_assign rfl) ?_
        refine HO.nil (thenQ_normal (?_))
        refine ⟨(i + 1, vo, v8), ⟨rfl, rfl, rfl, rfl, ?_, ?_, ?_, ?_, ?_, ?_, ?_⟩, ?_⟩
        · exact hX
        · exact hL
        · exact hO
        · rw [wgone_step (by omega), if_neg (by assumption)]; exact hA
        · rw [wrest_step (by omega), if_neg (by assumption)]; exact hN
        · omega
        · exact hap3
        · dsimp only; omega
    · have c3p := of_decide_eq_false c3
      refine HW.exit (thenQ_exit (thenQ_exit (blockQ_exit (thenQ_normal (?_)))))
      refine HW.seq ?_
      refine HW.region ?_
      refine HO.val (v := .pointer (some ⟨x, 0, none⟩)) (want_none) rfl (q_move rfl) ?_
      refine HO.val (v := vr) (want_none) rfl (q_move rfl) ?_
      refine HO.val (v := .pointer (some ⟨x, 0, none⟩)) (want_none) rfl (q_nilCheck rfl) ?_
      refine HO.val (v := .pointer (some ⟨x, 2, none⟩)) (want_none) rfl (q_fieldAddr fa_42_2 rfl rfl) ?_
      refine HO.sto (want_none) rfl (s_store (c' := #[.int .i64 D, .int .i64 (b + 1), vr]) to_40 hX rfl rfl hN.slice.shp.cells hN.slice.shp.one (Nat.le_of_ble_eq_true rfl) rfl) ?_
      rintro h9 hu
      replace hL := hL.upd hu hvx
      replace hO := hO.upd hu (by simp)
      replace hA := hA.upd hu (hA.ne_lt (by omega))
      replace hN := hN.upd hu (hN.ne_lt (by omega))
      replace hX : Blk h9 x (.cells #[.int .i64 D, .int .i64 (b + 1), vr] 42 (0, 0)) := hu.blk rfl
      have hus := hu.size; clear hu
      refine HO.nil (thenQ_normal (?_))
      refine HW.seq ?_
      refine HW.region ?_
      refine HO.val (v := vo) (want_none) rfl (q_move rfl) ?_
      refine HO.val (v := vo) (want_none) rfl (q_assign rfl) ?_
      refine HO.nil (thenQ_normal (?_))
      refine HW.ret (?_)
      refine ⟨.inr rfl, vo, res_one rfl rfl, ?_⟩
      have e : L.take i = L := List.take_of_length_le (by omega)
      rw [e] at hA hN
      exact ⟨hA, _, ⟨hX, hN.mono (by omega), hxb, by omega⟩, hO⟩
end Go.HL.CI
