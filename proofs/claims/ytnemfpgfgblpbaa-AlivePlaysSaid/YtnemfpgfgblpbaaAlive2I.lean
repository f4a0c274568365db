/- Who is there: what the laws call beside. -/
import Derived.Test.YtnemfpgfgblpbaaOps2
import Derived.Test.YtnemfpgfgblpbaaProg
import Derived.Test.YtnemfpgfgblpbaaAliveI
set_option linter.unusedSimpArgs false
set_option linter.unusedVariables false
set_option linter.unusedSectionVars false
namespace Go.HL.CI
open Go.Proofs

set_option maxRecDepth 100000 in
theorem has_spec (v : Value) (l : List Int) (n : Int) (h0 : Heap) (hS : SliceIs h0 1 encI v l) :
    HC Try.prog 17 #[v, .int .i64 n] h0 fun u h' => u = .bool (decide (n ∈ l)) ∧ h' = h0 := by
  refine HC.of_HW (n := 18) Try.func17 rfl rfl (Nat.le_of_ble_eq_true rfl) ?_
  refine HW.seq ?_
  refine HW.region ?_
  refine HO.val (v := .bool false) (want_none) rfl (q_assign rfl) ?_
  refine HO.nil (thenQ_normal (?_))
  refine HW.seq ?_
  refine HW.seq ?_
  refine HW.region ?_
  refine HO.val (v := .int .i64 0) (want_none) rfl (q_assign rfl) ?_
  refine HO.nil (thenQ_normal (?_))
  refine HW.block ?_
  refine HW.loop (S := Nat) (fun i f h => f 0 = v ∧ f 1 = .int .i64 n ∧ f 5 = .int .i64 ((i : Nat) : Int) ∧ (SliceIs h 1 encI v l) ∧ (i ≤ l.length) ∧ (∀ j (h : j < l.length), j < i → l[j] ≠ n) ∧ (h0 = h)) (fun i => l.length - i) (0) ?_ ?_
  · refine ⟨rfl, rfl, rfl, ?_, ?_, ?_, ?_⟩
    · exact hS
    · omega
    · intro j h hj; omega
    · rfl
  · rintro i f1 hh1 ⟨e0, e1, e5, hS, hi, hz, hh⟩
    refine HW.fr [(0, v), (1, .int .i64 n), (5, .int .i64 ((i : Nat) : Int))] ⟨e0, e1, e5, trivial⟩ ?_
    subst hh; have hn := hS.len_i
    refine HW.seq ?_
    refine HW.seq ?_
    refine HW.region ?_
    refine HO.val (v := .int .i64 ((i : Nat) : Int)) (want_none) rfl (q_move rfl) ?_
    refine HO.val (v := v) (want_none) rfl (q_move rfl) ?_
    refine HO.val (v := .int .i64 ((l.length : Nat) : Int)) (want_none) rfl (q_len ts_22 hS rfl rfl) ?_
    refine HO.val (v := .bool (decide (((i : Nat) : Int) < ((l.length : Nat) : Int)))) (want_none) rfl (q_lss rfl rfl) ?_
    refine HO.nil (thenQ_normal (?_))
    refine HW.cond (decide (((i : Nat) : Int) < ((l.length : Nat) : Int))) rfl (fun c1 => ?_) (fun c1 => ?_)
    · have c1p := of_decide_eq_true c1
      refine HW.skip (thenQ_normal (?_))
      refine HW.seq ?_
      refine HW.block ?_
      refine HW.seq ?_
      refine HW.region ?_
      refine HO.val (v := v) (want_none) rfl (q_move rfl) ?_
      refine HO.val (v := .int .i64 ((i : Nat) : Int)) (want_none) rfl (q_move rfl) ?_
      refine HO.val (v := elemPtr 1 v i) (want_none) rfl (q_indexAddr (i := i) ts_22 hS rfl rfl (by omega)) ?_
      refine HO.val (v := .int .i64 (l[i])) (want_none) rfl (q_loadElem to_3 hS rfl (by omega) rfl) ?_
      refine HO.val (v := .int .i64 n) (want_none) rfl (q_move rfl) ?_
      refine HO.val (v := .bool (decide ((l[i]) = n))) (want_none) rfl (q_eql rfl rfl) ?_
      refine HO.nil (thenQ_normal (?_))
      refine HW.cond (decide ((l[i]) = n)) rfl (fun c2 => ?_) (fun c2 => ?_)
      · have c2p := of_decide_eq_true c2
        refine HW.seq ?_
        refine HW.region ?_
        refine HO.val (v := .bool true) (want_none) rfl (q_assign rfl) ?_
        refine HO.nil (thenQ_normal (?_))
        refine HW.ret (blockQ_ret (thenQ_ret (thenQ_ret (blockQ_ret (thenQ_ret (?_))))))
        refine ⟨.inr rfl, .bool true, res_one rfl rfl, ?_⟩
        refine ⟨?_, rfl⟩
        rw [decide_eq_true (by have := List.getElem_mem (l := l) (n := i) (by omega); rw [c2p] at this; exact this)]
      · have c2p := of_decide_eq_false c2
        refine HW.skip (blockQ_normal (thenQ_normal (?_)))
        refine HW.region ?_
        refine HO.val (v := .int .i64 ((i : Nat) : Int)) (want_none) rfl (q_move rfl) ?_
        refine HO.val (v := .int .i64 ((i + 1 : Nat) : Int)) (want_none) rfl (q_addN ((i + 1 : Nat) : Int) rfl rfl (by omega) (by omega) (by omega)) ?_
        refine HO.val (v := .int .i64 ((i + 1 : Nat) : Int)) (want_none) rfl (q_assign rfl) ?_
        refine HO.nil (thenQ_normal (?_))
        refine ⟨(i + 1), ⟨rfl, rfl, rfl, ?_, ?_, ?_, ?_⟩, ?_⟩
        · exact hS
        · omega
        · intro j h hj; by_cases e : j = i
          · subst e; exact c2p
          · exact hz j h (by omega)
        · rfl
        · omega
    · have c1p := of_decide_eq_false c1
      refine HW.exit (thenQ_exit (thenQ_exit (blockQ_exit (thenQ_normal (?_)))))
      refine HW.seq ?_
      refine HW.region ?_
      refine HO.val (v := .bool false) (want_none) rfl (q_assign rfl) ?_
      refine HO.nil (thenQ_normal (?_))
      refine HW.ret (?_)
      refine ⟨.inr rfl, .bool false, res_one rfl rfl, ?_⟩
      refine ⟨?_, rfl⟩
      rw [decide_eq_false]
      intro hm; obtain ⟨j, hj, e⟩ := List.mem_iff_getElem.1 hm; exact hz j hj (by omega) e

set_option maxRecDepth 100000 in
theorem same_spec (va vb : Value) (a b : List Int) (h0 : Heap) (hA : SliceIs h0 1 encI va a) (hB : SliceIs h0 1 encI vb b) :
    HC Try.prog 23 #[va, vb] h0 fun u h' => u = .bool (decide (a = b)) ∧ h' = h0 := by
  refine HC.of_HW (n := 26) Try.func23 rfl rfl (Nat.le_of_ble_eq_true rfl) ?_
  refine HW.seq ?_
  refine HW.region ?_
  refine HO.val (v := .bool false) (want_none) rfl (q_assign rfl) ?_
  refine HO.nil (thenQ_normal (?_))
  refine HW.seq ?_
  refine HW.seq ?_
  refine HW.region ?_
  refine HO.val (v := va) (want_none) rfl (q_move rfl) ?_
  refine HO.val (v := .int .i64 ((a.length : Nat) : Int)) (want_none) rfl (q_len ts_22 hA rfl rfl) ?_
  refine HO.val (v := vb) (want_none) rfl (q_move rfl) ?_
  refine HO.val (v := .int .i64 ((b.length : Nat) : Int)) (want_none) rfl (q_len ts_22 hB rfl rfl) ?_
  refine HO.val (v := .bool (!decide (((a.length : Nat) : Int) = ((b.length : Nat) : Int)))) (want_none) rfl (q_neq rfl rfl) ?_
  refine HO.nil (thenQ_normal (?_))
  refine HW.cond (!decide (((a.length : Nat) : Int) = ((b.length : Nat) : Int))) rfl (fun c1 => ?_) (fun c1 => ?_)
  · have c1p : ¬ (((a.length : Nat) : Int) = ((b.length : Nat) : Int)) := by simpa using c1
    refine HW.seq ?_
    refine HW.region ?_
    refine HO.val (v := .bool false) (want_none) rfl (q_assign rfl) ?_
    refine HO.nil (thenQ_normal (?_))
    refine HW.ret (thenQ_ret (?_))
    refine ⟨.inr rfl, .bool false, res_one rfl rfl, ?_⟩
    refine ⟨?_, rfl⟩
    rw [decide_eq_false]
    rintro rfl; first | exact absurd rfl c3p | exact absurd rfl c1p | simp at c1 | simp at c3
  · have c1p : (((a.length : Nat) : Int) = ((b.length : Nat) : Int)) := by simpa using c1
    refine HW.skip (thenQ_normal (?_))
    refine HW.seq ?_
    refine HW.seq ?_
    refine HW.region ?_
    refine HO.val (v := .int .i64 0) (want_none) rfl (q_assign rfl) ?_
    refine HO.nil (thenQ_normal (?_))
    refine HW.block ?_
    refine HW.loop (S := Nat) (fun i f h => f 0 = va ∧ f 1 = vb ∧ f 5 = .int .i64 ((i : Nat) : Int) ∧ (SliceIs h 1 encI va a) ∧ (SliceIs h 1 encI vb b) ∧ (i ≤ a.length) ∧ (a.length = b.length) ∧ (∀ j (h1 : j < a.length) (h2 : j < b.length), j < i → a[j] = b[j]) ∧ (h0 = h)) (fun i => a.length - i) (0) ?_ ?_
    · refine ⟨rfl, rfl, rfl, ?_, ?_, ?_, ?_, ?_, ?_⟩
      · exact hA
      · exact hB
      · omega
      · omega
      · intro j h1 h2 hj; omega
      · rfl
    · rintro i f1 hh1 ⟨e0, e1, e5, hA, hB, hi, hl, hz, hh⟩
      refine HW.fr [(0, va), (1, vb), (5, .int .i64 ((i : Nat) : Int))] ⟨e0, e1, e5, trivial⟩ ?_
      subst hh; have hn := hA.len_i
      refine HW.seq ?_
      refine HW.seq ?_
      refine HW.region ?_
      refine HO.val (v := .int .i64 ((i : Nat) : Int)) (want_none) rfl (q_move rfl) ?_
      refine HO.val (v := va) (want_none) rfl (q_move rfl) ?_
      refine HO.val (v := .int .i64 ((a.length : Nat) : Int)) (want_none) rfl (q_len ts_22 hA rfl rfl) ?_
      refine HO.val (v := .bool (decide (((i : Nat) : Int) < ((a.length : Nat) : Int)))) (want_none) rfl (q_lss rfl rfl) ?_
      refine HO.nil (thenQ_normal (?_))
      refine HW.cond (decide (((i : Nat) : Int) < ((a.length : Nat) : Int))) rfl (fun c2 => ?_) (fun c2 => ?_)
      · have c2p := of_decide_eq_true c2
        refine HW.skip (thenQ_normal (?_))
        refine HW.seq ?_
        refine HW.block ?_
        refine HW.seq ?_
        refine HW.regionD 9 mixed (fun h => (SliceIs h 1 encI va a) ∧ (SliceIs h 1 encI vb b)) [] [(0, true), (1, true), (2, true), (3, true), (4, true), (5, true), (6, true), (7, true), (8, true)] (by kernel_rfl) ?_
        refine HM.val (v := va) rfl rfl (want_none) rfl (fun _ ⟨hA, hB⟩ => q_move rfl) ?_
        refine HM.val (v := .int .i64 ((i : Nat) : Int)) rfl rfl (want_none) rfl (fun _ ⟨hA, hB⟩ => q_move rfl) ?_
        refine HM.val (v := elemPtr 1 va i) rfl rfl (want_none) rfl (fun _ ⟨hA, hB⟩ => q_indexAddr (i := i) ts_22 hA rfl rfl (by omega)) ?_
        refine HM.val (v := .int .i64 (a[i])) rfl rfl (want_none) rfl (fun _ ⟨hA, hB⟩ => q_loadElem to_3 hA rfl (by omega) rfl) ?_
        refine HM.val (v := vb) rfl rfl (want_none) rfl (fun _ ⟨hA, hB⟩ => q_move rfl) ?_
        refine HM.val (v := .int .i64 ((i : Nat) : Int)) rfl rfl (want_none) rfl (fun _ ⟨hA, hB⟩ => q_move rfl) ?_
        refine HM.val (v := elemPtr 1 vb i) rfl rfl (want_none) rfl (fun _ ⟨hA, hB⟩ => q_indexAddr (i := i) ts_22 hB rfl rfl (by omega)) ?_
        refine HM.val (v := .int .i64 (b[i])) rfl rfl (want_none) rfl (fun _ ⟨hA, hB⟩ => q_loadElem to_3 hB rfl (by omega) rfl) ?_
        refine HM.val (v := .bool (!decide ((a[i]) = (b[i])))) rfl rfl (want_none) rfl (fun _ ⟨hA, hB⟩ => q_neq rfl rfl) ?_
        refine HM.nil ⟨⟨hA, hB⟩, Go.HL.at_nil _ _⟩ (thenQ_normal (?_))
        refine HW.cond (!decide ((a[i]) = (b[i]))) rfl (fun c3 => ?_) (fun c3 => ?_)
        · have c3p : ¬ ((a[i]) = (b[i])) := by simpa using c3
          refine HW.seq ?_
          refine HW.region ?_
          refine HO.val (v := .bool false) (want_none) rfl (q_assign rfl) ?_
          refine HO.nil (thenQ_normal (?_))
          refine HW.ret (blockQ_ret (thenQ_ret (thenQ_ret (blockQ_ret (thenQ_ret (?_))))))
          refine ⟨.inr rfl, .bool false, res_one rfl rfl, ?_⟩
          refine ⟨?_, rfl⟩
          rw [decide_eq_false]
          rintro rfl; first | exact absurd rfl c3p | exact absurd rfl c1p | simp at c1 | simp at c3
        · have c3p : ((a[i]) = (b[i])) := by simpa using c3
          refine HW.skip (blockQ_normal (thenQ_normal (?_)))
          refine HW.region ?_
          refine HO.val (v := .int .i64 ((i : Nat) : Int)) (want_none) rfl (q_move rfl) ?_
          refine HO.val (v := .int .i64 ((i + 1 : Nat) : Int)) (want_none) rfl (q_addN ((i + 1 : Nat) : Int) rfl rfl (by omega) (by omega) (by omega)) ?_
          refine HO.val (v := .int .i64 ((i + 1 : Nat) : Int)) (want_none) rfl (q_assign rfl) ?_
          refine HO.nil (thenQ_normal (?_))
          refine ⟨(i + 1), ⟨rfl, rfl, rfl, ?_, ?_, ?_, ?_, ?_, ?_⟩, ?_⟩
          · exact hA
          · exact hB
          · omega
          · exact hl
          · intro j h1 h2 hj; by_cases e : j = i
            · subst e; simpa using c3p
            · exact hz j h1 h2 (by omega)
          · rfl
          · omega
      · have c2p := of_decide_eq_false c2
        refine HW.exit (thenQ_exit (thenQ_exit (blockQ_exit (thenQ_normal (?_)))))
        refine HW.seq ?_
        refine HW.region ?_
        refine HO.val (v := .bool true) (want_none) rfl (q_assign rfl) ?_
        refine HO.nil (thenQ_normal (?_))
        refine HW.ret (?_)
        refine ⟨.inr rfl, .bool true, res_one rfl rfl, ?_⟩
        refine ⟨?_, rfl⟩
        rw [decide_eq_true (List.ext_getElem hl fun j h1 h2 => hz j h1 h2 (by omega))]
end Go.HL.CI
