/- A clock of integers: the keys that are due (no more than a dozen), and taken out. -/
import Derived.Test.YtnemfpgfgblpbaaOps2
import Derived.Test.YtnemfpgfgblpbaaProg
import Derived.Test.YtnemfpgfgblpbaaSortPdq
set_option linter.unusedSimpArgs false
set_option linter.unusedVariables false
set_option linter.unusedSectionVars false
namespace Go.HL.CI
open Go.Proofs
theorem en_137 (args : Array Value) (w : World) : (callFunc 137 args).run Try.prog w = .ok (.enter 137 args) w := by kernel_rfl
theorem te_22 : TElem Try.prog 22 3 1 8 := ⟨Try.underlying22, ⟨Try.t3, .int .i64 0, by kernel_rfl, by kernel_rfl, by kernel_rfl, by kernel_rfl, by kernel_rfl⟩, by decide⟩
theorem en_120 (args : Array Value) (w : World) : (callFunc 120 args).run Try.prog w = .ok (.enter 120 args) w := by kernel_rfl
set_option maxRecDepth 100000 in
theorem sort_small (c r : Nat) (m : List (Int × Int)) (B : Nat) (v : Value) (l : List Int) (h0 : Heap) (hC : Blk h0 c (.cells #[.map (some r)] 159 (0, 0))) (hM : MapIs h0 r kI kI m) (hO : OwnIs h0 B 3 1 encI v l) (hvc : blockOf v ≠ some c) (hvr : blockOf v ≠ some r) (hlen : l.length ≤ 2305843009213693952) :
    HC Try.prog 137 #[v, .func (.func 130) #[.pointer (some ⟨c, 0, none⟩)] #[]] h0 fun u h' => u = .tuple #[] ∧ ∃ l', l'.Perm l ∧ Srt (bef m) l' ∧ OwnIs h' B 3 1 encI v l' ∧ Grown h0 h' v v := by
  refine HC.of_HW (n := 14) Try.func137 rfl rfl (Nat.le_of_ble_eq_true rfl) ?_
  refine HW.seq ?_
  refine HW.region ?_
  refine HO.val (v := v) (want_none) rfl (q_move rfl) ?_
  refine HO.val (v := .int .i64 ((l.length : Nat) : Int)) (want_none) rfl (q_len ts_22 hO.slice rfl rfl) ?_
  refine HO.val (v := .int .i64 ((l.length : Nat) : Int)) (want_none) rfl (q_assign rfl) ?_
  refine HO.nil (thenQ_normal (?_))
  refine HW.region ?_
  refine HO.val (v := v) (want_none) rfl (q_move rfl) ?_
  refine HO.val (v := .int .i64 ((l.length : Nat) : Int)) (want_none) rfl (q_move rfl) ?_
  refine HO.val (v := .int .i64 ((l.length : Nat) : Int)) (want_none) rfl (q_move rfl) ?_
  refine HO.val (v := .int .u64 ((l.length : Nat) : Int)) (want_none) rfl (q_convInt Try.underlying3 Try.underlying172 rfl (wrap_id (by simp [IntKind.min, IntKind.signed]) (by simp [IntKind.max, IntKind.signed, IntKind.bits] <;> omega))) ?_
  refine HO.call (want_none) rfl (ec en_136 rfl rfl) (HC.of_same (Try.bits_Len ((l.length : Nat) : Int) · (by omega) (by omega))) ?_
  rintro _ _ ⟨rfl, rfl⟩
  refine HO.val (v := .func (.func 130) #[.pointer (some ⟨c, 0, none⟩)] #[]) (want_none) rfl (q_move rfl) ?_
  refine HO.call (want_none) rfl (ec en_157 rfl rfl) (pdq_sorted c r m B v l _ hC hM hO hvc hvr hlen _ (bitLen_le l.length hlen)) ?_
  rintro _ h1 ⟨rfl, l', hp', hs', hO', hG', hC', hM'⟩
  refine HO.nil (?_)
  refine ⟨.inl rfl, .tuple #[], res_none rfl, ?_⟩
  exact ⟨rfl, l', hp', hs', hO', hG'⟩

theorem due_in {out : List Int} {rem rem' m : List (Int × Int)} {now kk vv : Int} (hp : (out ++ (rem.filter fun p => decide (p.2 ≤ now)).map Prod.fst).Perm ((m.filter fun p => decide (p.2 ≤ now)).map Prod.fst)) (hperm : rem.Perm ((kk, vv) :: rem')) (h : vv ≤ now) :
    ((out ++ [kk]) ++ (rem'.filter fun p => decide (p.2 ≤ now)).map Prod.fst).Perm ((m.filter fun p => decide (p.2 ≤ now)).map Prod.fst) := by
  refine List.Perm.trans ?_ hp
  have h1 := (hperm.filter fun p => decide (p.2 ≤ now)).map Prod.fst
  rw [List.filter_cons_of_pos (by simpa using h), List.map_cons] at h1
  rw [List.append_assoc]
  exact (h1.symm.append_left out)
theorem due_out {out : List Int} {rem rem' m : List (Int × Int)} {now kk vv : Int} (hp : (out ++ (rem.filter fun p => decide (p.2 ≤ now)).map Prod.fst).Perm ((m.filter fun p => decide (p.2 ≤ now)).map Prod.fst)) (hperm : rem.Perm ((kk, vv) :: rem')) (h : ¬ vv ≤ now) :
    (out ++ (rem'.filter fun p => decide (p.2 ≤ now)).map Prod.fst).Perm ((m.filter fun p => decide (p.2 ≤ now)).map Prod.fst) := by
  refine List.Perm.trans ?_ hp
  have h1 := (hperm.filter fun p => decide (p.2 ≤ now)).map Prod.fst
  rw [List.filter_cons_of_neg (by simpa using h)] at h1
  exact (h1.symm.append_left out)

set_option maxRecDepth 100000 in
theorem due_nil (now : Int) (h0 : Heap) :
    HC Try.prog 120 #[.pointer none, .int .i64 now] h0 fun u h' => u = .slice none 0 0 ∧ h0 = h' := by
  refine HC.of_HW (n := 32) Try.func120 rfl rfl (Nat.le_of_ble_eq_true rfl) ?_
  refine HW.seq ?_
  refine HW.region ?_
  refine HO.val (v := .slice none 0 0) (want_none) rfl (q_assign rfl) ?_
  refine HO.nil (thenQ_normal (?_))
  refine HW.seq ?_
  refine HW.region ?_
  refine HO.val (v := .slice none 0 0) (want_none) rfl (q_assign rfl) ?_
  refine HO.nil (thenQ_normal (?_))
  refine HW.seq ?_
  refine HW.seq ?_
  refine HW.region ?_
  refine HO.val (v := .pointer none) (want_none) rfl (q_move rfl) ?_
  refine HO.val (v := .bool true) (want_none) rfl (q_eqlPnil Try.underlying124 rfl rfl rfl) ?_
  refine HO.nil (thenQ_normal (?_))
  refine HW.condT rfl ?_
  refine HW.seq ?_
  refine HW.region ?_
  refine HO.val (v := .slice none 0 0) (want_none) rfl (q_assign rfl) ?_
  refine HO.nil (thenQ_normal (?_))
  refine HW.ret (thenQ_ret (?_))
  refine ⟨.inr rfl, .slice none 0 0, res_one rfl rfl, ?_⟩
  exact ⟨rfl, rfl⟩

set_option maxRecDepth 100000 in
theorem due_spec (c r : Nat) (m : List (Int × Int)) (h0 : Heap) (hC : Blk h0 c (.cells #[.map (some r)] 159 (0, 0))) (hM : MapIs h0 r kI kI m) (now : Int) (hcr : c ≠ r) (hml : m.length ≤ 1099511627776)  :
    HC Try.prog 120 #[.pointer (some ⟨c, 0, none⟩), .int .i64 now] h0 fun u h' => ∃ l, DueIs (bef m) m now l ∧ OwnIs h' h0.size 3 1 encI u l ∧ Ext h0 h' := by
  refine HC.of_HW (n := 32) Try.func120 rfl rfl (Nat.le_of_ble_eq_true rfl) ?_
  have hE := Ext.refl h0
  have hcl := hC.lt
  have hrl := hM.lt
  refine HW.seq ?_
  refine HW.region ?_
  refine HO.val (v := .slice none 0 0) (want_none) rfl (q_assign rfl) ?_
  refine HO.nil (thenQ_normal (?_))
  refine HW.seq ?_
  refine HW.region ?_
  refine HO.val (v := .slice none 0 0) (want_none) rfl (q_assign rfl) ?_
  refine HO.nil (thenQ_normal (?_))
  refine HW.seq ?_
  refine HW.seq ?_
  refine HW.region ?_
  refine HO.val (v := .pointer (some ⟨c, 0, none⟩)) (want_none) rfl (q_move rfl) ?_
  refine HO.val (v := .bool false) (want_none) rfl (q_eqlPnil Try.underlying124 rfl rfl rfl) ?_
  refine HO.nil (thenQ_normal (?_))
  refine HW.condF rfl ?_
  refine HW.skip (thenQ_normal (?_))
  refine HW.seq ?_
  refine HW.seq ?_
  refine HW.region ?_
  refine HO.val (v := .pointer (some ⟨c, 0, none⟩)) (want_none) rfl (q_move rfl) ?_
  refine HO.val (v := .pointer (some ⟨c, 0, none⟩)) (want_none) rfl (q_nilCheck rfl) ?_
  refine HO.val (v := .pointer (some ⟨c, 0, none⟩)) (want_none) rfl (q_fieldAddr fa_159_0 rfl rfl) ?_
  refine HO.val (v := .map (some r)) (want_none) rfl (q_load to_157 rfl (Blk.cell hC rfl)) ?_
  refine HO.eff (want_none) rfl (e_rangeMap Try.underlying157 hM rfl) ?_
  rintro _ h1 ⟨it1, _, rfl, hn, hI⟩
  replace hC := hC.ext hn.ext
  replace hM := hM.ext hn.ext
  replace hE := hE.trans hn.ext
  have hit1a := hn.at_; have hit1s := hn.size; clear hn
  refine HO.nil (thenQ_normal (?_))
  refine HW.block ?_
  refine HW.loop (S := Value × List Int × List (Int × Int)) (fun s f h => match s with | (v, out, rem) => f 0 = .pointer (some ⟨c, 0, none⟩) ∧ f 1 = .int .i64 now ∧ f 5 = v ∧ f 14 = .pointer (some ⟨it1, 0, none⟩) ∧ (Blk h c (.cells #[.map (some r)] 159 (0, 0))) ∧ (MapIs h r kI kI m) ∧ (Ext h0 h) ∧ (IterIs h it1 r kI kI m rem) ∧ (OwnIs h (it1 + 1) 3 1 encI v out) ∧ ((out ++ (rem.filter fun p => decide (p.2 ≤ now)).map Prod.fst).Perm ((m.filter fun p => decide (p.2 ≤ now)).map Prod.fst))) (fun s => match s with | (v, out, rem) => rem.length) (.slice none 0 0, [], m) ?_ ?_
  · refine ⟨rfl, rfl, rfl, rfl, ?_, ?_, ?_, ?_, ?_, ?_⟩
    · exact hC
    · exact hM
    · exact hE
    · exact hI
    · exact OwnIs.nil _ _ _ _ _
    · simp
  · rintro ⟨v, out, rem⟩ f2 hh2 ⟨e0, e1, e5, e14, hC, hM, hE, hI, hO, hp⟩
    refine HW.fr [(0, .pointer (some ⟨c, 0, none⟩)), (1, .int .i64 now), (5, v), (14, .pointer (some ⟨it1, 0, none⟩))] ⟨e0, e1, e5, e14, trivial⟩ ?_
    have hitl := hI.lt
    have hes := hE.size
    have hol : out.length ≤ m.length := by
      have h1 := hp.length_eq; have h2 := List.length_filter_le (fun p : Int × Int => decide (p.2 ≤ now)) m; simp at h1; omega
    refine HW.seq ?_
    refine HW.region ?_
    refine HO.eff (want_none) rfl (e_next hI rfl) ?_
    rintro _ h3 (⟨hrem, rfl, rfl⟩ | ⟨⟨kk, vv⟩, rem', hperm, rfl, _, hu, hcur⟩)
    · refine HO.val (v := .bool false) (want_none) rfl (q_extract rfl rfl) ?_
      refine HO.nil (thenQ_normal (?_))
      refine HW.seq ?_
      refine HW.condF rfl ?_
      refine HW.exit (thenQ_exit (thenQ_exit (blockQ_exit (thenQ_normal (?_)))))
      refine HW.seq ?_
      refine HW.region ?_
      refine HO.val (v := v) (want_none) rfl (q_move rfl) ?_
      refine HO.val (v := .pointer (some ⟨c, 0, none⟩)) (want_none) rfl (q_move rfl) ?_
      refine HO.val (v := .func (.func 130) #[.pointer (some ⟨c, 0, none⟩)] #[]) (want_none) rfl (q_makeFunc rfl rfl) ?_
      refine HO.call (want_none) rfl (ec en_137 rfl rfl) (sort_small c r m (it1 + 1) v out _ hC hM hO (hO.ne_lt (by omega)) (hO.ne_lt (by omega)) (by omega)) ?_
      rintro _ h4 ⟨rfl, l', hp', hs', hO', hG'⟩
      replace hE := hE.grown hG' hO (by omega)
      refine HO.nil (thenQ_normal (?_))
      refine HW.seq ?_
      refine HW.region ?_
      refine HO.val (v := v) (want_none) rfl (q_move rfl) ?_
      refine HO.val (v := v) (want_none) rfl (q_assign rfl) ?_
      refine HO.nil (thenQ_normal (?_))
      refine HW.ret (?_)
      refine ⟨.inr rfl, v, res_one rfl rfl, ?_⟩
      refine ⟨l', ⟨?_, hs'⟩, hO'.mono (by omega), hE⟩
      exact hp'.trans (by simpa [hrem] using hp)
    · replace hC := hC.upd hu (by omega)
      replace hM := hM.upd hu (by omega)
      replace hE := hE.upd hu (by omega)
      replace hO := hO.upd hu (hO.ne_lt (by omega))
      have hus := hu.size; clear hu
      refine HO.val (v := .bool true) (want_none) rfl (q_extract rfl rfl) ?_
      refine HO.nil (thenQ_normal (?_))
      refine HW.seq ?_
      refine HW.condT rfl ?_
      refine HW.skip (thenQ_normal (?_))
      refine HW.block ?_
      refine HW.seq ?_
      refine HW.region ?_
      refine HO.val (v := .tuple #[.int .i64 kk, .int .i64 vv]) (want_none) rfl (q_entry hcur rfl) ?_
      refine HO.val (v := .int .i64 kk) (want_none) rfl (q_extract rfl rfl) ?_
      refine HO.val (v := .int .i64 vv) (want_none) rfl (q_extract rfl rfl) ?_
      refine HO.val (v := .int .i64 kk) (want_none) rfl (q_assign rfl) ?_
      refine HO.val (v := .int .i64 vv) (want_none) rfl (q_assign rfl) ?_
      refine HO.nil (thenQ_normal (?_))
      refine HW.seq ?_
      refine HW.region ?_
      refine HO.val (v := .int .i64 vv) (want_none) rfl (q_move rfl) ?_
      refine HO.val (v := .int .i64 now) (want_none) rfl (q_move rfl) ?_
      refine HO.val (v := .bool (decide (vv ≤ now))) (want_none) rfl (q_leq rfl rfl) ?_
      refine HO.nil (thenQ_normal (?_))
      refine HW.cond (decide (vv ≤ now)) rfl (fun c2 => ?_) (fun c2 => ?_)
      · have c2p := of_decide_eq_true c2
        refine HW.region ?_
        refine HO.val (v := v) (want_none) rfl (q_move rfl) ?_
        refine HO.val (v := .int .i64 kk) (want_none) rfl (q_move rfl) ?_
        refine HO.eff (want_none) rfl (e_lit (cells := #[.int .i64 kk]) #[.int .i64 0] tl_22 (by decide) (by decide) (by kernel_rfl) rfl) ?_
        rintro _ h5 ⟨b3, rfl, hn⟩
        have hnehO_b3 := hO.ne_ge (Nat.le_of_eq hn.at_.symm)
        replace hC := hC.ext hn.ext
        replace hM := hM.ext hn.ext
        replace hE := hE.trans hn.ext
        replace hO := hO.ext hn.ext
        replace hcur := hcur.ext hn.ext
        have hb3 : Blk h5 b3 (.cells #[.int .i64 kk] 3 (0, 0)) := hn.blk
        have hb3a := hn.at_; have hb3s := hn.size; clear hn
        have hS1 : SliceIs h5 1 encI (.slice (some ⟨b3, 0, none⟩) 1 1) [kk] := (OwnIs.lit (base := 0) (E := 3) (l := [kk]) hb3 (Nat.zero_le _) (by simp [maxLen]) (by simp [encI]) rfl).slice
        refine HO.eff (want_none) rfl (e_append te_22 hO hS1 rfl rfl rfl (by intro a _ u hu; simp [encI] at hu; subst hu; rfl) (by try simp only [List.length_append, List.length_cons, List.length_nil]; omega) (by try simp only [List.length_append, List.length_cons, List.length_nil]; omega) (by omega)) ?_
        rintro v4 h6 ⟨hO', hg⟩
        replace hC := hC.grown hg (hO.ne_lt (by omega))
        replace hM := hM.grown hg (hO.ne_lt (by omega))
        replace hE := hE.grown hg hO (by omega)
        replace hcur := hcur.grown hg (hO.ne_lt (by omega)) (hO.ne_lt (by omega))
        replace hb3 := hb3.grown hg hnehO_b3
        replace hnehO_b3 := hg.ne hnehO_b3 (by omega)
        replace hO := hO'
        have hgs := hg.size; clear hg
        refine HO.val (v := v4) (want_none) rfl (q_assign rfl) ?_
        refine HO.nil (blockQ_normal (thenQ_normal (?_)))
        refine ⟨((v4, out ++ [kk], rem')), ⟨rfl, rfl, rfl, rfl, ?_, ?_, ?_, ?_, ?_, ?_⟩, ?_⟩
        · exact hC
        · exact hM
        · exact hE
        · exact hcur.is
        · exact hO
        · exact due_in hp hperm c2p
        · have := hperm.length_eq; dsimp only; simp at this; omega
      · have c2p := of_decide_eq_false c2
        refine HW.skip (blockQ_normal (thenQ_normal (?_)))
        refine ⟨((v, out, rem')), ⟨rfl, rfl, rfl, rfl, ?_, ?_, ?_, ?_, ?_, ?_⟩, ?_⟩
        · exact hC
        · exact hM
        · exact hE
        · exact hcur.is
        · exact hO
        · exact due_out hp hperm c2p
        · have := hperm.length_eq; dsimp only; simp at this; omega

theorem mdelL_nil (m : List (Int × Int)) : m.filter (fun p => decide (p.1 ∉ ([] : List Int))) = m := by rw [List.filter_eq_self]; intro p _; simp
theorem mdelL_snoc (m : List (Int × Int)) (l : List Int) (k : Int) : mdel (m.filter fun p => decide (p.1 ∉ l)) k = m.filter fun p => decide (p.1 ∉ l ++ [k]) := by
  unfold mdel; rw [List.filter_filter]; congr 1; funext p; rw [Bool.eq_iff_iff]; simp; constructor
  · rintro ⟨h1, h2⟩; exact ⟨h2, fun e => h1 e.symm⟩
  · rintro ⟨h1, h2⟩; exact ⟨fun e => h2 e.symm, h1⟩
theorem popped {m : List (Int × Int)} {now : Int} {l : List Int} (hn : (m.map Prod.fst).Nodup) (hd : DueIs (bef m) m now l) : (m.filter fun p => decide (p.1 ∉ l)) = m.filter fun p => decide (now < p.2) := by
  apply List.filter_congr
  intro p hp
  rw [Bool.eq_iff_iff, decide_eq_true_eq, decide_eq_true_eq, hd.perm.mem_iff, List.mem_map]
  constructor
  · intro h
    rcases Int.lt_or_le now p.2 with h' | h'
    · exact h'
    · exact absurd ⟨p, List.mem_filter.2 ⟨hp, by simpa using h'⟩, rfl⟩ h
  · rintro h ⟨q, hq, e⟩
    rw [List.mem_filter] at hq
    have h1 := (mem_iff_mget hn q.1 q.2).1 hq.1
    have h2 := (mem_iff_mget hn p.1 p.2).1 hp
    rw [e, h2] at h1
    injection h1 with h1
    have := of_decide_eq_true hq.2; omega

set_option maxRecDepth 100000 in
theorem pop_nil (now : Int) (h0 : Heap) :
    HC Try.prog 94 #[.pointer none, .int .i64 now] h0 fun u h' => u = .slice none 0 0 ∧ h0 = h' := by
  refine HC.of_HW (n := 24) Try.func94 rfl rfl (Nat.le_of_ble_eq_true rfl) ?_
  refine HW.seq ?_
  refine HW.region ?_
  refine HO.val (v := .slice none 0 0) (want_none) rfl (q_assign rfl) ?_
  refine HO.nil (thenQ_normal (?_))
  refine HW.seq ?_
  refine HW.region ?_
  refine HO.val (v := .pointer none) (want_none) rfl (q_move rfl) ?_
  refine HO.val (v := .int .i64 now) (want_none) rfl (q_move rfl) ?_
  refine HO.call (want_none) rfl (ec en_120 rfl rfl) (due_nil _ _) ?_
  rintro _ _ ⟨rfl, rfl⟩
  refine HO.val (v := .slice none 0 0) (want_none) rfl (q_assign rfl) ?_
  refine HO.nil (thenQ_normal (?_))
  refine HW.seq ?_
  refine HW.seq ?_
  refine HW.region ?_
  refine HO.val (v := .slice none 0 0) (want_none) rfl (q_move rfl) ?_
  refine HO.val (v := .int .i64 0) (want_none) rfl (q_lenNil Try.underlying22 rfl rfl) ?_
  refine HO.val (v := .int .i64 0) (want_none) rfl (q_move rfl) ?_
  refine HO.nil (thenQ_normal (?_))
  refine HW.block ?_
  refine HW.loop (S := Unit) (fun _s f h => f 0 = .pointer none ∧ f 5 = .slice none 0 0 ∧ f 11 = .slice none 0 0 ∧ f 12 = .int .i64 0 ∧ f 13 = .int .i64 0 ∧ (h0 = h)) (fun _s => 0) (()) ?_ ?_
  · refine ⟨rfl, rfl, rfl, rfl, rfl, ?_⟩
    rfl
  · rintro _s f1 hh1 ⟨e0, e5, e11, e12, e13, hh⟩
    refine HW.fr [(0, .pointer none), (5, .slice none 0 0), (11, .slice none 0 0), (12, .int .i64 0), (13, .int .i64 0)] ⟨e0, e5, e11, e12, e13, trivial⟩ ?_
    subst hh
    refine HW.seq ?_
    refine HW.region ?_
    refine HO.val (v := .bool (decide (0 < 0))) (want_none) rfl (q_lss rfl rfl) ?_
    refine HO.nil (thenQ_normal (?_))
    refine HW.seq ?_
    have k1 : (decide (0 < 0)) = false := by decide
    refine HW.condK false rfl k1 ?_
    refine HW.exit (thenQ_exit (thenQ_exit (blockQ_exit (thenQ_normal (?_)))))
    refine HW.seq ?_
    refine HW.region ?_
    refine HO.val (v := .slice none 0 0) (want_none) rfl (q_move rfl) ?_
    refine HO.val (v := .slice none 0 0) (want_none) rfl (q_assign rfl) ?_
    refine HO.nil (thenQ_normal (?_))
    refine HW.ret (?_)
    refine ⟨.inr rfl, .slice none 0 0, res_one rfl rfl, ?_⟩
    exact ⟨rfl, rfl⟩

set_option maxRecDepth 100000 in
theorem pop_spec (c r : Nat) (m : List (Int × Int)) (h0 : Heap) (hC : Blk h0 c (.cells #[.map (some r)] 159 (0, 0))) (hM : MapIs h0 r kI kI m) (now : Int) (hcr : c ≠ r) (hml : m.length ≤ 1099511627776)  :
    HC Try.prog 94 #[.pointer (some ⟨c, 0, none⟩), .int .i64 now] h0 fun u h' => ∃ l, DueIs (bef m) m now l ∧ OwnIs h' h0.size 3 1 encI u l ∧ ClockIs h' 159 c r kI (m.filter fun p => decide (now < p.2)) ∧ Only r h0 h' := by
  refine HC.of_HW (n := 24) Try.func94 rfl rfl (Nat.le_of_ble_eq_true rfl) ?_
  have hX := Only.refl r h0
  have hMn := hM.nodup
  have hrl := hM.lt
  refine HW.seq ?_
  refine HW.region ?_
  refine HO.val (v := .slice none 0 0) (want_none) rfl (q_assign rfl) ?_
  refine HO.nil (thenQ_normal (?_))
  refine HW.seq ?_
  refine HW.region ?_
  refine HO.val (v := .pointer (some ⟨c, 0, none⟩)) (want_none) rfl (q_move rfl) ?_
  refine HO.val (v := .int .i64 now) (want_none) rfl (q_move rfl) ?_
  refine HO.call (want_none) rfl (ec en_120 rfl rfl) (due_spec c r m _ hC hM now hcr hml) ?_
  rintro v h1 ⟨l, hd, hO, hx⟩
  replace hC := hC.ext hx
  replace hM := hM.ext hx
  replace hX := hX.ext hx
  refine HO.val (v := v) (want_none) rfl (q_assign rfl) ?_
  refine HO.nil (thenQ_normal (?_))
  refine HW.seq ?_
  refine HW.seq ?_
  refine HW.region ?_
  refine HO.val (v := v) (want_none) rfl (q_move rfl) ?_
  refine HO.val (v := .int .i64 ((l.length : Nat) : Int)) (want_none) rfl (q_len ts_22 hO.slice rfl rfl) ?_
  refine HO.val (v := .int .i64 0) (want_none) rfl (q_move rfl) ?_
  refine HO.nil (thenQ_normal (?_))
  refine HW.block ?_
  refine HW.loop (S := Nat) (fun i f h => f 0 = .pointer (some ⟨c, 0, none⟩) ∧ f 5 = v ∧ f 11 = v ∧ f 12 = .int .i64 ((l.length : Nat) : Int) ∧ f 13 = .int .i64 ((i : Nat) : Int) ∧ (Blk h c (.cells #[.map (some r)] 159 (0, 0))) ∧ (MapIs h r kI kI (m.filter fun p => decide (p.1 ∉ l.take i))) ∧ (OwnIs h h0.size 3 1 encI v l) ∧ (Only r h0 h) ∧ (i ≤ l.length)) (fun i => l.length - i) (0) ?_ ?_
  · refine ⟨rfl, rfl, rfl, rfl, rfl, ?_, ?_, ?_, ?_, ?_⟩
    · exact hC
    · rw [List.take_zero, mdelL_nil]; exact hM
    · exact hO
    · exact hX
    · omega
  · rintro i f2 hh2 ⟨e0, e5, e11, e12, e13, hC, hM, hO, hX, hi⟩
    refine HW.fr [(0, .pointer (some ⟨c, 0, none⟩)), (5, v), (11, v), (12, .int .i64 ((l.length : Nat) : Int)), (13, .int .i64 ((i : Nat) : Int))] ⟨e0, e5, e11, e12, e13, trivial⟩ ?_
    have hln := hO.len_i
    refine HW.seq ?_
    refine HW.region ?_
    refine HO.val (v := .bool (decide (((i : Nat) : Int) < ((l.length : Nat) : Int)))) (want_none) rfl (q_lss rfl rfl) ?_
    refine HO.nil (thenQ_normal (?_))
    refine HW.seq ?_
    refine HW.cond (decide (((i : Nat) : Int) < ((l.length : Nat) : Int))) rfl (fun c1 => ?_) (fun c1 => ?_)
    · have c1p := of_decide_eq_true c1
      refine HW.skip (thenQ_normal (?_))
      refine HW.seq ?_
      refine HW.block ?_
      refine HW.seq ?_
      refine HW.region ?_
      refine HO.val (v := elemPtr 1 v i) (want_none) rfl (q_indexAddr (i := i) ts_22 hO.slice rfl rfl (by omega)) ?_
      refine HO.val (v := .int .i64 (l[i])) (want_none) rfl (q_loadElem to_3 hO.slice rfl (by omega) rfl) ?_
      refine HO.val (v := .int .i64 (l[i])) (want_none) rfl (q_assign rfl) ?_
      refine HO.nil (thenQ_normal (?_))
      refine HW.region ?_
      refine HO.val (v := .pointer (some ⟨c, 0, none⟩)) (want_none) rfl (q_move rfl) ?_
      refine HO.val (v := .pointer (some ⟨c, 0, none⟩)) (want_none) rfl (q_nilCheck rfl) ?_
      refine HO.val (v := .pointer (some ⟨c, 0, none⟩)) (want_none) rfl (q_fieldAddr fa_159_0 rfl rfl) ?_
      refine HO.val (v := .map (some r)) (want_none) rfl (q_load to_157 rfl (Blk.cell hC rfl)) ?_
      refine HO.val (v := .int .i64 (l[i])) (want_none) rfl (q_move rfl) ?_
      refine HO.eff (want_none) rfl (e_delete (k := l[i]) keyOk_int tm_157 hM rfl rfl rfl) ?_
      rintro _ h3 ⟨rfl, _, hu, hm⟩
      replace hC := hC.upd hu hcr
      replace hO := hO.upd hu (hO.ne_lt (by omega))
      replace hX := hX.upd hu
      replace hM := hm
      have hus := hu.size; clear hm
      refine HO.nil (blockQ_normal (thenQ_normal (?_)))
      refine HW.region ?_
      refine HO.val (v := .int .i64 ((i + 1 : Nat) : Int)) (want_none) rfl (q_addN ((i + 1 : Nat) : Int) rfl rfl (by omega) (by omega) (by omega)) ?_
      refine HO.val (v := .int .i64 ((i + 1 : Nat) : Int)) (want_none) rfl (q_move rfl) ?_
      refine HO.nil (thenQ_normal (?_))
      refine ⟨(i + 1), ⟨rfl, rfl, rfl, rfl, rfl, ?_, ?_, ?_, ?_, ?_⟩, ?_⟩
      · exact hC
      · rw [mdelL_snoc, List.take_append_getElem] at hM; exact hM
      · exact hO
      · exact hX
      · omega
      · omega
    · have c1p := of_decide_eq_false c1
      refine HW.exit (thenQ_exit (thenQ_exit (blockQ_exit (thenQ_normal (?_)))))
      refine HW.seq ?_
      refine HW.region ?_
      refine HO.val (v := v) (want_none) rfl (q_move rfl) ?_
      refine HO.val (v := v) (want_none) rfl (q_assign rfl) ?_
      refine HO.nil (thenQ_normal (?_))
      refine HW.ret (?_)
      refine ⟨.inr rfl, v, res_one rfl rfl, ?_⟩
      rw [List.take_of_length_le (by omega), popped hMn hd] at hM
      exact ⟨l, hd, hO, ⟨hC, hM⟩, hX⟩
end Go.HL.CI
