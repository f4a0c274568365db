/- Go's pdqsort by a clock's order: patterns broken. -/
import Derived.Test.YtnemfpgfgblpbaaSortPivot
import Derived.Test.YtnemfpgfgblpbaaOpsBits
import Derived.Sort.WalkA14
set_option linter.unusedSimpArgs false
set_option linter.unusedVariables false
set_option linter.unusedSectionVars false
namespace Go.HL.CI
open Go.Proofs Go.Sort
theorem to_206 : TOne Try.prog 206 := ⟨Try.isAgg206, Try.sizeOf206⟩
theorem en_136 (args : Array Value) (w : World) : (callFunc 136 args).run Try.prog w = .ok (.enter 136 args) w := by kernel_rfl
theorem tz_206 : TZero Try.prog 206 (.int .u64 0) := Try.zeroValue206
theorem en_185 (args : Array Value) (w : World) : (callFunc 185 args).run Try.prog w = .ok (.enter 185 args) w := by kernel_rfl
theorem en_186 (args : Array Value) (w : World) : (callFunc 186 args).run Try.prog w = .ok (.enter 186 args) w := by kernel_rfl
theorem xor_lt {a b : Nat} (ha : a < 18446744073709551616) (hb : b < 18446744073709551616) : a ^^^ b < 18446744073709551616 := Nat.xor_lt_two_pow (n := 64) (by omega) (by omega)

set_option maxRecDepth 100000 in
theorem xnext_spec (q X : Nat) (h0 : Heap) (hQ : Blk h0 q (.cells #[.int .u64 ((X : Nat) : Int)] 206 (0, 0))) (hXl : X < 18446744073709551616) :
    HC Try.prog 186 #[.pointer (some ⟨q, 0, none⟩)] h0 fun u h' => u = .int .u64 ((xorNextN X : Nat) : Int) ∧ Blk h' q (.cells #[.int .u64 ((xorNextN X : Nat) : Int)] 206 (0, 0)) ∧ OnlyL [q] h0 h' := by
  refine HC.of_HW (n := 33) Try.func186 rfl rfl (Nat.le_of_ble_eq_true rfl) ?_
  have hX := OnlyL.refl [q] h0
  refine HW.seq ?_
  refine HW.region ?_
  refine HO.val (v := .int .u64 0) (want_none) rfl (q_assign rfl) ?_
  refine HO.nil (thenQ_normal (?_))
  refine HW.seq ?_
  refine HW.regionD 10 mixed (fun h => True) [(9, fun h => Blk h q (.cells #[.int .u64 ((X : Nat) : Int)] 206 (0, 0)))] [(0, true), (1, true), (2, true), (3, true), (4, true), (5, true), (6, true), (7, true), (8, true), (9, false)] (by kernel_rfl) ?_
  refine HM.val (v := .pointer (some ⟨q, 0, none⟩)) rfl rfl (want_none) rfl (fun _ _ => q_move rfl) ?_
  refine HM.val (v := .pointer (some ⟨q, 0, none⟩)) rfl rfl (want_none) rfl (fun _ _ => q_nilCheck rfl) ?_
  refine HM.valT (v := .int .u64 ((X : Nat) : Int)) 9 (fun h => Blk h q (.cells #[.int .u64 ((X : Nat) : Int)] 206 (0, 0))) rfl rfl (want_none) rfl (by simp) (by kernel_rfl) (fun _ _ hQ => q_load to_206 rfl (Blk.cell hQ rfl)) ?_
  refine HM.val (v := .pointer (some ⟨q, 0, none⟩)) rfl rfl (want_none) rfl (fun _ _ => q_move rfl) ?_
  refine HM.val (v := .pointer (some ⟨q, 0, none⟩)) rfl rfl (want_none) rfl (fun _ _ => q_nilCheck rfl) ?_
  refine HM.valT (v := .int .u64 ((X : Nat) : Int)) 9 (fun h => Blk h q (.cells #[.int .u64 ((X : Nat) : Int)] 206 (0, 0))) rfl rfl (want_none) rfl (by simp) (by kernel_rfl) (fun _ _ hQ => q_load to_206 rfl (Blk.cell hQ rfl)) ?_
  refine HM.val (v := .int .u64 ((X * 2 ^ 13 % 18446744073709551616 : Nat) : Int)) rfl rfl (want_none) rfl (fun _ _ => q_shl64 13 rfl rfl (by omega) rfl) ?_
  refine HM.val (v := .int .u64 ((X ^^^ (X * 2 ^ 13 % 18446744073709551616) : Nat) : Int)) rfl rfl (want_none) rfl (fun _ _ => q_xor64 rfl rfl (by omega) (by omega) rfl) ?_
  refine HM.val (v := .pointer (some ⟨q, 0, none⟩)) rfl rfl (want_none) rfl (fun _ _ => q_nilCheck rfl) ?_
  obtain ⟨A, hA⟩ : ∃ y : Nat, y = X ^^^ (X * 2 ^ 13 % 18446744073709551616) := ⟨_, rfl⟩
  have lA : A < 18446744073709551616 := by rw [hA]; exact xor_lt (by omega) (by omega)
  refine HM.sto ⟨trivial, by intro c hc hl; obtain rfl := List.mem_singleton.1 hc; first | exact absurd hl (by dsimp only; decide) | exact hQ⟩ rfl (want_none) rfl (s_store (v := .int .u64 ((A : Nat) : Int)) (c' := #[.int .u64 ((A : Nat) : Int)]) to_206 hQ rfl (by rw [hA]; rfl) rfl rfl (Nat.le_of_ble_eq_true rfl) rfl) ?_
  rintro h1 hu
  replace hX := hX.upd hu (by simp)
  replace hQ : Blk h1 q (.cells #[.int .u64 ((A : Nat) : Int)] 206 (0, 0)) := hu.blk rfl
  clear hu
  refine HM.nil ⟨trivial, by intro c hc hl; obtain rfl := List.mem_singleton.1 hc; first | exact absurd hl (by dsimp only; decide) | exact hQ⟩ (thenQ_normal (?_))
  refine HW.seq ?_
  refine HW.regionD 10 mixed (fun h => True) [(9, fun h => Blk h q (.cells #[.int .u64 ((A : Nat) : Int)] 206 (0, 0)))] [(0, true), (1, true), (2, true), (3, true), (4, true), (5, true), (6, true), (7, true), (8, true), (9, false)] (by kernel_rfl) ?_
  refine HM.val (v := .pointer (some ⟨q, 0, none⟩)) rfl rfl (want_none) rfl (fun _ _ => q_move rfl) ?_
  refine HM.val (v := .pointer (some ⟨q, 0, none⟩)) rfl rfl (want_none) rfl (fun _ _ => q_nilCheck rfl) ?_
  refine HM.valT (v := .int .u64 ((A : Nat) : Int)) 9 (fun h => Blk h q (.cells #[.int .u64 ((A : Nat) : Int)] 206 (0, 0))) rfl rfl (want_none) rfl (by simp) (by kernel_rfl) (fun _ _ hQ => q_load to_206 rfl (Blk.cell hQ rfl)) ?_
  refine HM.val (v := .pointer (some ⟨q, 0, none⟩)) rfl rfl (want_none) rfl (fun _ _ => q_move rfl) ?_
  refine HM.val (v := .pointer (some ⟨q, 0, none⟩)) rfl rfl (want_none) rfl (fun _ _ => q_nilCheck rfl) ?_
  refine HM.valT (v := .int .u64 ((A : Nat) : Int)) 9 (fun h => Blk h q (.cells #[.int .u64 ((A : Nat) : Int)] 206 (0, 0))) rfl rfl (want_none) rfl (by simp) (by kernel_rfl) (fun _ _ hQ => q_load to_206 rfl (Blk.cell hQ rfl)) ?_
  refine HM.val (v := .int .u64 ((A / 2 ^ 7 : Nat) : Int)) rfl rfl (want_none) rfl (fun _ _ => q_shr64 7 rfl rfl (by omega) rfl) ?_
  refine HM.val (v := .int .u64 ((A ^^^ (A / 2 ^ 7) : Nat) : Int)) rfl rfl (want_none) rfl (fun _ _ => q_xor64 rfl rfl (by omega) (by omega) rfl) ?_
  refine HM.val (v := .pointer (some ⟨q, 0, none⟩)) rfl rfl (want_none) rfl (fun _ _ => q_nilCheck rfl) ?_
  obtain ⟨B, hB⟩ : ∃ y : Nat, y = A ^^^ (A / 2 ^ 7) := ⟨_, rfl⟩
  have lB : B < 18446744073709551616 := by rw [hB]; exact xor_lt (by omega) (by omega)
  refine HM.sto ⟨trivial, by intro c hc hl; obtain rfl := List.mem_singleton.1 hc; first | exact absurd hl (by dsimp only; decide) | exact hQ⟩ rfl (want_none) rfl (s_store (v := .int .u64 ((B : Nat) : Int)) (c' := #[.int .u64 ((B : Nat) : Int)]) to_206 hQ rfl (by rw [hB]; rfl) rfl rfl (Nat.le_of_ble_eq_true rfl) rfl) ?_
  rintro h2 hu
  replace hX := hX.upd hu (by simp)
  replace hQ : Blk h2 q (.cells #[.int .u64 ((B : Nat) : Int)] 206 (0, 0)) := hu.blk rfl
  clear hu
  refine HM.nil ⟨trivial, by intro c hc hl; obtain rfl := List.mem_singleton.1 hc; first | exact absurd hl (by dsimp only; decide) | exact hQ⟩ (thenQ_normal (?_))
  refine HW.seq ?_
  refine HW.regionD 10 mixed (fun h => True) [(9, fun h => Blk h q (.cells #[.int .u64 ((B : Nat) : Int)] 206 (0, 0)))] [(0, true), (1, true), (2, true), (3, true), (4, true), (5, true), (6, true), (7, true), (8, true), (9, false)] (by kernel_rfl) ?_
  refine HM.val (v := .pointer (some ⟨q, 0, none⟩)) rfl rfl (want_none) rfl (fun _ _ => q_move rfl) ?_
  refine HM.val (v := .pointer (some ⟨q, 0, none⟩)) rfl rfl (want_none) rfl (fun _ _ => q_nilCheck rfl) ?_
  refine HM.valT (v := .int .u64 ((B : Nat) : Int)) 9 (fun h => Blk h q (.cells #[.int .u64 ((B : Nat) : Int)] 206 (0, 0))) rfl rfl (want_none) rfl (by simp) (by kernel_rfl) (fun _ _ hQ => q_load to_206 rfl (Blk.cell hQ rfl)) ?_
  refine HM.val (v := .pointer (some ⟨q, 0, none⟩)) rfl rfl (want_none) rfl (fun _ _ => q_move rfl) ?_
  refine HM.val (v := .pointer (some ⟨q, 0, none⟩)) rfl rfl (want_none) rfl (fun _ _ => q_nilCheck rfl) ?_
  refine HM.valT (v := .int .u64 ((B : Nat) : Int)) 9 (fun h => Blk h q (.cells #[.int .u64 ((B : Nat) : Int)] 206 (0, 0))) rfl rfl (want_none) rfl (by simp) (by kernel_rfl) (fun _ _ hQ => q_load to_206 rfl (Blk.cell hQ rfl)) ?_
  refine HM.val (v := .int .u64 ((B * 2 ^ 17 % 18446744073709551616 : Nat) : Int)) rfl rfl (want_none) rfl (fun _ _ => q_shl64 17 rfl rfl (by omega) rfl) ?_
  refine HM.val (v := .int .u64 ((B ^^^ (B * 2 ^ 17 % 18446744073709551616) : Nat) : Int)) rfl rfl (want_none) rfl (fun _ _ => q_xor64 rfl rfl (by omega) (by omega) rfl) ?_
  refine HM.val (v := .pointer (some ⟨q, 0, none⟩)) rfl rfl (want_none) rfl (fun _ _ => q_nilCheck rfl) ?_
  obtain ⟨C, hC⟩ : ∃ y : Nat, y = B ^^^ (B * 2 ^ 17 % 18446744073709551616) := ⟨_, rfl⟩
  have lC : C < 18446744073709551616 := by rw [hC]; exact xor_lt (by omega) (by omega)
  refine HM.sto ⟨trivial, by intro c hc hl; obtain rfl := List.mem_singleton.1 hc; first | exact absurd hl (by dsimp only; decide) | exact hQ⟩ rfl (want_none) rfl (s_store (v := .int .u64 ((C : Nat) : Int)) (c' := #[.int .u64 ((C : Nat) : Int)]) to_206 hQ rfl (by rw [hC]; rfl) rfl rfl (Nat.le_of_ble_eq_true rfl) rfl) ?_
  rintro h3 hu
  replace hX := hX.upd hu (by simp)
  replace hQ : Blk h3 q (.cells #[.int .u64 ((C : Nat) : Int)] 206 (0, 0)) := hu.blk rfl
  clear hu
  refine HM.nil ⟨trivial, by intro c hc hl; obtain rfl := List.mem_singleton.1 hc; first | exact absurd hl (by dsimp only; decide) | exact hQ⟩ (thenQ_normal (?_))
  refine HW.seq ?_
  refine HW.region ?_
  refine HO.val (v := .pointer (some ⟨q, 0, none⟩)) (want_none) rfl (q_move rfl) ?_
  refine HO.val (v := .pointer (some ⟨q, 0, none⟩)) (want_none) rfl (q_nilCheck rfl) ?_
  refine HO.val (v := .int .u64 ((C : Nat) : Int)) (want_none) rfl (q_load to_206 rfl (Blk.cell hQ rfl)) ?_
  refine HO.val (v := .int .u64 ((C : Nat) : Int)) (want_none) rfl (q_assign rfl) ?_
  refine HO.nil (thenQ_normal (?_))
  refine HW.ret (?_)
  refine ⟨.inr rfl, .int .u64 ((C : Nat) : Int), res_one rfl rfl, ?_⟩
  have e : xorNextN X = C := by unfold xorNextN; simp only []; rw [hC, hB, hA]
  exact ⟨by rw [e], by rw [e]; exact hQ, hX⟩

theorem len_eq (l : Nat) (h : l ≤ 2305843009213693952) : Lib.bitLen ((l : Int)).toNat = bitsLen l := by rw [Int.toNat_natCast]; exact Go.Proofs.bitLen_eq l (by omega)
theorem pow_two (l : Nat) (h : 1 ≤ l) : 1 <<< bitsLen l ≤ 2 * l := by
  rw [Nat.one_shiftLeft]
  obtain ⟨k, hk⟩ : ∃ k, k = bitsLen l := ⟨_, rfl⟩
  rw [← hk]
  cases k with
  | zero => simp; omega
  | succ k =>
    have : ¬ l < 2 ^ k := fun h' => by have := (bitsLen_le_iff l k).2 h'; omega
    rw [Nat.pow_succ]; omega
theorem pow_len (l : Nat) (h : l ≤ 2305843009213693952) : 1 * 2 ^ (bitsLen l) % 18446744073709551616 = 1 <<< bitsLen l ∧ 1 <<< bitsLen l ≤ 4611686018427387904 ∧ 1 ≤ 1 <<< bitsLen l := by
  have hk : bitsLen l ≤ 62 := (bitsLen_le_iff l 62).2 (by omega)
  have h1 : (2 : Nat) ^ (bitsLen l) ≤ 2 ^ 62 := Nat.pow_le_pow_right (by decide) hk
  have h2 : 0 < (2 : Nat) ^ (bitsLen l) := Nat.pow_pos (by decide)
  rw [Nat.one_shiftLeft, Nat.one_mul]
  exact ⟨Nat.mod_eq_of_lt (by omega), by omega, by omega⟩
/-- So many steps. -/
def bsN (a l M I : Nat) (s : UInt64 × Array Int) : Nat → UInt64 × Array Int
  | 0 => s
  | t + 1 => breakStep a l M (bsN a l M I s t) (I + t)
theorem break_eq {d : Array Int} {a b : Nat} (h : b - a ≥ 8) : breakPatterns d a b = (bsN a (b - a) (1 <<< bitsLen (b - a)) (a + (b - a) / 4 * 2 - 1) (UInt64.ofNat (b - a), d) 3).2 := by
  unfold breakPatterns; simp only [if_pos h]; rfl
theorem break_small {d : Array Int} {a b : Nat} (h : ¬ b - a ≥ 8) : breakPatterns d a b = d := by unfold breakPatterns; simp only [if_neg h]

set_option maxRecDepth 100000 in
theorem npow_spec (l : Nat) (h0 : Heap) (hl : l ≤ 2305843009213693952) :
    HC Try.prog 185 #[.int .i64 ((l : Nat) : Int)] h0 fun u h' => u = .int .u64 ((1 <<< bitsLen l : Nat) : Int) ∧ h' = h0 := by
  refine HC.of_HW (n := 7) Try.func185 rfl rfl (Nat.le_of_ble_eq_true rfl) ?_
  refine HW.seq ?_
  refine HW.region ?_
  refine HO.val (v := .int .u64 0) (want_none) rfl (q_assign rfl) ?_
  refine HO.nil (thenQ_normal (?_))
  refine HW.seq ?_
  refine HW.region ?_
  refine HO.val (v := .int .i64 ((l : Nat) : Int)) (want_none) rfl (q_move rfl) ?_
  refine HO.val (v := .int .u64 ((l : Nat) : Int)) (want_none) rfl (q_convInt Try.underlying3 Try.underlying172 rfl (wrap_id (by simp [IntKind.min, IntKind.signed]) (by simp [IntKind.max, IntKind.signed, IntKind.bits] <;> omega))) ?_
  refine HO.call (want_none) rfl (ec en_136 rfl rfl) (HC.of_same (Try.bits_Len ((l : Nat) : Int) · (by omega) (by omega))) ?_
  rintro _ _ ⟨rfl, rfl⟩
  refine HO.val (v := .int .u64 ((1 <<< bitsLen l : Nat) : Int)) (want_none) rfl (q_shl64 (a := 1) (bitsLen l) rfl (by rw [← len_eq l hl]; rfl) (by have := (bitsLen_le_iff l 62).2 (by omega); omega) (pow_len l hl).1) ?_
  refine HO.val (v := .int .u64 ((1 <<< bitsLen l : Nat) : Int)) (want_none) rfl (q_assign rfl) ?_
  refine HO.nil (thenQ_normal (?_))
  refine HW.ret (?_)
  refine ⟨.inr rfl, .int .u64 ((1 <<< bitsLen l : Nat) : Int), res_one rfl rfl, ?_⟩
  exact ⟨rfl, rfl⟩

set_option maxRecDepth 100000 in
theorem break_spec (c r : Nat) (m : List (Int × Int)) (B n : Nat) (v : Value) (d : Array Int) (h0 : Heap) (hC : Blk h0 c (.cells #[.map (some r)] 159 (0, 0))) (hM : MapIs h0 r kI kI m) (hO : OwnIs h0 B 3 1 encI v d.toList) (hvc : blockOf v ≠ some c) (hvr : blockOf v ≠ some r) (hd : d.toList.length = n) (hn : n ≤ 2305843009213693952) (a b : Nat) (hab : a < b) (hb : b ≤ n) :
    HC Try.prog 191 #[v, .int .i64 ((a : Nat) : Int), .int .i64 ((b : Nat) : Int), .func (.func 130) #[.pointer (some ⟨c, 0, none⟩)] #[]] h0 fun u h' => u = .tuple #[] ∧ OwnIs h' B 3 1 encI v (breakPatterns d a b).toList ∧ Grown h0 h' v v ∧ Blk h' c (.cells #[.map (some r)] 159 (0, 0)) ∧ MapIs h' r kI kI m := by
  refine HC.of_HW (n := 67) Try.func191 rfl rfl (Nat.le_of_ble_eq_true rfl) ?_
  have hG := Grown.refl h0 v
  obtain ⟨M, hM0⟩ : ∃ M, M = 1 <<< bitsLen (b - a) := ⟨_, rfl⟩
  have hMl := (pow_len (b - a) (by omega)).2; rw [← hM0] at hMl
  have hM2 : b - a ≥ 8 → M ≤ 2 * (b - a) := fun h => by rw [hM0]; exact pow_two _ (by omega)
  obtain ⟨I, hI0⟩ : ∃ I, I = a + (b - a) / 4 * 2 - 1 := ⟨_, rfl⟩
  have hcl := hC.lt
  have hrl := hM.lt
  have hqv0 : ∀ {x : Nat}, h0.size ≤ x → blockOf v ≠ some x := fun hx => hO.ne_ge hx
  refine HW.seq ?_
  refine HW.region ?_
  refine HO.val (v := .int .i64 ((b : Nat) : Int)) (want_none) rfl (q_move rfl) ?_
  refine HO.val (v := .int .i64 ((a : Nat) : Int)) (want_none) rfl (q_move rfl) ?_
  refine HO.val (v := .int .i64 ((b - a : Nat) : Int)) (want_none) rfl (q_subN ((b - a : Nat) : Int) rfl rfl (by omega) (by omega) (by omega)) ?_
  refine HO.val (v := .int .i64 ((b - a : Nat) : Int)) (want_none) rfl (q_assign rfl) ?_
  refine HO.nil (thenQ_normal (?_))
  refine HW.seq ?_
  refine HW.region ?_
  refine HO.val (v := .int .i64 ((b - a : Nat) : Int)) (want_none) rfl (q_move rfl) ?_
  refine HO.val (v := .bool (decide (8 ≤ ((b - a : Nat) : Int)))) (want_none) rfl (q_geq rfl rfl) ?_
  refine HO.nil (thenQ_normal (?_))
  refine HW.cond (decide (8 ≤ ((b - a : Nat) : Int))) rfl (fun c1 => ?_) (fun c1 => ?_)
  · have c1p := of_decide_eq_true c1
    refine HW.seq ?_
    refine HW.region ?_
    refine HO.val (v := .int .i64 ((b - a : Nat) : Int)) (want_none) rfl (q_move rfl) ?_
    refine HO.val (v := .int .u64 ((b - a : Nat) : Int)) (want_none) rfl (q_convInt Try.underlying3 Try.underlying206 rfl (wrap_id (by simp [IntKind.min, IntKind.signed]) (by simp [IntKind.max, IntKind.signed, IntKind.bits] <;> omega))) ?_
    refine HO.eff (want_none) rfl (e_alloc tz_206 rfl) ?_
    rintro _ h1 ⟨b2, rfl, hn⟩
    have hnehO_b2 := hO.ne_ge (Nat.le_of_eq hn.at_.symm)
    replace hC := hC.ext hn.ext
    replace hM := hM.ext hn.ext
    replace hG := hG.ext hn.ext
    replace hO := hO.ext hn.ext
    have hb2 : Blk h1 b2 (.cells #[.int .u64 0] 206 (0, 0)) := hn.blk
    have hb2a := hn.at_; have hb2s := hn.size; clear hn
    have hqc : b2 ≠ c := by omega
    have hqr : b2 ≠ r := by omega
    have hqv : blockOf v ≠ some b2 := hqv0 (by omega)
    have hQ := hb2; clear hb2
    refine HO.sto (want_none) rfl (s_store (c' := #[.int .u64 ((b - a : Nat) : Int)]) to_206 hQ rfl rfl rfl rfl (Nat.le_of_ble_eq_true rfl) rfl) ?_
    rintro h2 hu
    replace hC := hC.upd hu hqc.symm
    replace hM := hM.upd hu hqr.symm
    replace hG := hG.only_new (hu.onlyL (L := [b2]) (by simp)) (by simp; omega)
    replace hO := hO.upd hu hqv
    replace hQ : Blk h2 b2 (.cells #[.int .u64 ((b - a : Nat) : Int)] 206 (0, 0)) := hu.blk rfl
    have hus := hu.size; clear hu
    refine HO.nil (thenQ_normal (?_))
    refine HW.seq ?_
    refine HW.region ?_
    refine HO.val (v := .int .i64 ((b - a : Nat) : Int)) (want_none) rfl (q_move rfl) ?_
    refine HO.call (want_none) rfl (ec en_185 rfl rfl) ((npow_spec (b - a) _ (by omega)).mono (R' := fun u h' => u = .int .u64 ((M : Nat) : Int) ∧ _) (fun _ _ h => ⟨by rw [hM0]; exact h.1, h.2⟩)) ?_
    rintro _ _ ⟨rfl, rfl⟩
    refine HO.val (v := .int .u64 ((M : Nat) : Int)) (want_none) rfl (q_assign rfl) ?_
    refine HO.nil (thenQ_normal (?_))
    refine HW.seq ?_
    refine HW.region ?_
    refine HO.val (v := .int .i64 ((a : Nat) : Int)) (want_none) rfl (q_move rfl) ?_
    refine HO.val (v := .int .i64 ((b - a : Nat) : Int)) (want_none) rfl (q_move rfl) ?_
    refine HO.val (v := .int .i64 (((b - a) / 4 : Nat) : Int)) (want_none) rfl (q_quoN _ rfl rfl (by decide) (by rw [Int.tdiv_eq_ediv_of_nonneg (by omega)]; omega) (by omega) (by omega)) ?_
    refine HO.val (v := .int .i64 ((2 * ((b - a) / 4) : Nat) : Int)) (want_none) rfl (q_mulN ((2 * ((b - a) / 4) : Nat) : Int) rfl rfl (by omega) (by omega) (by omega)) ?_
    refine HO.val (v := .int .i64 ((a + 2 * ((b - a) / 4) : Nat) : Int)) (want_none) rfl (q_addN ((a + 2 * ((b - a) / 4) : Nat) : Int) rfl rfl (by omega) (by omega) (by omega)) ?_
    refine HO.val (v := .int .i64 ((I : Nat) : Int)) (want_none) rfl (q_subN ((I : Nat) : Int) rfl rfl (by omega) (by omega) (by omega)) ?_
    refine HO.val (v := .int .i64 ((I : Nat) : Int)) (want_none) rfl (q_assign rfl) ?_
    refine HO.nil (thenQ_normal (?_))
    refine HW.block ?_
    refine HW.loop (S := UInt64 × Array Int × Nat) (fun s f h => match s with | (U, D, t) => f 0 = v ∧ f 1 = .int .i64 ((a : Nat) : Int) ∧ f 8 = .int .i64 ((b - a : Nat) : Int) ∧ f 9 = .pointer (some ⟨b2, 0, none⟩) ∧ f 10 = .int .u64 ((M : Nat) : Int) ∧ f 11 = .int .i64 ((I + t : Nat) : Int) ∧ (Blk h c (.cells #[.map (some r)] 159 (0, 0))) ∧ (MapIs h r kI kI m) ∧ (Grown h0 h v v) ∧ (OwnIs h B 3 1 encI v D.toList) ∧ (Blk h b2 (.cells #[.int .u64 ((U.toNat : Nat) : Int)] 206 (0, 0))) ∧ (bsN a (b - a) M I (UInt64.ofNat (b - a), d) t = (U, D)) ∧ (D.toList.length = n) ∧ (t ≤ 3)) (fun s => match s with | (U, D, t) => 3 - t) (UInt64.ofNat (b - a), d, 0) ?_ ?_
    · refine ⟨rfl, rfl, rfl, rfl, rfl, rfl, ?_, ?_, ?_, ?_, ?_, ?_, ?_, ?_⟩
      · exact hC
      · exact hM
      · exact hG
      · exact hO
      · rw [show (UInt64.ofNat (b - a)).toNat = b - a from Nat.mod_eq_of_lt (by omega)]; exact hQ
      · rfl
      · exact hd
      · omega
    · rintro ⟨U, D, t⟩ f3 hh3 ⟨e0, e1, e8, e9, e10, e11, hC, hM, hG, hO, hQ, hT, hD, ht⟩
      refine HW.fr [(0, v), (1, .int .i64 ((a : Nat) : Int)), (8, .int .i64 ((b - a : Nat) : Int)), (9, .pointer (some ⟨b2, 0, none⟩)), (10, .int .u64 ((M : Nat) : Int)), (11, .int .i64 ((I + t : Nat) : Int))] ⟨e0, e1, e8, e9, e10, e11, trivial⟩ ?_
      have hV : IsSl v _ := hO.slice.shape (List.length_pos_iff.1 (by omega))
      refine HW.seq ?_
      refine HW.seq ?_
      refine HW.region ?_
      refine HO.val (v := .int .i64 ((I + t : Nat) : Int)) (want_none) rfl (q_move rfl) ?_
      refine HO.val (v := .int .i64 ((a : Nat) : Int)) (want_none) rfl (q_move rfl) ?_
      refine HO.val (v := .int .i64 ((b - a : Nat) : Int)) (want_none) rfl (q_move rfl) ?_
      refine HO.val (v := .int .i64 (((b - a) / 4 : Nat) : Int)) (want_none) rfl (q_quoN _ rfl rfl (by decide) (by rw [Int.tdiv_eq_ediv_of_nonneg (by omega)]; omega) (by omega) (by omega)) ?_
      refine HO.val (v := .int .i64 ((2 * ((b - a) / 4) : Nat) : Int)) (want_none) rfl (q_mulN ((2 * ((b - a) / 4) : Nat) : Int) rfl rfl (by omega) (by omega) (by omega)) ?_
      refine HO.val (v := .int .i64 ((a + 2 * ((b - a) / 4) : Nat) : Int)) (want_none) rfl (q_addN ((a + 2 * ((b - a) / 4) : Nat) : Int) rfl rfl (by omega) (by omega) (by omega)) ?_
      refine HO.val (v := .int .i64 ((I + 2 : Nat) : Int)) (want_none) rfl (q_addN ((I + 2 : Nat) : Int) rfl rfl (by omega) (by omega) (by omega)) ?_
      refine HO.val (v := .bool (decide (((I + t : Nat) : Int) ≤ ((I + 2 : Nat) : Int)))) (want_none) rfl (q_leq rfl rfl) ?_
      refine HO.nil (thenQ_normal (?_))
      refine HW.cond (decide (((I + t : Nat) : Int) ≤ ((I + 2 : Nat) : Int))) rfl (fun c3 => ?_) (fun c3 => ?_)
      · have c3p := of_decide_eq_true c3
        refine HW.skip (thenQ_normal (?_))
        refine HW.seq ?_
        refine HW.block ?_
        refine HW.seq ?_
        refine HW.region ?_
        refine HO.call (want_none) rfl (ec en_186 rfl rfl) (xnext_spec b2 U.toNat _ hQ U.toNat_lt) ?_
        rintro _ h4 ⟨rfl, hQ', hx⟩
        replace hC := hC.onlyL hx (by simp; exact hqc.symm)
        replace hM := hM.onlyL hx (by simp; exact hqr.symm)
        replace hG := hG.only_new hx (by simp; omega)
        replace hO := hO.onlyL hx (by intro b hb; simp at hb; subst hb; exact hqv)
        replace hQ := hQ'
        have hxs := hx.size
        rw [← xorNext_toNat U] at hQ
        refine HO.val (v := .int .u64 ((M : Nat) : Int)) (want_none) rfl (q_move rfl) ?_
        refine HO.val (v := .int .u64 ((M - 1 : Nat) : Int)) (want_none) rfl ((q_sub rfl rfl).of_eq (by rw [show ((M : Int) - 1) = ((M - 1 : Nat) : Int) from by omega, wrap_id (by simp [IntKind.min, IntKind.signed]) (by simp [IntKind.max, IntKind.signed, IntKind.bits] <;> omega)])) ?_
        obtain ⟨ot, hot⟩ : ∃ y : Nat, y = xorNextN U.toNat &&& (M - 1) := ⟨_, rfl⟩
        have hotl : ot ≤ M - 1 := by rw [hot]; exact Nat.and_le_right
        have hUl := xorNextN_lt U.toNat U.toNat_lt
        refine HO.val (v := .int .u64 ((ot : Nat) : Int)) (want_none) rfl (q_and64 rfl rfl (by omega) (by omega) hot.symm) ?_
        refine HO.val (v := .int .i64 ((ot : Nat) : Int)) (want_none) rfl (q_convInt Try.underlying172 Try.underlying3 rfl (wrap_id (by simp [IntKind.min, IntKind.signed, IntKind.bits] <;> omega) (by simp [IntKind.max, IntKind.signed, IntKind.bits] <;> omega))) ?_
        refine HO.val (v := .int .i64 ((ot : Nat) : Int)) (want_none) rfl (q_assign rfl) ?_
        refine HO.nil (thenQ_normal (?_))
        refine HW.seq ?_
        refine HW.seq ?_
        refine HW.region ?_
        refine HO.val (v := .int .i64 ((ot : Nat) : Int)) (want_none) rfl (q_move rfl) ?_
        refine HO.val (v := .int .i64 ((b - a : Nat) : Int)) (want_none) rfl (q_move rfl) ?_
        refine HO.val (v := .bool (decide (((b - a : Nat) : Int) ≤ ((ot : Nat) : Int)))) (want_none) rfl (q_geq rfl rfl) ?_
        refine HO.nil (thenQ_normal (?_))
        refine HW.cond (decide (((b - a : Nat) : Int) ≤ ((ot : Nat) : Int))) rfl (fun c4 => ?_) (fun c4 => ?_)
        · have c4p := of_decide_eq_true c4
          refine HW.region ?_
          refine HO.val (v := .int .i64 ((ot : Nat) : Int)) (want_none) rfl (q_move rfl) ?_
          refine HO.val (v := .int .i64 ((b - a : Nat) : Int)) (want_none) rfl (q_move rfl) ?_
          refine HO.val (v := .int .i64 ((ot - (b - a) : Nat) : Int)) (want_none) rfl (q_subN ((ot - (b - a) : Nat) : Int) rfl rfl (by omega) (by omega) (by omega)) ?_
          refine HO.val (v := .int .i64 ((ot - (b - a) : Nat) : Int)) (want_none) rfl (q_assign rfl) ?_
          refine HO.nil (thenQ_normal (?_))
          refine HW.regionD 20 mixed (fun h => (Blk h c (.cells #[.map (some r)] 159 (0, 0))) ∧ (MapIs h r kI kI m) ∧ (Grown h0 h v v) ∧ (Blk h b2 (.cells #[.int .u64 (((xorNext U).toNat : Nat) : Int)] 206 (0, 0)))) [(17, fun h => OwnIs h B 3 1 encI v D.toList)] [(0, true), (1, true), (2, true), (3, true), (4, true), (5, true), (6, true), (7, true), (8, true), (9, true), (10, true), (11, true), (12, true), (13, true), (14, true), (15, true), (16, true), (17, false), (18, true), (19, false)] (by kernel_rfl) ?_
          refine HM.val (v := v) rfl rfl (want_none) rfl (fun _ ⟨hC, hM, hG, hQ⟩ => q_move rfl) ?_
          refine HM.val (v := .int .i64 ((I + t : Nat) : Int)) rfl rfl (want_none) rfl (fun _ ⟨hC, hM, hG, hQ⟩ => q_move rfl) ?_
          refine HM.val (v := v) rfl rfl (want_none) rfl (fun _ ⟨hC, hM, hG, hQ⟩ => q_move rfl) ?_
          refine HM.val (v := .int .i64 ((a : Nat) : Int)) rfl rfl (want_none) rfl (fun _ ⟨hC, hM, hG, hQ⟩ => q_move rfl) ?_
          refine HM.val (v := .int .i64 ((ot - (b - a) : Nat) : Int)) rfl rfl (want_none) rfl (fun _ ⟨hC, hM, hG, hQ⟩ => q_move rfl) ?_
          refine HM.val (v := .int .i64 ((a + (ot - (b - a)) : Nat) : Int)) rfl rfl (want_none) rfl (fun _ ⟨hC, hM, hG, hQ⟩ => q_addN ((a + (ot - (b - a)) : Nat) : Int) rfl rfl (by omega) (by omega) (by omega)) ?_
          refine HM.val (v := v) rfl rfl (want_none) rfl (fun _ ⟨hC, hM, hG, hQ⟩ => q_move rfl) ?_
          refine HM.val (v := .int .i64 ((a : Nat) : Int)) rfl rfl (want_none) rfl (fun _ ⟨hC, hM, hG, hQ⟩ => q_move rfl) ?_
          refine HM.val (v := .int .i64 ((ot - (b - a) : Nat) : Int)) rfl rfl (want_none) rfl (fun _ ⟨hC, hM, hG, hQ⟩ => q_move rfl) ?_
          refine HM.val (v := .int .i64 ((a + (ot - (b - a)) : Nat) : Int)) rfl rfl (want_none) rfl (fun _ ⟨hC, hM, hG, hQ⟩ => q_addN ((a + (ot - (b - a)) : Nat) : Int) rfl rfl (by omega) (by omega) (by omega)) ?_
          refine HM.val (v := elemPtr 1 v (a + (ot - (b - a)))) rfl rfl (want_none) rfl (fun _ ⟨hC, hM, hG, hQ⟩ => q_indexAddrV (i := a + (ot - (b - a))) ts_22 hV rfl rfl (by omega)) ?_
          refine HM.valT (v := .int .i64 (D[a + (ot - (b - a))]!)) 17 (fun h => OwnIs h B 3 1 encI v D.toList) rfl rfl (want_none) rfl (by simp) (by kernel_rfl) (fun _ _ hO => q_loadElemQ to_3 hO.slice rfl (getE (by omega)) rfl) ?_
          refine HM.val (v := v) rfl rfl (want_none) rfl (fun _ ⟨hC, hM, hG, hQ⟩ => q_move rfl) ?_
          refine HM.val (v := .int .i64 ((I + t : Nat) : Int)) rfl rfl (want_none) rfl (fun _ ⟨hC, hM, hG, hQ⟩ => q_move rfl) ?_
          refine HM.val (v := elemPtr 1 v (I + t)) rfl rfl (want_none) rfl (fun _ ⟨hC, hM, hG, hQ⟩ => q_indexAddrV (i := I + t) ts_22 hV rfl rfl (by omega)) ?_
          refine HM.valT (v := .int .i64 (D[I + t]!)) 17 (fun h => OwnIs h B 3 1 encI v D.toList) rfl rfl (want_none) rfl (by simp) (by kernel_rfl) (fun _ _ hO => q_loadElemQ to_3 hO.slice rfl (getE (by omega)) rfl) ?_
          refine HM.val (v := elemPtr 1 v (I + t)) rfl rfl (want_none) rfl (fun _ ⟨hC, hM, hG, hQ⟩ => q_indexAddrV (i := I + t) ts_22 hV rfl rfl (by omega)) ?_
          refine HM.sto ⟨⟨hC, hM, hG, hQ⟩, by intro c hc hl; obtain rfl := List.mem_singleton.1 hc; first | exact absurd hl (by dsimp only; decide) | exact hO⟩ rfl (want_none) rfl (s_storeElem (a := D[a + (ot - (b - a))]!) to_3 hO rfl (by first | omega | (simp only [List.length_set]; omega) | (simp; omega)) rfl rfl rfl rfl) ?_
          rintro h5 ⟨hO', hg⟩
          replace hC := hC.grown hg hvc
          replace hM := hM.grown hg hvr
          replace hG := hG.trans hg
          replace hQ := hQ.grown hg hqv
          replace hO := hO'
          have hgs := hg.size; clear hg
          refine HM.val (v := elemPtr 1 v (a + (ot - (b - a)))) rfl rfl (want_none) rfl (fun _ ⟨hC, hM, hG, hQ⟩ => q_indexAddrV (i := a + (ot - (b - a))) ts_22 hV rfl rfl (by omega)) ?_
          refine HM.sto ⟨⟨hC, hM, hG, hQ⟩, by intro c hc hl; obtain rfl := List.mem_singleton.1 hc; first | exact absurd hl (by dsimp only; decide) | exact hO⟩ rfl (want_none) rfl (s_storeElem (a := D[I + t]!) to_3 hO rfl (by first | omega | (simp only [List.length_set]; omega) | (simp; omega)) rfl rfl rfl rfl) ?_
          rintro h6 ⟨hO', hg⟩
          replace hC := hC.grown hg hvc
          replace hM := hM.grown hg hvr
          replace hG := hG.trans hg
          replace hQ := hQ.grown hg hqv
          replace hO := hO'
          have hgs := hg.size; clear hg
          refine HM.nil ⟨⟨hC, hM, hG, hQ⟩, by intro c hc hl; obtain rfl := List.mem_singleton.1 hc; first | exact absurd hl (by dsimp only; decide) | exact hO⟩ (blockQ_normal (thenQ_normal (?_)))
          refine HW.region ?_
          refine HO.val (v := .int .i64 ((I + t : Nat) : Int)) (want_none) rfl (q_move rfl) ?_
          refine HO.val (v := .int .i64 ((I + t + 1 : Nat) : Int)) (want_none) rfl (q_addN ((I + t + 1 : Nat) : Int) rfl rfl (by omega) (by omega) (by omega)) ?_
          refine HO.val (v := .int .i64 ((I + t + 1 : Nat) : Int)) (want_none) rfl (q_assign rfl) ?_
          refine HO.nil (thenQ_normal (?_))
          refine ⟨(xorNext U, swp D (I + t) (a + (ot - (b - a))), t + 1), ⟨rfl, rfl, rfl, rfl, rfl, rfl, ?_, ?_, ?_, ?_, ?_, ?_, ?_, ?_⟩, ?_⟩
          · exact hC
          · exact hM
          · exact hG
          · rw [swpL] at hO; exact hO
          · exact hQ
          · show breakStep a (b - a) M (bsN a (b - a) M I (UInt64.ofNat (b - a), d) t) (I + t) = _
            rw [hT]; unfold breakStep; dsimp only
            rw [show (xorNext U).toNat &&& (M - 1) = ot from by rw [hot, xorNext_toNat], if_pos (by omega)]
          · rw [swp_len]; exact hD
          · omega
          · dsimp only; omega
        · have c4p := of_decide_eq_false c4
          refine HW.skip (thenQ_normal (?_))
          refine HW.regionD 20 mixed (fun h => (Blk h c (.cells #[.map (some r)] 159 (0, 0))) ∧ (MapIs h r kI kI m) ∧ (Grown h0 h v v) ∧ (Blk h b2 (.cells #[.int .u64 (((xorNext U).toNat : Nat) : Int)] 206 (0, 0)))) [(17, fun h => OwnIs h B 3 1 encI v D.toList)] [(0, true), (1, true), (2, true), (3, true), (4, true), (5, true), (6, true), (7, true), (8, true), (9, true), (10, true), (11, true), (12, true), (13, true), (14, true), (15, true), (16, true), (17, false), (18, true), (19, false)] (by kernel_rfl) ?_
          refine HM.val (v := v) rfl rfl (want_none) rfl (fun _ ⟨hC, hM, hG, hQ⟩ => q_move rfl) ?_
          refine HM.val (v := .int .i64 ((I + t : Nat) : Int)) rfl rfl (want_none) rfl (fun _ ⟨hC, hM, hG, hQ⟩ => q_move rfl) ?_
          refine HM.val (v := v) rfl rfl (want_none) rfl (fun _ ⟨hC, hM, hG, hQ⟩ => q_move rfl) ?_
          refine HM.val (v := .int .i64 ((a : Nat) : Int)) rfl rfl (want_none) rfl (fun _ ⟨hC, hM, hG, hQ⟩ => q_move rfl) ?_
          refine HM.val (v := .int .i64 ((ot : Nat) : Int)) rfl rfl (want_none) rfl (fun _ ⟨hC, hM, hG, hQ⟩ => q_move rfl) ?_
          refine HM.val (v := .int .i64 ((a + ot : Nat) : Int)) rfl rfl (want_none) rfl (fun _ ⟨hC, hM, hG, hQ⟩ => q_addN ((a + ot : Nat) : Int) rfl rfl (by omega) (by omega) (by omega)) ?_
          refine HM.val (v := v) rfl rfl (want_none) rfl (fun _ ⟨hC, hM, hG, hQ⟩ => q_move rfl) ?_
          refine HM.val (v := .int .i64 ((a : Nat) : Int)) rfl rfl (want_none) rfl (fun _ ⟨hC, hM, hG, hQ⟩ => q_move rfl) ?_
          refine HM.val (v := .int .i64 ((ot : Nat) : Int)) rfl rfl (want_none) rfl (fun _ ⟨hC, hM, hG, hQ⟩ => q_move rfl) ?_
          refine HM.val (v := .int .i64 ((a + ot : Nat) : Int)) rfl rfl (want_none) rfl (fun _ ⟨hC, hM, hG, hQ⟩ => q_addN ((a + ot : Nat) : Int) rfl rfl (by omega) (by omega) (by omega)) ?_
          refine HM.val (v := elemPtr 1 v (a + ot)) rfl rfl (want_none) rfl (fun _ ⟨hC, hM, hG, hQ⟩ => q_indexAddrV (i := a + ot) ts_22 hV rfl rfl (by omega)) ?_
          refine HM.valT (v := .int .i64 (D[a + ot]!)) 17 (fun h => OwnIs h B 3 1 encI v D.toList) rfl rfl (want_none) rfl (by simp) (by kernel_rfl) (fun _ _ hO => q_loadElemQ to_3 hO.slice rfl (getE (by omega)) rfl) ?_
          refine HM.val (v := v) rfl rfl (want_none) rfl (fun _ ⟨hC, hM, hG, hQ⟩ => q_move rfl) ?_
          refine HM.val (v := .int .i64 ((I + t : Nat) : Int)) rfl rfl (want_none) rfl (fun _ ⟨hC, hM, hG, hQ⟩ => q_move rfl) ?_
          refine HM.val (v := elemPtr 1 v (I + t)) rfl rfl (want_none) rfl (fun _ ⟨hC, hM, hG, hQ⟩ => q_indexAddrV (i := I + t) ts_22 hV rfl rfl (by omega)) ?_
          refine HM.valT (v := .int .i64 (D[I + t]!)) 17 (fun h => OwnIs h B 3 1 encI v D.toList) rfl rfl (want_none) rfl (by simp) (by kernel_rfl) (fun _ _ hO => q_loadElemQ to_3 hO.slice rfl (getE (by omega)) rfl) ?_
          refine HM.val (v := elemPtr 1 v (I + t)) rfl rfl (want_none) rfl (fun _ ⟨hC, hM, hG, hQ⟩ => q_indexAddrV (i := I + t) ts_22 hV rfl rfl (by omega)) ?_
          refine HM.sto ⟨⟨hC, hM, hG, hQ⟩, by intro c hc hl; obtain rfl := List.mem_singleton.1 hc; first | exact absurd hl (by dsimp only; decide) | exact hO⟩ rfl (want_none) rfl (s_storeElem (a := D[a + ot]!) to_3 hO rfl (by first | omega | (simp only [List.length_set]; omega) | (simp; omega)) rfl rfl rfl rfl) ?_
          rintro h7 ⟨hO', hg⟩
          replace hC := hC.grown hg hvc
          replace hM := hM.grown hg hvr
          replace hG := hG.trans hg
          replace hQ := hQ.grown hg hqv
          replace hO := hO'
          have hgs := hg.size; clear hg
          refine HM.val (v := elemPtr 1 v (a + ot)) rfl rfl (want_none) rfl (fun _ ⟨hC, hM, hG, hQ⟩ => q_indexAddrV (i := a + ot) ts_22 hV rfl rfl (by omega)) ?_
          refine HM.sto ⟨⟨hC, hM, hG, hQ⟩, by intro c hc hl; obtain rfl := List.mem_singleton.1 hc; first | exact absurd hl (by dsimp only; decide) | exact hO⟩ rfl (want_none) rfl (s_storeElem (a := D[I + t]!) to_3 hO rfl (by first | omega | (simp only [List.length_set]; omega) | (simp; omega)) rfl rfl rfl rfl) ?_
          rintro h8 ⟨hO', hg⟩
          replace hC := hC.grown hg hvc
          replace hM := hM.grown hg hvr
          replace hG := hG.trans hg
          replace hQ := hQ.grown hg hqv
          replace hO := hO'
          have hgs := hg.size; clear hg
          refine HM.nil ⟨⟨hC, hM, hG, hQ⟩, by intro c hc hl; obtain rfl := List.mem_singleton.1 hc; first | exact absurd hl (by dsimp only; decide) | exact hO⟩ (blockQ_normal (thenQ_normal (?_)))
          refine HW.region ?_
          refine HO.val (v := .int .i64 ((I + t : Nat) : Int)) (want_none) rfl (q_move rfl) ?_
          refine HO.val (v := .int .i64 ((I + t + 1 : Nat) : Int)) (want_none) rfl (q_addN ((I + t + 1 : Nat) : Int) rfl rfl (by omega) (by omega) (by omega)) ?_
          refine HO.val (v := .int .i64 ((I + t + 1 : Nat) : Int)) (want_none) rfl (q_assign rfl) ?_
          refine HO.nil (thenQ_normal (?_))
          refine ⟨(xorNext U, swp D (I + t) (a + ot), t + 1), ⟨rfl, rfl, rfl, rfl, rfl, rfl, ?_, ?_, ?_, ?_, ?_, ?_, ?_, ?_⟩, ?_⟩
          · exact hC
          · exact hM
          · exact hG
          · rw [swpL] at hO; exact hO
          · exact hQ
          · show breakStep a (b - a) M (bsN a (b - a) M I (UInt64.ofNat (b - a), d) t) (I + t) = _
            rw [hT]; unfold breakStep; dsimp only
            rw [show (xorNext U).toNat &&& (M - 1) = ot from by rw [hot, xorNext_toNat], if_neg (by omega)]
          · rw [swp_len]; exact hD
          · omega
          · dsimp only; omega
      · have c3p := of_decide_eq_false c3
        refine HW.exit (thenQ_exit (thenQ_exit (blockQ_exit (?_))))
        refine ⟨.inl rfl, .tuple #[], res_none rfl, ?_⟩
        have ht3 : t = 3 := by omega
        subst ht3
        exact ⟨rfl, by rw [break_eq (by omega), ← hI0, ← hM0, hT]; exact hO, hG, hC, hM⟩
  · have c1p := of_decide_eq_false c1
    refine HW.skip (?_)
    refine ⟨.inl rfl, .tuple #[], res_none rfl, ?_⟩
    exact ⟨rfl, by rw [break_small (by omega)]; exact hO, hG, hC, hM⟩
end Go.HL.CI
