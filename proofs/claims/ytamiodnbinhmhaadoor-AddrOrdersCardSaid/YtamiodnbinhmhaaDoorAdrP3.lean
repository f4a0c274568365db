/- Plain words: bytes of numbers, lists of numbers read; an address's words and its longest row of noughts. -/
import Derived.Test.YtamiodnbinhmhaaDoorAdrP2
import Derived.Test.YtamiodnbinhmhaaDoorStrP
set_option linter.unusedSimpArgs false
set_option linter.unusedVariables false
set_option linter.unusedSectionVars false
namespace Go.Wk
open Go.HL
variable [DM]
/-! ### Bytes of a number -/
theorem put1_ok {v : Int} {Q : Str → Prop} (h : Q [u8w v]) : octet_Put_W v 1 Q := by
  refine ⟨by decide, by decide, ?_⟩
  refine ⟨fun s => s = (v, [default], 0) ∨ s.2 = ([u8w v], -1), fun s => (s.2.2 + 1).toNat, .inl rfl, ?_⟩
  rintro ⟨n, out, i⟩ hI
  unfold octet_put_l1
  rcases hI with hI | hI
  · injection hI with e1 e2; injection e2 with e2 e3; subst e1 e2 e3
    dsimp only
    exact ⟨fun _ => ⟨by decide, by decide, .inr rfl, by decide⟩, fun c => absurd c (by decide)⟩
  · injection hI with e2 e3; subst e2 e3
    dsimp only
    exact ⟨fun c => absurd c (by decide), fun _ => h⟩
theorem put2_ok {v : Int} {Q : Str → Prop} (h : Q [u8w (v.fdiv 256), u8w v]) : octet_Put_W v 2 Q := by
  have e : (2 : Int) ^ (min (8 : Int).toNat IntKind.u64.bits) = 256 := by decide +kernel
  refine ⟨by decide, by decide, ?_⟩
  refine ⟨fun s => s = (v, [default, default], 1) ∨ s = (v.fdiv 256, [default, u8w v], 0) ∨ s.2 = ([u8w (v.fdiv 256), u8w v], -1), fun s => (s.2.2 + 1).toNat, .inl rfl, ?_⟩
  rintro ⟨n, out, i⟩ hI
  unfold octet_put_l1
  rw [e]
  rcases hI with hI | hI | hI
  · injection hI with e1 e2; injection e2 with e2 e3; subst e1 e2 e3
    dsimp only
    exact ⟨fun _ => ⟨by decide, by decide, .inr (.inl rfl), by decide⟩, fun c => absurd c (by decide)⟩
  · injection hI with e1 e2; injection e2 with e2 e3; subst e1 e2 e3
    dsimp only
    exact ⟨fun _ => ⟨by simp, by decide, .inr (.inr rfl), by decide⟩, fun c => absurd c (by decide)⟩
  · injection hI with e2 e3; subst e2 e3
    dsimp only
    exact ⟨fun c => absurd c (by decide), fun _ => h⟩
theorem numbers_ok {s : Str} {c : UInt8} {base wide : Int} {b w : Nat} (hP : PuW base (8 * wide) b w) (hw : I64 (8 * wide)) (putB : Int → Str) (hput : ∀ (v : Int) (Q : Str → Prop), Q (putB v) → octet_Put_W v wide Q) (hlen : ∀ v, (putB v).length ≤ 2) (hs : s.length ≤ 900) {Q : Str → Bool → Prop}
    (h : ∀ (r : Str) (ok : Bool), r.length ≤ 2 * (s.length + 1) → (s = [] → r = [] ∧ ok = true) → (∀ ns : List Nat, (∀ n ∈ ns, n < 2 ^ w) → s ≠ [] → splitS s [c] = ns.map (numL b) → r = ns.flatMap (fun (n : Nat) => putB (n : Int)) ∧ ok = true) → Q r ok) : addr_numbers_W s [c] base wide Q := by
  refine ⟨fun e => h _ _ (by simp) (fun _ => ⟨rfl, rfl⟩) fun _ _ q => absurd e q, fun e => ⟨⟨by omega, by simp⟩, ?_⟩⟩
  have hl := split_len s c
  have hm := split_mem s c
  generalize hS : splitS s [c] = l at *
  refine loop_up l.length (fun i o => o.length ≤ 2 * i ∧ ∀ ns : List Nat, (∀ n ∈ ns, n < 2 ^ w) → l = ns.map (numL b) → o = (ns.take i).flatMap (fun (n : Nat) => putB (n : Int))) ⟨by simp, fun _ _ _ => by simp⟩ fun K i o hi hI hK => ?_
  obtain ⟨lo, ho⟩ := hI
  show addr_numbers_l1 s [c] base wide Q _ o (i : Int)
  unfold addr_numbers_l1
  rw [hS]
  refine ⟨fun d => ⟨by omega, hw, ?_⟩, fun d => h _ _ (by omega) (fun q => absurd q e) fun ns h1 _ h2 => ⟨?_, rfl⟩⟩
  · have i1 : i < l.length := by omega
    rw [gi_nat i1]
    have hx := (hm l[i] (List.getElem_mem i1)).1
    have elem : ∀ ns : List Nat, l = ns.map (numL b) → ∃ hi' : i < ns.length, l[i] = numL b ns[i] := by
      intro ns e
      have hi' : i < ns.length := by rw [e, List.length_map] at i1; exact i1
      exact ⟨hi', by subst e; simp⟩
    refine pu_ok hP (by omega) fun v er hv => ⟨fun ce => ?_, fun ce => ?_⟩
    · subst ce
      refine h _ _ (by simp) (fun q => absurd q e) fun ns h1 _ h2 => ?_
      obtain ⟨hi', e1⟩ := elem ns h2
      have := (hv ns[i] (h1 _ (List.getElem_mem hi')) e1).2
      cases this
    · subst ce
      have := hlen v
      refine hput _ _ ⟨by omega, by (first | omega | (unfold I64; omega) | (simp only [List.length_append, List.length_cons, List.length_nil, List.length_take, List.length_drop] at *; omega) | (unfold I64; simp only [List.length_append, List.length_cons, List.length_nil, List.length_take, List.length_drop] at *; omega)), hK (i + 1) _ (by omega) (by omega) ⟨?_, fun ns h1 h2 => ?_⟩⟩
      · rw [List.length_append]; omega
      · obtain ⟨hi', e1⟩ := elem ns h2
        rw [List.take_succ_eq_append_getElem hi', List.flatMap_append, ← ho ns h1 h2, (hv ns[i] (h1 _ (List.getElem_mem hi')) e1).1]
        simp
  · have i1 : i = l.length := by omega
    have := ho ns h1 h2
    rw [this, List.take_of_length_le (by rw [i1, h2, List.length_map]; exact Nat.le_refl _)]
/-! ### Words -/
abbrev Ad := T_api_Addr
def by8 (a : Ad) (i : Nat) : Nat := (a.2.1.getD i 0).toNat
theorem b8_by (a : Ad) {i : Nat} (h : i < 16) : b8 a.2 (i : Int) = ((by8 a i : Nat) : Int) := by
  have hl : i < a.2.1.length := by rw [a.2.2]; exact h
  unfold b8 by8
  rw [gi_nat hl, List.getD_eq_getElem?_getD, List.getElem?_eq_getElem hl]; rfl
theorem by8_lt (a : Ad) (i : Nat) : by8 a i < 256 := UInt8.toNat_lt _
def wd (a : Ad) (i : Nat) : Nat := 256 * by8 a (2 * i) + by8 a (2 * i + 1)
theorem wd_lt (a : Ad) (i : Nat) : wd a i < 65536 := by have := by8_lt a (2 * i); have := by8_lt a (2 * i + 1); unfold wd; omega
theorem word_ok {a : Ad} {i : Nat} (hi : i < 8) {Q : Int → Prop} (h : Q (wd a i : Int)) : addr_word_W a (i : Int) Q := by
  have e1 : (2 * (i : Int)) = ((2 * i : Nat) : Int) := by omega
  have e2 : (2 * (i : Int)) + 1 = ((2 * i + 1 : Nat) : Int) := by omega
  refine ⟨by unfold I64; omega, by omega, by unfold I64; omega, by omega, ?_⟩
  rw [e2, e1, b8_by a (by omega), b8_by a (by omega)]
  have h1 := by8_lt a (2 * i)
  have h2 := by8_lt a (2 * i + 1)
  have e8 : (2 : Int) ^ (min (8 : Int).toNat IntKind.u64.bits) = 256 := by decide +kernel
  rw [e8, w64 (by omega), w64 (n := by8 a (2 * i + 1)) (by omega)]
  have e3 : ((by8 a (2 * i) : Nat) : Int) * 256 = ((256 * by8 a (2 * i) : Nat) : Int) := by omega
  rw [e3, w64 (by omega), Go.u64_or_nat _ _ (by omega) (by omega), Go.nat_join 8 _ _ (by omega) (by omega)]
  exact h
def zs (a : Ad) : List Bool := (List.range 8).map fun i => decide (wd a i = 0)
def runL (Z : List Bool) (i : Nat) : Nat := ((Z.drop i).takeWhile id).length
theorem runL_step {Z : List Bool} {i : Nat} (h : i < Z.length) : runL Z i = if Z[i] = true then runL Z (i + 1) + 1 else 0 := by
  unfold runL
  rw [List.drop_eq_getElem_cons h, List.takeWhile_cons]
  cases Z[i] <;> simp
theorem runL_end {Z : List Bool} {i : Nat} (h : Z.length ≤ i) : runL Z i = 0 := by unfold runL; rw [List.drop_eq_nil_of_le h]; rfl
theorem zs_len (a : Ad) : (zs a).length = 8 := by simp [zs]
theorem zs_get (a : Ad) {i : Nat} (h : i < (zs a).length) : (zs a)[i] = decide (wd a i = 0) := by simp [zs]
theorem runL_le (Z : List Bool) (i : Nat) : i + runL Z i ≤ max i Z.length := by
  unfold runL
  have := (List.takeWhile_sublist id (l := Z.drop i)).length_le
  rw [List.length_drop] at this
  omega
/-- The longest row, as the program goes through the words; as the document does. -/
def rowF (Z : List Bool) : Nat → Int × Int → Nat → Int × Int
  | 0, r, _ => r
  | f + 1, r, i => if 8 ≤ i then r else rowF Z f (if r.2 < (runL Z i : Int) then ((i : Int), (runL Z i : Int)) else r) (i + (runL Z i + 1))
def refF (Z : List Bool) : Nat → Int × Int → Nat → Int × Int
  | 0, r, _ => r
  | f + 1, r, i => if 8 ≤ i then r else refF Z f (if r.2 < (runL Z i : Int) then ((i : Int), (runL Z i : Int)) else r) (i + 1)
theorem row_end (Z : List Bool) {i : Nat} (h : 8 ≤ i) : ∀ f r, rowF Z f r i = r
  | 0, _ => rfl
  | f + 1, r => if_pos h
theorem ref_end (Z : List Bool) {i : Nat} (h : 8 ≤ i) : ∀ f r, refF Z f r i = r
  | 0, _ => rfl
  | f + 1, r => if_pos h
def rowOf (a : Ad) : Int × Int := rowF (zs a) 8 (0, 1) 0
def refOf (a : Ad) : Int × Int := refF (zs a) 8 (-1, 1) 0
theorem row_ok {a : Ad} {Q : Int → Int → Prop} (h : Q (rowOf a).1 (rowOf a).2) : addr_row_W a Q := by
  refine ⟨fun s => ∃ f i : Nat, s.2.2 = i ∧ 8 ≤ i + f ∧ i ≤ 9 ∧ rowF (zs a) f (s.1, s.2.1) i = rowOf a, fun s => (9 - s.2.2).toNat, ⟨8, 0, rfl, by omega, by omega, rfl⟩, ?_⟩
  rintro ⟨at_, most, _⟩ ⟨f, i, rfl, hf, hi9, he⟩
  simp only at he ⊢
  unfold addr_row_l1
  refine ⟨fun c => ?_, fun c => ?_⟩
  · have i8 : i < 8 := by omega
    have hr := runL_le (zs a) i
    rw [zs_len] at hr
    refine ⟨fun k => ∃ j : Nat, k = j ∧ i + j ≤ 8 ∧ runL (zs a) i = j + runL (zs a) (i + j), fun k => (9 - k).toNat, ⟨0, rfl, by omega, by simp⟩, ?_⟩
    rintro _ ⟨j, rfl, hj, hjr⟩
    have fin : j = runL (zs a) i → addr_row_j1 at_ most (i : Int) (fun n_1 most_1 i_1 => (∃ f i : Nat, i_1 = i ∧ 8 ≤ i + f ∧ i ≤ 9 ∧ rowF (zs a) f (n_1, most_1) i = rowOf a) ∧ (9 - i_1).toNat < (9 - (i : Int)).toNat) (j : Int) := by
      intro ej
      have ef : ∃ f', f = f' + 1 := ⟨f - 1, by omega⟩
      obtain ⟨f', rfl⟩ := ef
      rw [rowF, if_neg (by omega), ← ej] at he
      refine ⟨fun cm => ⟨by unfold I64; omega, by unfold I64; omega, ⟨f', i + (j + 1), by omega, by omega, by omega, ?_⟩, by omega⟩, fun cm => ⟨by unfold I64; omega, by unfold I64; omega, ⟨f', i + (j + 1), by omega, by omega, by omega, ?_⟩, by omega⟩⟩
      · rw [if_pos cm] at he; exact he
      · rw [if_neg cm] at he; exact he
    unfold addr_row_l2
    refine ⟨by unfold I64; omega, fun c2 => ?_, fun c2 => fin ?_⟩
    · have i2 : i + j < (zs a).length := by rw [zs_len]; omega
      rw [show (i : Int) + (j : Int) = ((i + j : Nat) : Int) by omega]
      refine word_ok (by omega) ⟨fun c3 => ⟨by unfold I64; omega, ⟨j + 1, by omega, by omega, ?_⟩, (by show (9 - ((j : Int) + 1)).toNat < (9 - (j : Int)).toNat; omega)⟩, fun c3 => fin ?_⟩
      · rw [hjr, runL_step i2, zs_get, if_pos (decide_eq_true (by omega)), Nat.add_assoc i j 1]; omega
      · rw [hjr, runL_step i2, zs_get, if_neg (by simpa using (by omega : ¬ wd a (i + j) = 0))]; omega
    · rw [hjr, runL_end (by rw [zs_len]; omega)]; omega
  · rw [row_end _ (by omega)] at he
    rw [← he] at h; exact h
theorem rows_all : ∀ a b c d e f g h : Bool, let Z := [a, b, c, d, e, f, g, h]; let p := rowF Z 8 (0, 1) 0; let q := refF Z 8 (-1, 1) 0;
    (p.2 < 2 → q = (-1, 1)) ∧ (¬ p.2 < 2 → q = p) ∧ 0 ≤ p.1 ∧ 1 ≤ p.2 ∧ p.1 + p.2 ≤ 8 := by decide +kernel
theorem rows_of (a : Ad) : ((rowOf a).2 < 2 → refOf a = (-1, 1)) ∧ (¬ (rowOf a).2 < 2 → refOf a = rowOf a) ∧ 0 ≤ (rowOf a).1 ∧ 1 ≤ (rowOf a).2 ∧ (rowOf a).1 + (rowOf a).2 ≤ 8 := rows_all _ _ _ _ _ _ _ _
end Go.Wk
