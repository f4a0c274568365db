/- Plain words: an address's text, as the program and as the document write it. -/
import Derived.Test.YtamiodnbinhmhaaDoorAdrP3
set_option linter.unusedSimpArgs false
set_option linter.unusedVariables false
set_option linter.unusedSectionVars false
namespace Go.Wk
open Go.HL
variable [DM]
theorem numL_pow {b : Nat} (hb : 2 ≤ b) : ∀ (k n : Nat), 1 ≤ k → n < b ^ k → (numL b n).length ≤ k
  | 0, _, h, _ => by omega
  | 1, n, _, h => by rw [numL_lt (by simpa using h)]; simp
  | k + 2, n, _, h => by
    by_cases hn : n < b
    · rw [numL_lt hn]; simp
    · have h1 : n / b < b ^ (k + 1) := by
        rw [Nat.pow_succ] at h
        exact Nat.div_lt_of_lt_mul (by rw [Nat.mul_comm]; exact h)
      have := numL_pow hb (k + 1) (n / b) (by omega) h1
      rw [numL_ge hb (by omega), List.length_append]
      simp only [List.length_cons, List.length_nil]; omega
theorem dig_ne : ∀ k < 16, dig k ≠ 58 ∧ dig k ≠ 46 := by decide
theorem numL_no {b : Nat} (hb : 2 ≤ b ∧ b ≤ 16) (n : Nat) : 58 ∉ numL b n ∧ 46 ∉ numL b n := by
  constructor <;> intro h <;> obtain ⟨k, hk, e⟩ := numL_mem hb.1 n _ h
  · exact (dig_ne k (by omega)).1 e.symm
  · exact (dig_ne k (by omega)).2 e.symm
/-- Words from one place to another. -/
def wL (a : Ad) (i j : Nat) : List Str := (List.range' i (j - i)).map fun k => numL 16 (wd a k)
theorem wL_succ (a : Ad) {i k : Nat} (h : i ≤ k) : wL a i (k + 1) = wL a i k ++ [numL 16 (wd a k)] := by
  unfold wL
  rw [show k + 1 - i = (k - i) + 1 by omega, List.range'_1_concat, List.map_append, show i + (k - i) = k by omega]; rfl
theorem wL_nil (a : Ad) {i j : Nat} (h : j ≤ i) : wL a i j = [] := by unfold wL; rw [show j - i = 0 by omega]; rfl
theorem wL_len (a : Ad) (i j : Nat) : (wL a i j).length = j - i := by simp [wL]
theorem wL_good (a : Ad) (i j : Nat) : ∀ x ∈ wL a i j, x ≠ [] ∧ (58 : UInt8) ∉ x ∧ x.length ≤ 4 := by
  intro x hx
  obtain ⟨k, _, rfl⟩ := List.mem_map.1 hx
  exact ⟨numL_ne _ _, (numL_no (by decide) _).1, numL_pow (by decide) 4 _ (by decide) (wd_lt a k)⟩
theorem wJ_len (a : Ad) (i j : Nat) : (joinS (wL a i j) [58]).length ≤ (j - i) * 5 := by
  have := joinS_len (c := 58) (m := 4) fun x hx => (wL_good a i j x hx).2.2
  rw [wL_len] at this; exact this
def oL (a : Ad) (i : Nat) : List Str := (List.range i).map fun k => numL 10 (by8 a k)
theorem oL_succ (a : Ad) (i : Nat) : oL a (i + 1) = oL a i ++ [numL 10 (by8 a i)] := by unfold oL; rw [List.range_succ, List.map_append]; rfl
theorem oL_len (a : Ad) (i : Nat) : (oL a i).length = i := by simp [oL]
theorem oL_good (a : Ad) (i : Nat) : ∀ x ∈ oL a i, x ≠ [] ∧ (46 : UInt8) ∉ x ∧ (58 : UInt8) ∉ x ∧ x.length ≤ 3 := by
  intro x hx
  obtain ⟨k, _, rfl⟩ := List.mem_map.1 hx
  have := by8_lt a k
  exact ⟨numL_ne _ _, (numL_no (by decide) _).2, (numL_no (by decide) _).1, numL_pow (by decide) 3 _ (by decide) (by omega)⟩
theorem oJ_len (a : Ad) (i : Nat) : (joinS (oL a i) [46]).length ≤ i * 4 := by
  have := joinS_len (c := 46) (m := 3) fun x hx => (oL_good a i x hx).2.2.2
  rw [oL_len] at this; exact this
def txt (a : Ad) : Str :=
  if a.1 = true then (if (rowOf a).2 < 2 then joinS (wL a 0 8) [58] else joinS (wL a 0 (rowOf a).1.toNat) [58] ++ [58, 58] ++ joinS (wL a ((rowOf a).1 + (rowOf a).2).toNat 8) [58])
  else joinS (oL a 4) [46]
theorem txt_len (a : Ad) : (txt a).length ≤ 100 := by
  unfold txt
  have h1 := wJ_len a 0 8
  have h2 := wJ_len a 0 (rowOf a).1.toNat
  have h3 := wJ_len a ((rowOf a).1 + (rowOf a).2).toNat 8
  have h4 := oJ_len a 4
  obtain ⟨_, _, r1, r2, r3⟩ := rows_of a
  split
  · split
    · omega
    · simp only [List.length_append, List.length_cons, List.length_nil]; omega
  · omega
/-! ### The program's -/
theorem list_ok {a : Ad} {i j : Nat} (hj : j ≤ 8) (hi : i ≤ 8) {Q : Str → Prop} (h : Q (joinS (wL a i j) [58])) : addr_list_W a (i : Int) (j : Int) Q := by
  refine loop_from (fun s => s.2) i (max i j) (fun k s => i ≤ k ∧ s.1 = wL a i k) rfl (by omega) ⟨Nat.le_refl _, (wL_nil a (Nat.le_refl _)).symm⟩ ?_
  rintro K k ⟨l, _⟩ rfl hk ⟨hik, hl'⟩ hK
  dsimp only at hl' ⊢
  subst hl'
  have hl := wL_len a i k
  unfold addr_list_l2
  refine ⟨fun c => word_ok (by omega) (fmt16_ok (wd_lt a k) ⟨by simp only [List.length_cons, List.length_nil]; omega, by unfold I64; omega, hK (k + 1) _ (by dsimp only; omega) (by omega) (by omega) ⟨by omega, (wL_succ a hik).symm⟩⟩), fun c => ?_⟩
  have e : wL a i k = wL a i j := by
    by_cases hij : i ≤ j
    · rw [show k = j by omega]
    · rw [wL_nil a (by omega), wL_nil a (by omega)]
  have := wJ_len a i k
  refine ⟨⟨by omega, by omega⟩, ?_⟩
  rw [e]; exact h
theorem text_ok {a : Ad} {Q : Str → Prop} (h : Q (txt a)) : addr_text_W a Q := by
  refine ⟨fun c => ?_, fun c => ?_⟩
  · have hv : a.1 = false := by simpa using c
    have hc : (cut a.2.1 0 4).length = 4 := by unfold cut; have := a.2.2; simp; omega
    refine loop_up 4 (fun i l => l = oL a i) rfl fun K i l hi hl hK => ?_
    have hlen := oL_len a i
    rw [← hl] at hlen
    show addr_text_l2 a Q _ l (i : Int)
    unfold addr_text_l2
    rw [hc]
    refine ⟨fun d => ?_, fun d => ?_⟩
    · have i4 : i < (cut a.2.1 0 4).length := by omega
      have hg : (((gi (cut a.2.1 0 4) (i : Int)).toNat : Nat) : Int) = ((by8 a i : Nat) : Int) := by
        rw [gi_nat i4]
        unfold by8 cut
        have hl : i < a.2.1.length := by have := a.2.2; omega
        simp [List.getD_eq_getElem?_getD, hl]
      have h8 := by8_lt a i
      rw [hg, itoa_numL]
      exact ⟨by omega, by unfold I64; omega, by simp only [List.length_cons, List.length_nil]; omega, by unfold I64; omega, hK (i + 1) _ (by omega) (by omega) (by rw [oL_succ, hl])⟩
    · have i4 : i = 4 := by omega
      subst i4
      have := oJ_len a 4
      rw [hl]
      refine ⟨⟨by rw [oL_len]; decide, by omega⟩, ?_⟩
      unfold txt at h
      rw [if_neg (by rw [hv]; decide)] at h; exact h
  · have hv : a.1 = true := by simpa using c
    obtain ⟨_, _, r1, r2, r3⟩ := rows_of a
    unfold txt at h
    rw [if_pos hv] at h
    refine row_ok ⟨fun d => list_ok (i := 0) (j := 8) (by omega) (by omega) ?_, fun d => ⟨by unfold I64; omega, ?_⟩⟩
    · rw [if_pos d] at h; exact h
    · rw [if_neg d] at h
      have e1 : (rowOf a).1 = ((rowOf a).1.toNat : Int) := by omega
      have e2 : (rowOf a).1 + (rowOf a).2 = (((rowOf a).1 + (rowOf a).2).toNat : Int) := by omega
      have l1 := wJ_len a 0 (rowOf a).1.toNat
      have l2 := wJ_len a ((rowOf a).1 + (rowOf a).2).toNat 8
      generalize ((rowOf a).1 + (rowOf a).2).toNat = q at *
      generalize (rowOf a).1.toNat = p at *
      rw [e2, e1]
      exact list_ok (i := 0) (by omega) (by omega) ⟨by simp only [List.length_cons, List.length_nil]; omega, list_ok (j := 8) (by omega) (by omega) ⟨by simp only [List.length_append, List.length_cons, List.length_nil]; omega, h⟩⟩
/-! ### The document's -/
theorem last_gi {s : Str} {c : UInt8} (h : s.getLast? = some c) : s ≠ [] ∧ gi s ((s.length : Int) - 1) = c := by
  have hne : s ≠ [] := by rintro rfl; cases h
  have hp := List.length_pos_iff.2 hne
  refine ⟨hne, ?_⟩
  rw [show (s.length : Int) - 1 = ((s.length - 1 : Nat) : Int) by omega, gi_nat (by omega)]
  rw [List.getLast?_eq_getElem?, List.getElem?_eq_getElem (by omega)] at h
  exact Option.some.inj h
theorem j3_ok {a : Ad} {i : Nat} (hi : i < 8) {K : Str → Int → Prop} {s : Str} (hs : s.length ≤ 1000) (h : K (s ++ numL 16 (wd a i)) ((i : Int) + 1)) : ref03_Print_j3 a (i : Int) K s := by
  have e1 : (2 * (i : Int)) = ((2 * i : Nat) : Int) := by omega
  have e2 : (2 * (i : Int)) + 1 = ((2 * i + 1 : Nat) : Int) := by omega
  have h1 := by8_lt a (2 * i)
  have h2 := by8_lt a (2 * i + 1)
  have hw : 256 * ((by8 a (2 * i) : Nat) : Int) + ((by8 a (2 * i + 1) : Nat) : Int) = ((wd a i : Nat) : Int) := by unfold wd; omega
  unfold ref03_Print_j3
  rw [e2, e1, b8_by a (by omega), b8_by a (by omega), hw]
  have hwl := wd_lt a i
  have hnl := numL_pow (b := 16) (by decide) 4 _ (by decide) hwl
  exact ⟨by unfold I64; omega, by omega, by unfold I64; omega, by unfold I64; omega, by unfold I64; omega, by omega, by unfold I64; omega, by unfold I64; omega, num_ok (b := 16) (by decide) (by omega) ⟨by omega, by unfold I64; omega, h⟩⟩
theorem add_ok {a : Ad} {i : Nat} (hi : i < 8) {K : Str → Int → Prop} {P : Str} {l : List Str} (hP : P = [] ∨ P.getLast? = some 58) (hl : ∀ x ∈ l, x ≠ [] ∧ (58 : UInt8) ∉ x) (hlen : (P ++ joinS l [58]).length ≤ 900)
    (h : K (P ++ joinS (l ++ [numL 16 (wd a i)]) [58]) ((i : Int) + 1)) :
    (¬ ((P ++ joinS l [58] : Str) = []) → (I64 (((P ++ joinS l [58]).length : Int) - 1)) ∧ (((0 : Int) ≤ ((P ++ joinS l [58]).length : Int) - 1 ∧ ((P ++ joinS l [58]).length : Int) - 1 < ((P ++ joinS l [58]).length : Int)) ∧ ((¬ (((gi (P ++ joinS l [58]) (((P ++ joinS l [58]).length : Int) - 1)).toNat : Int) = 58) → (((P ++ joinS l [58]).length : Int) + ((([58] : Str)).length : Int) ≤ 9223372036854775807) ∧ (ref03_Print_j3 a (i : Int) K ((P ++ joinS l [58]) ++ ([58] : Str)))) ∧ (((gi (P ++ joinS l [58]) (((P ++ joinS l [58]).length : Int) - 1)).toNat : Int) = 58 → ref03_Print_j3 a (i : Int) K (P ++ joinS l [58]))))) ∧ ((P ++ joinS l [58] : Str) = [] → ref03_Print_j3 a (i : Int) K (P ++ joinS l [58])) := by
  by_cases hn : l = []
  · subst hn
    rw [joinS_nil, List.append_nil] at *
    rw [List.nil_append, joinS_one] at h
    have hj : ref03_Print_j3 a (i : Int) K P := j3_ok hi (by omega) h
    refine ⟨fun c => ?_, fun c => hj⟩
    have hp := List.length_pos_iff.2 c
    refine ⟨by unfold I64; omega, by omega, fun d => ?_, fun d => hj⟩
    rcases hP with rfl | hP
    · exact absurd rfl c
    · exact absurd (by rw [(last_gi hP).2]; rfl) d
  · obtain ⟨x, hx, c, hc, hlast⟩ := joinS_last (s := [58]) hn fun x hx => (hl x hx).1
    have hc58 : c ≠ 58 := fun e => (hl x hx).2 (e ▸ hc)
    have hlast' : (P ++ joinS l [58]).getLast? = some c := by rw [List.getLast?_append, hlast]; rfl
    obtain ⟨hne, hg⟩ := last_gi hlast'
    have hp := List.length_pos_iff.2 hne
    have hj : ref03_Print_j3 a (i : Int) K ((P ++ joinS l [58]) ++ [58]) := by
      refine j3_ok hi (by rw [List.length_append]; simp only [List.length_cons, List.length_nil]; omega) ?_
      rw [joinS_snoc hn] at h
      simpa [List.append_assoc] using h
    refine ⟨fun _ => ⟨by unfold I64; omega, by omega, fun _ => ⟨by simp only [List.length_cons, List.length_nil]; omega, hj⟩, fun d => ?_⟩, fun q => absurd q hne⟩
    rw [hg] at d
    exact absurd (UInt8.toNat_inj.1 (by show c.toNat = 58; omega)) hc58
theorem print6_ok {a : Ad} {Q : Str → Prop} (hv : a.1 = true) (h : Q (txt a)) : loopW (fun (K_4 : (Str × Int) → Prop) (s : Str × Int) => ref03_Print_l4 a Q (refOf a).1 (refOf a).2 (fun s_3 i_3 => K_4 (s_3, i_3)) s.1 s.2) ([], 0) := by
  obtain ⟨r0, rn, r1, r2, r3⟩ := rows_of a
  unfold txt at h
  rw [if_pos hv] at h
  by_cases hc : (rowOf a).2 < 2
  · rw [r0 hc]
    rw [if_pos hc] at h
    refine loop_up 8 (fun i s => s = joinS (wL a 0 i) [58]) rfl fun K i s hi hs hK => ?_
    show ref03_Print_l4 a Q (-1) 1 _ s (i : Int)
    unfold ref03_Print_l4
    have hl := wJ_len a 0 i
    refine ⟨fun d => ⟨fun q => by omega, fun _ => ?_⟩, fun d => ?_⟩
    · have := add_ok (a := a) (i := i) (by omega) (K := fun s_3 i_3 => K (s_3, i_3)) (P := []) (l := wL a 0 i) (.inl rfl) (fun x hx => ⟨(wL_good a 0 i x hx).1, (wL_good a 0 i x hx).2.1⟩) (by rw [List.nil_append]; omega)
        (hK (i + 1) _ (by omega) (by omega) (by rw [List.nil_append, ← wL_succ a (Nat.zero_le _)]))
      rw [List.nil_append, ← hs] at this
      exact this
    · have : i = 8 := by omega
      subst this; rw [hs]; exact h
  · rw [rn hc]
    rw [if_neg hc] at h
    obtain ⟨p, hp⟩ : ∃ p : Nat, (rowOf a).1 = p := ⟨_, (Int.toNat_of_nonneg r1).symm⟩
    obtain ⟨n, hn⟩ : ∃ n : Nat, (rowOf a).2 = n := ⟨_, (Int.toNat_of_nonneg (by omega)).symm⟩
    rw [hp, hn] at h r3 ⊢
    rw [show ((p : Int) + (n : Int)).toNat = p + n by omega, Int.toNat_natCast] at h
    have lH := wJ_len a 0 p
    refine ⟨fun s => ∃ i : Nat, s.2 = i ∧ ((i ≤ p ∧ s.1 = joinS (wL a 0 i) [58]) ∨ (p + n ≤ i ∧ i ≤ 8 ∧ s.1 = joinS (wL a 0 p) [58] ++ [58, 58] ++ joinS (wL a (p + n) i) [58])), fun s => (9 - s.2).toNat, ⟨0, rfl, .inl ⟨Nat.zero_le _, rfl⟩⟩, ?_⟩
    rintro ⟨s, _⟩ ⟨i, rfl, hI⟩
    dsimp only at hI ⊢
    unfold ref03_Print_l4
    rcases hI with ⟨hi, rfl⟩ | ⟨hi, hi8, rfl⟩
    · have hl := wJ_len a 0 i
      refine ⟨fun d => ⟨fun q => ?_, fun q => ?_⟩, fun d => by omega⟩
      · have : i = p := by omega
        subst this
        refine ⟨by simp only [List.length_cons, List.length_nil]; omega, by unfold I64; omega, by unfold I64; omega, by unfold I64; omega, ⟨i + n, by omega, .inr ⟨Nat.le_refl _, by omega, ?_⟩⟩, by omega⟩
        rw [wL_nil a (Nat.le_refl _), joinS_nil, List.append_nil]
      · have := add_ok (a := a) (i := i) (by omega) (K := fun s_3 i_3 => (∃ i_4 : Nat, i_3 = i_4 ∧ ((i_4 ≤ p ∧ s_3 = joinS (wL a 0 i_4) [58]) ∨ (p + n ≤ i_4 ∧ i_4 ≤ 8 ∧ s_3 = joinS (wL a 0 p) [58] ++ [58, 58] ++ joinS (wL a (p + n) i_4) [58]))) ∧ (9 - i_3).toNat < (9 - (i : Int)).toNat) (P := []) (l := wL a 0 i) (.inl rfl) (fun x hx => ⟨(wL_good a 0 i x hx).1, (wL_good a 0 i x hx).2.1⟩) (by rw [List.nil_append]; omega)
          ⟨⟨i + 1, by omega, .inl ⟨by omega, by rw [List.nil_append, ← wL_succ a (Nat.zero_le _)]⟩⟩, by omega⟩
        rw [List.nil_append] at this
        exact this
    · have hl := wJ_len a (p + n) i
      refine ⟨fun d => ⟨fun q => by omega, fun q => ?_⟩, fun d => ?_⟩
      · exact add_ok (a := a) (i := i) (by omega) (K := fun s_3 i_3 => (∃ i_4 : Nat, i_3 = i_4 ∧ ((i_4 ≤ p ∧ s_3 = joinS (wL a 0 i_4) [58]) ∨ (p + n ≤ i_4 ∧ i_4 ≤ 8 ∧ s_3 = joinS (wL a 0 p) [58] ++ [58, 58] ++ joinS (wL a (p + n) i_4) [58]))) ∧ (9 - i_3).toNat < (9 - (i : Int)).toNat) (P := joinS (wL a 0 p) [58] ++ [58, 58]) (l := wL a (p + n) i) (.inr (by simp)) (fun x hx => ⟨(wL_good a _ i x hx).1, (wL_good a _ i x hx).2.1⟩) (by simp only [List.length_append, List.length_cons, List.length_nil]; omega)
          ⟨⟨i + 1, by omega, .inr ⟨by omega, by omega, by rw [← wL_succ a hi]⟩⟩, by omega⟩
      · have : i = 8 := by omega
        subst this; exact h
theorem printR_ok {a : Ad} {Q : Str → Prop} (h : Q (txt a)) : ref03_Print_W a Q := by
  refine ⟨fun c => ?_, fun c => ?_⟩
  · have hv : a.1 = false := by simpa using c
    refine loop_up 4 (fun i s => s = joinS (oL a i) [46]) rfl fun K i s hi hs hK => ?_
    have hl := oJ_len a i
    rw [← hs] at hl
    have h8 := by8_lt a i
    have j1 : ∀ t : Str, t.length ≤ 100 → t ++ numL 10 (by8 a i) = joinS (oL a (i + 1)) [46] → i < 4 → ref03_Print_j1 a (i : Int) (fun s_1 i_1 => K (s_1, i_1)) t := by
      intro t ht he i4
      have hnl := numL_pow (b := 10) (by decide) 3 (by8 a i) (by decide) (by omega)
      unfold ref03_Print_j1
      rw [b8_by a (by omega)]
      exact ⟨by omega, by unfold I64; omega, num_ok (b := 10) (by decide) (by omega) ⟨by omega, by unfold I64; omega, hK (i + 1) _ (by omega) (by omega) he⟩⟩
    show ref03_Print_l1 a Q _ s (i : Int)
    unfold ref03_Print_l1
    refine ⟨fun d => ⟨fun q => ⟨by simp only [List.length_cons, List.length_nil]; omega, j1 _ (by simp only [List.length_append, List.length_cons, List.length_nil]; omega) ?_ (by omega)⟩, fun q => j1 _ (by omega) ?_ (by omega)⟩, fun d => ?_⟩
    · have hne : oL a i ≠ [] := by intro e; have := congrArg List.length e; rw [oL_len] at this; simp at this; omega
      rw [oL_succ, joinS_snoc hne, hs]
    · have : i = 0 := by omega
      subst this
      rw [hs, oL_succ]
      show _ = joinS [numL 10 (by8 a 0)] [46]
      rw [joinS_one]; rfl
    · have : i = 4 := by omega
      subst this
      unfold txt at h
      rw [if_neg (by rw [hv]; decide)] at h
      rw [hs]; exact h
  · have hv : a.1 = true := by simpa using c
    have hp := print6_ok (Q := Q) hv h
    refine ⟨fun s => ∃ f i : Nat, s.2.2 = i ∧ 8 ≤ i + f ∧ i ≤ 9 ∧ refF (zs a) f (s.1, s.2.1) i = refOf a, fun s => (9 - s.2.2).toNat, ⟨8, 0, rfl, by omega, by omega, rfl⟩, ?_⟩
    rintro ⟨at_, most, _⟩ ⟨f, i, rfl, hf, hi9, he⟩
    dsimp only at he ⊢
    unfold ref03_Print_l2
    refine ⟨fun c => ?_, fun c => ?_⟩
    · have i8 : i < 8 := by omega
      have hr := runL_le (zs a) i
      rw [zs_len] at hr
      refine ⟨fun k => ∃ j : Nat, k = j ∧ i + j ≤ 8 ∧ runL (zs a) i = j + runL (zs a) (i + j), fun k => (9 - k).toNat, ⟨0, rfl, by omega, by simp⟩, ?_⟩
      rintro _ ⟨j, rfl, hj, hjr⟩
      have fin : j = runL (zs a) i → ref03_Print_j2 at_ most (i : Int) (fun n_1 most_1 i_1 => (∃ f i : Nat, i_1 = i ∧ 8 ≤ i + f ∧ i ≤ 9 ∧ refF (zs a) f (n_1, most_1) i = refOf a) ∧ (9 - i_1).toNat < (9 - (i : Int)).toNat) (j : Int) := by
        intro ej
        have ef : ∃ f', f = f' + 1 := ⟨f - 1, by omega⟩
        obtain ⟨f', rfl⟩ := ef
        rw [refF, if_neg (by omega), ← ej] at he
        refine ⟨fun cm => ⟨by unfold I64; omega, ⟨f', i + 1, by omega, by omega, by omega, ?_⟩, by omega⟩, fun cm => ⟨by unfold I64; omega, ⟨f', i + 1, by omega, by omega, by omega, ?_⟩, by omega⟩⟩
        · rw [if_pos cm] at he; exact he
        · rw [if_neg cm] at he; exact he
      unfold ref03_Print_l3
      refine ⟨by unfold I64; omega, fun c2 => ?_, fun c2 => fin ?_⟩
      · have i2 : i + j < (zs a).length := by rw [zs_len]; omega
        have e1 : 2 * ((i : Int) + (j : Int)) = ((2 * (i + j) : Nat) : Int) := by omega
        have e2 : 2 * ((i : Int) + (j : Int)) + 1 = ((2 * (i + j) + 1 : Nat) : Int) := by omega
        rw [e2, e1, b8_by a (by omega), b8_by a (by omega)]
        have hz : wd a (i + j) = 0 ↔ by8 a (2 * (i + j)) = 0 ∧ by8 a (2 * (i + j) + 1) = 0 := by unfold wd; omega
        have no : ¬ wd a (i + j) = 0 → j = runL (zs a) i := by
          intro q
          rw [hjr, runL_step i2, zs_get, if_neg (by simpa using q)]; omega
        refine ⟨by unfold I64; omega, by omega, fun c3 => ⟨by unfold I64; omega, by omega, fun c4 => ⟨by unfold I64; omega, ⟨j + 1, by omega, by omega, ?_⟩, (by show (9 - ((j : Int) + 1)).toNat < (9 - (j : Int)).toNat; omega)⟩, fun c4 => fin (no fun q => ?_)⟩, fun c3 => fin (no fun q => ?_)⟩
        · rw [hjr, runL_step i2, zs_get, if_pos (decide_eq_true (hz.2 ⟨by omega, by omega⟩)), Nat.add_assoc i j 1]; omega
        · have := (hz.1 q).2; omega
        · have := (hz.1 q).1; omega
      · rw [hjr, runL_end (by rw [zs_len]; omega)]; omega
    · rw [ref_end _ (by omega)] at he
      rw [← he] at hp; exact hp
end Go.Wk
