/- Plain words: an address read out of its text. -/
import Derived.Test.YtamiodnbinhmhaaDoorAdrP4
set_option linter.unusedSimpArgs false
set_option linter.unusedVariables false
set_option linter.unusedSectionVars false
namespace Go.Wk
open Go.HL
variable [DM]
theorem list16 {l : Str} (h : l.length = 16) : l = [l.getD 0 0, l.getD 1 0, l.getD 2 0, l.getD 3 0, l.getD 4 0, l.getD 5 0, l.getD 6 0, l.getD 7 0, l.getD 8 0, l.getD 9 0, l.getD 10 0, l.getD 11 0, l.getD 12 0, l.getD 13 0, l.getD 14 0, l.getD 15 0] := by
  match l, h with
  | [_, _, _, _, _, _, _, _, _, _, _, _, _, _, _, _], _ => rfl
theorem u8w_self (x : UInt8) : u8w (x.toNat : Int) = x := by
  have h := u8w_toNat (x.toNat : Int)
  have := x.toNat_lt
  exact UInt8.toNat_inj.1 (by omega)
theorem u8w_by (a : Ad) (i : Nat) : u8w ((by8 a i : Nat) : Int) = a.2.1.getD i 0 := u8w_self _
theorem put_wd (a : Ad) (k : Nat) : [u8w (((wd a k : Nat) : Int).fdiv 256), u8w ((wd a k : Nat) : Int)] = [a.2.1.getD (2 * k) 0, a.2.1.getD (2 * k + 1) 0] := by
  have h1 := by8_lt a (2 * k)
  have h2 := by8_lt a (2 * k + 1)
  have e1 : ((wd a k : Nat) : Int).fdiv 256 = ((by8 a (2 * k) : Nat) : Int) := by
    rw [Int.fdiv_eq_ediv_of_nonneg _ (by decide)]; unfold wd; omega
  have e2 : u8w ((wd a k : Nat) : Int) = u8w ((by8 a (2 * k + 1) : Nat) : Int) := by
    have q1 := u8w_toNat ((wd a k : Nat) : Int)
    have q2 := u8w_toNat ((by8 a (2 * k + 1) : Nat) : Int)
    refine UInt8.toNat_inj.1 ?_
    unfold wd at *; omega
  rw [e1, e2, u8w_by, u8w_by]
/-- An address's bytes. -/
def bOf (a : Ad) : Str := if a.1 = true then a.2.1 else a.2.1.take 4
def seg (a : Ad) (i j : Nat) : Str := (List.range' i (j - i)).flatMap fun k => [a.2.1.getD (2 * k) 0, a.2.1.getD (2 * k + 1) 0]
theorem seg_all (a : Ad) : seg a 0 8 = a.2.1 := (list16 a.2.2).symm
theorem seg_app (a : Ad) {i j k : Nat} (h : i ≤ j) (h2 : j ≤ k) : seg a i j ++ seg a j k = seg a i k := by
  unfold seg
  rw [← List.flatMap_append]
  congr 1
  have : List.range' i (j - i) ++ List.range' (i + 1 * (j - i)) (k - j) = List.range' i ((j - i) + (k - j)) := List.range'_append
  rw [show i + 1 * (j - i) = j by omega, show (j - i) + (k - j) = k - i by omega] at this
  exact this
theorem seg_len (a : Ad) (i j : Nat) : (seg a i j).length = 2 * (j - i) := by
  unfold seg
  generalize j - i = m
  induction m generalizing i with
  | zero => rfl
  | succ m ih => rw [List.range'_succ, List.flatMap_cons, List.length_append, ih]; simp only [List.length_cons, List.length_nil]; omega
theorem repS_zero (n : Nat) : repS [0] (n : Int) = List.replicate n 0 := by
  unfold repS
  rw [Int.toNat_natCast]
  induction n with
  | zero => rfl
  | succ n ih => rw [Lib.repeatL, ih]; rfl
theorem seg_zero (a : Ad) {i j : Nat} (h : ∀ k, i ≤ k → k < j → wd a k = 0) : seg a i j = List.replicate (2 * (j - i)) 0 := by
  rw [List.eq_replicate_iff]
  refine ⟨seg_len a i j, fun x hx => ?_⟩
  unfold seg at hx
  obtain ⟨k, hk, hx⟩ := List.mem_flatMap.1 hx
  rw [List.mem_range'_1] at hk
  have hw := h k hk.1 (by omega)
  unfold wd by8 at hw
  simp only [List.mem_cons, List.not_mem_nil, or_false] at hx
  rcases hx with rfl | rfl
  · exact UInt8.toNat_inj.1 (by show _ = 0; omega)
  · exact UInt8.toNat_inj.1 (by show _ = 0; omega)
theorem rows_zero : ∀ a b c d e f g h : Bool, let Z := [a, b, c, d, e, f, g, h]; let p := rowF Z 8 (0, 1) 0;
    ¬ p.2 < 2 → ∀ k < 8, p.1 ≤ ((k : Nat) : Int) → ((k : Nat) : Int) < p.1 + p.2 → Z.getD k false = true := by decide +kernel
theorem rows_zero_of (a : Ad) (h : ¬ (rowOf a).2 < 2) {k : Nat} (h1 : (rowOf a).1 ≤ (k : Int)) (h2 : (k : Int) < (rowOf a).1 + (rowOf a).2) : wd a k = 0 := by
  obtain ⟨_, _, r1, r2, r3⟩ := rows_of a
  have hk : k < 8 := by omega
  have := rows_zero _ _ _ _ _ _ _ _ h k hk h1 h2
  have hl : k < (zs a).length := by rw [zs_len]; exact hk
  have e : (zs a).getD k false = decide (wd a k = 0) := by rw [List.getD_eq_getElem?_getD, List.getElem?_eq_getElem hl]; exact zs_get a hl
  have : (zs a).getD k false = true := this
  rw [e] at this
  exact of_decide_eq_true this
/-! ### What numbers are read of a text -/
theorem num6 {s : Str} (hl : s.length ≤ 800) {Q : Str → Bool → Prop} (h : ∀ (r : Str) (ok : Bool), r.length ≤ 2 * (s.length + 1) → (∀ (a : Ad) (i j : Nat), s = joinS (wL a i j) [58] → r = seg a i j ∧ ok = true) → Q r ok) : addr_numbers_W s [58] 16 2 Q := by
  refine numbers_ok (b := 16) (w := 16) (.inr ⟨rfl, by decide, rfl, rfl⟩) (by decide) (fun v => [u8w (v.fdiv 256), u8w v]) (fun v Q h => put2_ok h) (fun v => by simp) (by omega) fun r ok hr h0 hns => h r ok hr fun a i j hs => ?_
  by_cases hij : i < j
  · have hne : wL a i j ≠ [] := by intro e; have := congrArg List.length e; rw [wL_len] at this; simp at this; omega
    have hg := wL_good a i j
    have e3 : ((List.range' i (j - i)).map (wd a)).flatMap (fun (n : Nat) => [u8w ((n : Int).fdiv 256), u8w (n : Int)]) = seg a i j := by
      rw [List.flatMap_map]
      unfold seg
      exact congrArg (fun f => List.flatMap f (List.range' i (j - i))) (funext fun k => put_wd a k)
    rw [← e3]
    exact hns ((List.range' i (j - i)).map (wd a)) (by intro n hn; obtain ⟨k, _, rfl⟩ := List.mem_map.1 hn; exact wd_lt a k) (by rw [hs]; exact joinS_ne hne fun x hx => (hg x hx).1) (by rw [hs, split_join hne fun x hx => (hg x hx).2.1]; unfold wL; rw [List.map_map]; rfl)
  · have e0 : wL a i j = [] := wL_nil a (by omega)
    have e3 : seg a i j = [] := by unfold seg; rw [show j - i = 0 by omega]; rfl
    rw [e3]
    exact h0 (by rw [hs, e0]; rfl)
theorem cutS_len (s sep : Str) : (cutS s sep).1.length ≤ s.length ∧ (cutS s sep).2.1.length ≤ s.length := by
  unfold cutS Lib.cut
  split
  · simp only [List.length_take, List.length_drop]; omega
  · simp
theorem idx_cc_none {c : UInt8} : ∀ {h : Str}, okH c h → Lib.index h [c, c] = -1
  | [], _ => rfl
  | [a], k => by rw [index_cons]; simp [List.isPrefixOf, Lib.index]
  | a :: b :: r, k => by
    rw [index_cons, idx_cc_none k.2]
    have : ([c, c].isPrefixOf (a :: b :: r)) = false := by
      simp [List.isPrefixOf]
      intro e1 e2
      exact k.1 ⟨e1.symm, e2.symm⟩
    rw [this]; rfl
theorem cut_cc_none {c : UInt8} {h : Str} (k : okH c h) : cutS h [c, c] = (h, [], false) := by
  unfold cutS Lib.cut
  rw [idx_cc_none k, if_neg (by omega)]
theorem txt6_has (a : Ad) (h : a.1 = true) : (58 : UInt8) ∈ txt a := by
  unfold txt
  rw [if_pos h]
  split
  · have hne : wL a 0 7 ≠ [] := by intro e; have := congrArg List.length e; rw [wL_len] at this; simp at this
    rw [wL_succ a (k := 7) (Nat.zero_le _), joinS_snoc hne]; simp
  · simp
theorem txt4_no (a : Ad) (h : a.1 = false) : (58 : UInt8) ∉ txt a := by
  unfold txt
  rw [if_neg (by rw [h]; decide)]
  intro q
  rcases joinS_mem q with q | ⟨x, hx, q⟩
  · simp at q
  · exact (oL_good a 4 x hx).2.2.1 q
theorem parse_main {s : Str} (hl : s.length ≤ 800) {Q : Ad → Int → Prop} (h : ∀ b ok, (∀ a, s = txt a → b = bOf a ∧ ok = true) → addr_Parse_j1 s Q b ok) : addr_Parse_W s Q := by
  refine numbers_ok (b := 10) (w := 8) (.inl ⟨rfl, by decide, rfl, rfl⟩) (by decide) (fun v => [u8w v]) (fun v Q h => put1_ok h) (fun v => by simp) (by omega) fun r ok hr _ hns => ⟨by omega, fun c => ?_, fun c => h _ _ fun a e => ?_⟩
  · rw [has1] at c
    have c := of_decide_eq_true c
    obtain ⟨cl1, cl2⟩ := cutS_len s [58, 58]
    refine ⟨by omega, num6 (by omega) fun r1 ok1 l1 p1 => num6 (by omega) fun r2 ok2 l2 p2 => ?_⟩
    have fin : ∀ (b : Str) (ok : Bool), (ok1 = true → ok = ok2) → ((cutS s [58, 58]).2.2 = false → b = r1 ++ r2) → ((cutS s [58, 58]).2.2 = true → 0 < 16 - (r1.length : Int) - (r2.length : Int) → b = (r1 ++ repS [0] (16 - (r1.length : Int) - (r2.length : Int))) ++ r2) → addr_Parse_j1 s Q b ok := by
      intro b ok hok hb0 hb1
      refine h _ _ fun a e => ?_
      have hv : a.1 = true := by
        cases hv : a.1
        · exact absurd (e ▸ c) (txt4_no a hv)
        · rfl
      have ht : txt a = (if (rowOf a).2 < 2 then joinS (wL a 0 8) [58] else joinS (wL a 0 (rowOf a).1.toNat) [58] ++ [58, 58] ++ joinS (wL a ((rowOf a).1 + (rowOf a).2).toNat 8) [58]) := by unfold txt; rw [if_pos hv]
      rw [← e] at ht
      unfold bOf
      rw [if_pos hv]
      obtain ⟨_, _, q1, q2, q3⟩ := rows_of a
      by_cases hr2 : (rowOf a).2 < 2
      · rw [if_pos hr2] at ht
        have hc := cut_cc_none (okH_join fun x hx => ⟨(wL_good a 0 8 x hx).1, (wL_good a 0 8 x hx).2.1⟩)
        rw [← ht] at hc
        obtain ⟨e1, o1⟩ := p1 a 0 8 (by rw [hc]; exact ht)
        obtain ⟨e2, o2⟩ := p2 a 8 8 (by rw [hc]; rfl)
        have e8 : seg a 8 8 = [] := rfl
        rw [hb0 (by rw [hc]), hok o1, o2, e1, e2, e8, List.append_nil, seg_all]
        exact ⟨rfl, rfl⟩
      · rw [if_neg hr2] at ht
        obtain ⟨p, hp⟩ : ∃ p : Nat, (rowOf a).1 = p := ⟨_, (Int.toNat_of_nonneg q1).symm⟩
        obtain ⟨n, hn⟩ : ∃ n : Nat, (rowOf a).2 = n := ⟨_, (Int.toNat_of_nonneg (by omega)).symm⟩
        have hz : ∀ k, p ≤ k → k < p + n → wd a k = 0 := fun k h1 h2 => rows_zero_of a hr2 (by omega) (by omega)
        rw [hp, hn] at ht q3
        rw [show ((p : Int) + (n : Int)).toNat = p + n by omega, Int.toNat_natCast] at ht
        have hc := cut_cc (t := joinS (wL a (p + n) 8) [58]) (okH_join fun x hx => ⟨(wL_good a 0 p x hx).1, (wL_good a 0 p x hx).2.1⟩)
        rw [show joinS (wL a 0 p) [58] ++ 58 :: 58 :: joinS (wL a (p + n) 8) [58] = s by rw [ht]; simp] at hc
        obtain ⟨e1, o1⟩ := p1 a 0 p (by rw [hc])
        obtain ⟨e2, o2⟩ := p2 a (p + n) 8 (by rw [hc])
        have f1 := seg_len a 0 p
        have f2 := seg_len a (p + n) 8
        have hb := hb1 (by rw [hc]) (by rw [e1, e2, f1, f2]; omega)
        rw [hok o1, o2]
        refine ⟨?_, rfl⟩
        rw [hb, e1, e2, f1, f2]
        have ez : (16 - ((2 * (p - 0) : Nat) : Int) - ((2 * (8 - (p + n)) : Nat) : Int)) = ((2 * ((p + n) - p) : Nat) : Int) := by omega
        rw [ez, repS_zero, ← seg_zero a (i := p) (j := p + n) hz, seg_app a (Nat.zero_le _) (by omega), seg_app a (Nat.zero_le _) (by omega), seg_all]
    have j1 : ∀ x : Str, x.length ≤ 10000 → ((cutS s [58, 58]).2.2 = false → x = r1) → ((cutS s [58, 58]).2.2 = true → 0 < 16 - (r1.length : Int) - (r2.length : Int) → x = r1 ++ repS [0] (16 - (r1.length : Int) - (r2.length : Int))) → addr_parse6_j1 (fun r0_3 r1_3 => addr_Parse_j1 s Q r0_3 r1_3) ok1 r2 ok2 x := by
      intro x hx h0 h1
      refine ⟨by omega, fun o => fin _ _ (fun _ => rfl) (fun q => by rw [h0 q]) (fun q q2 => by rw [h1 q q2]), fun o => fin _ _ (fun q => by rw [o] at q; cases q) (fun q => by rw [h0 q]) (fun q q2 => by rw [h1 q q2])⟩
    refine ⟨by unfold I64; omega, by unfold I64; omega, fun cf => ⟨fun d => ⟨by have := of_decide_eq_true d; simp only [List.length_cons, List.length_nil]; omega, ?_, ?_⟩, fun d => j1 _ (by omega) (fun q => absurd (cf.symm.trans q) (by decide)) (fun _ q => by have := of_decide_eq_false d; omega)⟩, fun cf => ⟨fun d => (by cases d), fun _ => j1 _ (by omega) (fun _ => rfl) (fun q => absurd (cf.symm.trans q) (by decide))⟩⟩
    · have d := of_decide_eq_true d
      obtain ⟨k, hk⟩ : ∃ k : Nat, 16 - (r1.length : Int) - (r2.length : Int) = k := ⟨_, (Int.toNat_of_nonneg (by omega)).symm⟩
      rw [hk, repS_zero, List.length_replicate]; omega
    · have d := of_decide_eq_true d
      refine j1 _ ?_ (fun q => absurd (cf.symm.trans q) (by decide)) (fun _ _ => rfl)
      obtain ⟨k, hk⟩ : ∃ k : Nat, 16 - (r1.length : Int) - (r2.length : Int) = k := ⟨_, (Int.toNat_of_nonneg (by omega)).symm⟩
      rw [hk, repS_zero, List.length_append, List.length_replicate]; omega
  · rw [has1] at c
    have c := of_decide_eq_false c
    have hv : a.1 = false := by
      cases hv : a.1
      · rfl
      · exact absurd (e ▸ txt6_has a hv) c
    have ht : txt a = joinS (oL a 4) [46] := by unfold txt; rw [if_neg (by rw [hv]; decide)]
    have hg := oL_good a 4
    have hne : oL a 4 ≠ [] := by intro e; have := congrArg List.length e; rw [oL_len] at this; simp at this
    unfold bOf
    rw [if_neg (by rw [hv]; decide)]
    have e3 : ((List.range 4).map (by8 a)).flatMap (fun (n : Nat) => [u8w (n : Int)]) = a.2.1.take 4 := by
      rw [list16 a.2.2, List.flatMap_map]
      show [u8w _, u8w _, u8w _, u8w _] = _
      rw [u8w_by, u8w_by, u8w_by, u8w_by]; rfl
    rw [← e3]
    exact hns ((List.range 4).map (by8 a)) (by intro n hn; obtain ⟨k, _, rfl⟩ := List.mem_map.1 hn; exact by8_lt a k) (by rw [e, ht]; exact joinS_ne hne fun x hx => (hg x hx).1) (by rw [e, ht, split_join hne fun x hx => (hg x hx).2.1]; unfold oL; rw [List.map_map]; rfl)
def goodA (a : Ad) : Prop := a.1 = true ∨ a.2.1.drop 4 = List.replicate 12 0
def rdA (b : Str) : Ad := (decide ((b.length : Int) = 16), cpyB (default : Ba 16) b)
theorem def16 : (default : Ba 16).1 = List.replicate 16 0 := rfl
theorem rdA_good {b : Str} (h : b.length = 4 ∨ b.length = 16) : goodA (rdA b) := by
  unfold goodA rdA
  rcases h with h | h
  · right
    show (b.take 16 ++ (default : Ba 16).1.drop (b.take 16).length).drop 4 = _
    rw [def16, List.take_of_length_le (by omega), h, List.drop_left' h]; rfl
  · left
    exact decide_eq_true (by omega)
theorem rdA_of {a : Ad} (h : goodA a) : rdA (bOf a) = a ∧ ((bOf a).length = 4 ∨ (bOf a).length = 16) := by
  obtain ⟨v, X⟩ := a
  have hX := X.2
  cases v
  · have hd : X.1.drop 4 = List.replicate 12 0 := by rcases h with h | h; cases h; exact h
    have hl : (X.1.take 4).length = 4 := by rw [List.length_take]; omega
    refine ⟨?_, .inl hl⟩
    show (decide (((X.1.take 4).length : Int) = 16), cpyB (default : Ba 16) (X.1.take 4)) = _
    rw [hl]
    refine Prod.ext rfl (Subtype.ext ?_)
    show (X.1.take 4).take 16 ++ (default : Ba 16).1.drop ((X.1.take 4).take 16).length = X.1
    rw [List.take_of_length_le (by omega), hl, def16]
    conv => rhs; rw [← List.take_append_drop 4 X.1, hd]
    rfl
  · refine ⟨?_, .inr hX⟩
    show (decide ((X.1.length : Int) = 16), cpyB (default : Ba 16) X.1) = _
    refine Prod.ext (decide_eq_true (by omega)) (Subtype.ext ?_)
    show X.1.take 16 ++ (default : Ba 16).1.drop (X.1.take 16).length = X.1
    rw [List.take_of_length_le (by omega), List.drop_eq_nil_of_le (by rw [def16, List.length_replicate]; omega), List.append_nil]
theorem read_ok {b : Str} {Q : Ad → Int → Prop} (h1 : b.length = 4 ∨ b.length = 16 → Q (rdA b) 0) (h2 : ¬ (b.length = 4 ∨ b.length = 16) → Q (false, (default : Ba 16)) 2) : addr_Read_W b Q := by
  refine ⟨fun c => ⟨fun d => h2 (by omega), fun d => h1 (by omega)⟩, fun c => h1 (by omega)⟩
theorem parse_any {s : Str} (hl : s.length ≤ 800) {Q : Ad → Int → Prop} (h1 : ∀ a, goodA a → txt a = s → Q a 0) (h2 : (∀ a, goodA a → txt a ≠ s) → Q (false, (default : Ba 16)) 2) : addr_Parse_W s Q := by
  refine parse_main hl fun b ok hb => read_ok (fun h4 => ⟨fun c => ⟨fun _ => h2 fun a ha e => ?_, fun q => (by cases q)⟩, fun c => ⟨fun q => absurd rfl q, fun _ => text_ok ?_⟩⟩) (fun h4 => ⟨fun c => ⟨fun _ => h2 fun a ha e => ?_, fun q => (by cases q)⟩, fun c => ⟨fun _ => ⟨fun _ => h2 fun a ha e => ?_, fun q => (by cases q)⟩, fun q => absurd q (by decide)⟩⟩)
  · rw [(hb a e.symm).2] at c; cases c
  · refine ⟨fun d => h2 fun a ha e => ?_, fun d => h1 _ (rdA_good h4) (by simpa using d)⟩
    have d : txt (rdA b) ≠ s := by simpa using d
    rw [(hb a e.symm).1, (rdA_of ha).1] at d
    exact d e
  · rw [(hb a e.symm).2] at c; cases c
  · rw [(hb a e.symm).1] at h4; exact h4 (rdA_of ha).2
theorem parse_good {a : Ad} (ha : goodA a) {Q : Ad → Int → Prop} (h : Q a 0) : addr_Parse_W (txt a) Q := by
  refine parse_main (by have := txt_len a; omega) fun b ok hb => ?_
  obtain ⟨rfl, rfl⟩ := hb a rfl
  obtain ⟨e1, e2⟩ := rdA_of ha
  refine read_ok (fun _ => ?_) (fun q => absurd e2 q)
  rw [e1]
  exact ⟨fun c => (by cases c), fun _ => ⟨fun q => absurd rfl q, fun _ => text_ok ⟨fun d => by simp at d, fun _ => h⟩⟩⟩
end Go.Wk
