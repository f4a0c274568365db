/- Plain words: bytes in digits of sixteen, and back; texts of letters and digits. -/
import Derived.Test.YtlnagjjldpgbpaaGreatDoorScP
import Derived.Laws.RangeString
import Derived.Laws.RangeAny
set_option linter.unusedSimpArgs false
set_option linter.unusedVariables false
set_option linter.unusedSectionVars false
namespace Go.Wk
open Go.HL
variable [DM]
def hexL (s : Str) : Str := s.flatMap fun c => [FI (c.toNat / 16), FI (c.toNat % 16)]
theorem Q9 (s : Str) (c : UInt8) : hexL (s ++ [c]) = hexL s ++ [FI (c.toNat / 16), FI (c.toNat % 16)] := by unfold hexL; rw [List.flatMap_append]; simp
theorem CQ (s : Str) : (hexL s).length = 2 * s.length := by
  induction s with
  | nil => rfl
  | cons c s ih =>
    have e : hexL (c :: s) = FI (c.toNat / 16) :: FI (c.toNat % 16) :: hexL s := rfl
    rw [e, List.length_cons, List.length_cons, List.length_cons, ih]; omega
theorem adG : ∀ k : Nat, k < 16 -> gi ([48, 49, 50, 51, 52, 53, 54, 55, 56, 57, 97, 98, 99, 100, 101, 102] : Str) (k : Int) = FI k := by decide
theorem Jj (c : UInt8) : c.toNat < 256 := c.toNat_lt
theorem aak {s : Str} (hl : s.length <= 100000) {Q : Str -> Prop} (h : Q (hexL s)) : Gu s Q := by
  refine ⟨by (first | omega | (unfold I64; omega) | (simp only [List.length_append, List.length_cons, List.length_nil, List.length_take, List.length_drop] at *; omega) | (unfold I64; simp only [List.length_append, List.length_cons, List.length_nil, List.length_take, List.length_drop] at *; omega)), by (first | omega | (unfold I64; omega) | (simp only [List.length_append, List.length_cons, List.length_nil, List.length_take, List.length_drop] at *; omega) | (unfold I64; simp only [List.length_append, List.length_cons, List.length_nil, List.length_take, List.length_drop] at *; omega)), ?_⟩
  refine wK s.length (fun i out => out = hexL (s.take i)) rfl fun K i out hi ho hK => ?_
  have ol : out.length = 2 * i := by rw [ho, CQ, List.length_take]; omega
  show CE s Q _ out (i : Int)
  unfold CE
  refine ⟨fun d => ?_, fun d => ?_⟩
  · have i1 : i < s.length := by omega
    rw [iZ i1]
    have hc := Jj s[i]
    generalize hcc : s[i] = c at hc
    have e1 : ((kZ ((c.toNat : Int).fdiv (2 ^ (min (4 : Int).toNat IntKind.u8.bits)))).toNat : Int) = ((c.toNat / 16 : Nat) : Int) := by rw [sh4, lQ]; omega
    have e0 : bits .and .u8 (c.toNat : Int) 15 = ((c.toNat % 16 : Nat) : Int) := by
      have e := Go.u8_and_nat c.toNat 15 hc (by decide)
      rw [Nat.and_two_pow_sub_one_eq_mod _ 4] at e
      exact e
    have e2 : ((kZ (bits .and .u8 (c.toNat : Int) 15)).toNat : Int) = ((c.toNat % 16 : Nat) : Int) := by rw [e0, lQ]; omega
    rw [e1, e2, adG _ (by omega), adG _ (by omega)]
    refine ⟨by (first | omega | (unfold I64; omega) | (simp only [List.length_append, List.length_cons, List.length_nil, List.length_take, List.length_drop] at *; omega) | (unfold I64; simp only [List.length_append, List.length_cons, List.length_nil, List.length_take, List.length_drop] at *; omega)), by rw [sh4]; omega, by simp only [List.length_cons, List.length_nil]; omega, by rw [e0]; omega, by simp only [List.length_cons, List.length_nil]; omega, by simp only [List.length_cons, List.length_nil]; omega, by (first | omega | (unfold I64; omega) | (simp only [List.length_append, List.length_cons, List.length_nil, List.length_take, List.length_drop] at *; omega) | (unfold I64; simp only [List.length_append, List.length_cons, List.length_nil, List.length_take, List.length_drop] at *; omega)), hK (i + 1) _ (by omega) (by omega) ?_⟩
    rw [ho, List.take_succ_eq_append_getElem i1, Q9, hcc]
  · have i1 : i = s.length := by omega
    subst i1
    rw [List.take_length] at ho
    rw [ho]; exact h
theorem aaj {s : Str} (hl : s.length <= 100000) {Q : Str -> Prop} (h : Q (hexL s)) : Gs s Q := by
  refine wK s.length (fun i out => out = hexL (s.take i)) rfl fun K i out hi ho hK => ?_
  have ol : out.length = 2 * i := by rw [ho, CQ, List.length_take]; omega
  show Ce s Q _ out (i : Int)
  unfold Ce
  refine ⟨fun d => ?_, fun d => ?_⟩
  · have i1 : i < s.length := by omega
    rw [iZ i1]
    have hc := Jj s[i]
    generalize hcc : s[i] = c at hc
    have t1 : (c.toNat : Int).tdiv 16 = ((c.toNat / 16 : Nat) : Int) := by rw [Int.tdiv_eq_ediv_of_nonneg (by omega)]; omega
    have t2 : (c.toNat : Int).tmod 16 = ((c.toNat % 16 : Nat) : Int) := by rw [Int.tmod_eq_emod_of_nonneg (by omega)]; omega
    have e1 : ((kZ ((c.toNat : Int).tdiv 16)).toNat : Int) = ((c.toNat / 16 : Nat) : Int) := by rw [t1, lQ]; omega
    have e2 : ((kZ ((c.toNat : Int).tmod 16)).toNat : Int) = ((c.toNat % 16 : Nat) : Int) := by rw [t2, lQ]; omega
    rw [e1, e2]
    refine ⟨by (first | omega | (unfold I64; omega) | (simp only [List.length_append, List.length_cons, List.length_nil, List.length_take, List.length_drop] at *; omega) | (unfold I64; simp only [List.length_append, List.length_cons, List.length_nil, List.length_take, List.length_drop] at *; omega)), by rw [t2]; omega, RQ (by omega) ⟨by simp only [List.length_cons, List.length_nil]; omega, RQ (by omega) ⟨by simp only [List.length_append, List.length_cons, List.length_nil]; omega, by (first | omega | (unfold I64; omega) | (simp only [List.length_append, List.length_cons, List.length_nil, List.length_take, List.length_drop] at *; omega) | (unfold I64; simp only [List.length_append, List.length_cons, List.length_nil, List.length_take, List.length_drop] at *; omega)), hK (i + 1) _ (by omega) (by omega) ?_⟩⟩⟩
    rw [ho, List.take_succ_eq_append_getElem i1, Q9, hcc, List.append_assoc]; rfl
  · have i1 : i = s.length := by omega
    subst i1
    rw [List.take_length] at ho
    rw [ho]; exact h
def XB (c : Nat) : Nat × Bool := if 48 <= c /\ c <= 57 then (c - 48, true) else if 97 <= c /\ c <= 102 then (c - 87, true) else if 65 <= c /\ c <= 70 then (c - 55, true) else (0, false)
theorem digit_ok {c : UInt8} {Q : Int -> Bool -> Prop} (h : Q ((XB c.toNat).1 : Int) (XB c.toNat).2) : AB ((c.toNat : Nat) : Int) Q := by
  have hc := Jj c
  generalize c.toNat = n at h hc
  unfold XB at h
  have j3 : ¬ (48 <= n /\ n <= 57) -> ¬ (97 <= n /\ n <= 102) -> (65 <= (n : Int) -> vW (n : Int) Q (decide ((n : Int) <= 70))) /\ (¬ (65 <= (n : Int)) -> vW (n : Int) Q false) := by
    intro a b
    rw [if_neg a, if_neg b] at h
    refine ⟨fun c1 => ⟨fun c2 => ?_, fun c2 => ?_⟩, fun c1 => ⟨fun c2 => (by cases c2), fun _ => ?_⟩⟩
    · have c3 := of_decide_eq_true c2
      rw [if_pos ⟨by omega, by omega⟩] at h
      rw [lQ, lQ, show (((n : Int) - 65) % 256 + 10) % 256 = ((n - 55 : Nat) : Int) by omega]; exact h
    · have c3 := of_decide_eq_false c2
      rw [if_neg (by omega)] at h; exact h
    · rw [if_neg (by omega)] at h; exact h
  have j2 : ¬ (48 <= n /\ n <= 57) -> (97 <= (n : Int) -> vX (n : Int) Q (decide ((n : Int) <= 102))) /\ (¬ (97 <= (n : Int)) -> vX (n : Int) Q false) := by
    intro a
    refine ⟨fun c1 => ⟨fun c2 => ?_, fun c2 => j3 a ?_⟩, fun c1 => ⟨fun c2 => (by cases c2), fun _ => j3 a (by omega)⟩⟩
    · have c3 := of_decide_eq_true c2
      rw [if_neg a, if_pos ⟨by omega, by omega⟩] at h
      rw [lQ, lQ, show (((n : Int) - 97) % 256 + 10) % 256 = ((n - 87 : Nat) : Int) by omega]; exact h
    · have c3 := of_decide_eq_false c2; omega
  refine ⟨fun c1 => ⟨fun c2 => ?_, fun c2 => j2 ?_⟩, fun c1 => ⟨fun c2 => (by cases c2), fun _ => j2 (by omega)⟩⟩
  · have c3 := of_decide_eq_true c2
    rw [if_pos ⟨by omega, by omega⟩] at h
    rw [lQ, show ((n : Int) - 48) % 256 = ((n - 48 : Nat) : Int) by omega]; exact h
  · have c3 := of_decide_eq_false c2; omega
theorem Ws (n : Nat) : (XB n).1 < 16 := by
  unfold XB
  repeat' split
  all_goals (simp only []; omega)
theorem LD : ∀ k : Nat, k < 16 -> XB (FI k).toNat = (k, true) := by decide
theorem PH (n : Int) : bits .and .i64 n 1 = n % 2 := by
  have h1 : (BitVec.ofInt 64 1).toNat = 2 ^ 1 - 1 := by decide
  have key : (BitVec.ofInt 64 n &&& BitVec.ofInt 64 1).toNat = (n % ((2 ^ 64 : Nat) : Int)).toNat % 2 ^ 1 := by
    rw [BitVec.toNat_and, BitVec.toNat_ofInt, h1, Nat.and_two_pow_sub_one_eq_mod]
  show IntKind.i64.wrap ((BitVec.ofInt 64 n &&& BitVec.ofInt 64 1).toNat : Nat) = n % 2
  rw [key, IntKind.wrap_i64]
  omega
theorem orP : ∀ a : Nat, a < 16 -> ∀ b : Nat, b < 16 -> bits .or .u8 ((kZ ((a : Int) * 2 ^ (min (4 : Int).toNat IntKind.u8.bits))).toNat : Int) (b : Int) = ((16 * a + b : Nat) : Int) := by decide +kernel
theorem aeV (c : UInt8) : kZ ((16 * (c.toNat / 16) + c.toNat % 16 : Nat) : Int) = c := by
  have hc := Jj c
  apply UInt8.toNat_inj.1
  have := lQ ((16 * (c.toNat / 16) + c.toNat % 16 : Nat) : Int)
  omega
theorem XR {s : Str} (hl : s.length <= 100000) {Q : Str -> Int -> Prop} (h : ∀ (r : Str) (e : Int), r.length <= s.length -> (∀ b, s = hexL b -> r = b /\ e = 0) -> Q r e) : AL s Q := by
  refine ⟨fun c => h _ _ (by simp) fun b hb => ?_, fun c => ?_⟩
  · rw [PH] at c
    have := CQ b; rw [← hb] at this; omega
  · rw [PH] at c
    obtain ⟨n, hn⟩ : ∃ n : Nat, s.length = 2 * n := ⟨s.length / 2, by omega⟩
    refine Gv (fun s => s.2 / 2) n (fun j t => t.2 = 2 * (j : Int) /\ t.1.length = j /\ ∀ b, s = hexL b -> t.1 = b.take j /\ s.drop (2 * j) = hexL (b.drop j)) rfl ⟨rfl, rfl, fun b hb => ⟨rfl, hb⟩⟩ ?_
    rintro K j ⟨out, i⟩ _ hj ⟨hi, ol, hI⟩ hK
    replace hi : i = 2 * (j : Int) := hi
    subst hi
    replace ol : out.length = j := ol
    replace hI : ∀ b, s = hexL b -> out = b.take j /\ s.drop (2 * j) = hexL (b.drop j) := hI
    show yR s Q _ out (2 * (j : Int))
    unfold yR
    refine ⟨fun d => ?_, fun d => h _ _ (by omega) fun b hb => ⟨?_, rfl⟩⟩
    · have i1 : 2 * j < s.length := by omega
      have i2 : 2 * j + 1 < s.length := by omega
      have c1 : (2 * (j : Int)) = ((2 * j : Nat) : Int) := by omega
      have c2 : (2 * (j : Int) + 1) = ((2 * j + 1 : Nat) : Int) := by omega
      have g1 : gi s (2 * (j : Int)) = s[2 * j] := by rw [c1]; exact iZ i1
      have g2 : gi s (2 * (j : Int) + 1) = s[2 * j + 1] := by rw [c2]; exact iZ i2
      rw [g1, g2]
      have hd : ∀ b, s = hexL b -> ∃ x r, b.drop j = x :: r /\ s[2 * j] = FI (x.toNat / 16) /\ s[2 * j + 1] = FI (x.toNat % 16) /\ s.drop (2 * (j + 1)) = hexL r := by
        intro b hb
        obtain ⟨_, q⟩ := hI b hb
        cases e : b.drop j with
        | nil =>
          rw [e] at q
          have := congrArg List.length q
          rw [List.length_drop] at this; simp [hexL] at this; omega
        | cons x r =>
          rw [e] at q
          have q2 : s.drop (2 * j) = FI (x.toNat / 16) :: FI (x.toNat % 16) :: hexL r := q
          rw [List.drop_eq_getElem_cons i1, List.drop_eq_getElem_cons i2] at q2
          injection q2 with q3 q4
          injection q4 with q4 q5
          exact ⟨x, r, rfl, q3, q4, q5⟩
      refine ⟨by (first | omega | (unfold I64; omega) | (simp only [List.length_append, List.length_cons, List.length_nil, List.length_take, List.length_drop] at *; omega) | (unfold I64; simp only [List.length_append, List.length_cons, List.length_nil, List.length_take, List.length_drop] at *; omega)), digit_ok ⟨by (first | omega | (unfold I64; omega) | (simp only [List.length_append, List.length_cons, List.length_nil, List.length_take, List.length_drop] at *; omega) | (unfold I64; simp only [List.length_append, List.length_cons, List.length_nil, List.length_take, List.length_drop] at *; omega)), by (first | omega | (unfold I64; omega) | (simp only [List.length_append, List.length_cons, List.length_nil, List.length_take, List.length_drop] at *; omega) | (unfold I64; simp only [List.length_append, List.length_cons, List.length_nil, List.length_take, List.length_drop] at *; omega)), digit_ok ⟨fun f => ⟨fun _ => ?_, fun q => (by cases q)⟩, fun f => ⟨fun f2 => ?_, fun f2 => ?_⟩⟩⟩⟩
      · refine h _ _ (by simp) fun b hb => ?_
        obtain ⟨x, r, _, q1, _, _⟩ := hd b hb
        rw [q1, LD _ (by have := Jj x; omega)] at f; cases f
      · refine h _ _ (by simp) fun b hb => ?_
        obtain ⟨x, r, _, _, q2, _⟩ := hd b hb
        rw [q2, LD _ (by omega)] at f2; cases f2
      · have a1 := Ws s[2 * j].toNat
        have a2 := Ws s[2 * j + 1].toNat
        rw [orP _ a1 _ a2]
        refine ⟨by omega, by simp only [List.length_cons, List.length_nil]; omega, by (first | omega | (unfold I64; omega) | (simp only [List.length_append, List.length_cons, List.length_nil, List.length_take, List.length_drop] at *; omega) | (unfold I64; simp only [List.length_append, List.length_cons, List.length_nil, List.length_take, List.length_drop] at *; omega)), hK (j + 1) _ (by show (2 * (j : Int) + 2) / 2 = _; omega) (by omega) (by omega) ⟨by show 2 * (j : Int) + 2 = _; omega, by show (out ++ [_]).length = _; rw [List.length_append, ol]; rfl, fun b hb => ?_⟩⟩
        obtain ⟨x, r, q0, q1, q2, q3⟩ := hd b hb
        obtain ⟨o1, _⟩ := hI b hb
        have hjb : j < b.length := by
          have := congrArg List.length q0; rw [List.length_drop] at this; simp at this; omega
        have hx : b[j] = x := by
          rw [List.drop_eq_getElem_cons hjb] at q0; injection q0
        have hr : b.drop (j + 1) = r := by
          rw [List.drop_eq_getElem_cons hjb] at q0; injection q0
        refine ⟨?_, by rw [hr]; exact q3⟩
        show out ++ [_] = _
        rw [q1, q2, LD _ (by have := Jj x; omega), LD _ (by omega), aeV, o1, List.take_succ_eq_append_getElem hjb, hx]
    · have j1 : j = n := by omega
      obtain ⟨o1, o2⟩ := hI b hb
      have hbl := CQ b
      rw [← hb] at hbl
      rw [o1, List.take_of_length_le (by omega)]
def Xe (c : UInt8) : Bool := decide ((97 <= c.toNat /\ c.toNat <= 122) ∨ (48 <= c.toNat /\ c.toNat <= 57))
def ug (x : Str) : Bool := decide (1 <= x.length /\ x.length <= 64) && x.all Xe
def Sr (r : Int) : Bool := !decide ((97 <= r /\ r <= 122) ∨ (48 <= r /\ r <= 57))
theorem abU (x : Int) : zx x (fun r => r = Sr x) := by
  unfold Sr
  refine ⟨fun a => ⟨fun b => ?_, fun b => ⟨fun c => ?_, fun c => ?_⟩⟩, fun a => ⟨fun c => ?_, fun c => ?_⟩⟩
  · rw [decide_eq_true (.inl ⟨a, b⟩)]; rfl
  · congr 1; exact decide_eq_decide.2 (by omega)
  · rw [decide_eq_false (by omega)]; rfl
  · congr 1; exact decide_eq_decide.2 (by omega)
  · rw [decide_eq_false (by omega)]; rfl
theorem acO (s : Str) (pos : Nat) (h : pos < s.length) : (bs s)[pos]'(by rw [pR]; exact h) = s[pos] := rfl
theorem V4 (s : Str) : ∀ (f pos : Nat), s.length - pos <= f -> (decide (0 <= Lib.idxFuncFrom (fun n => Sr (n : Int)) true (bs s) f pos) = !((s.drop pos).all Xe))
  | 0, pos, h => by
    have : s.drop pos = [] := List.drop_eq_nil_of_le (by omega)
    rw [this]; rfl
  | f + 1, pos, h => by
    have hsz : (bs s).size = s.length := pR s
    unfold Lib.idxFuncFrom
    by_cases hp : pos < s.length
    · rw [if_pos (by rw [hsz]; exact hp)]
      have hb : ((bs s)[pos]'(by rw [hsz]; exact hp)) = s[pos] := acO s pos hp
      have hd : s.drop pos = s[pos] :: s.drop (pos + 1) := List.drop_eq_getElem_cons hp
      by_cases ha : s[pos].toNat < 128
      · have e := Go.decode_ascii (bs s) pos (by rw [hsz]; exact hp) (by rw [hb]; exact ha)
        rw [hb] at e
        rw [e, hd, List.all_cons]
        have ho : Sr ((s[pos].toNat : Nat) : Int) = !Xe s[pos] := by
          unfold Sr Xe; congr 1; exact decide_eq_decide.2 (by omega)
        simp only
        rw [ho]
        cases q : Xe s[pos] with
        | false => simp
        | true =>
          simp only [Bool.not_true, Bool.false_eq_true, if_false, Bool.true_and]
          exact V4 s f (pos + 1) (by omega)
      · have e := Go.decode_high (bs s) pos (by rw [hsz]; exact hp) (by rw [hb]; omega)
        have ho : Sr (((Utf8.decode (bs s) pos).1 : Nat) : Int) = true := by
          unfold Sr; rw [decide_eq_false (by omega)]; rfl
        simp only [ho, if_true]
        have q : Xe s[pos] = false := by unfold Xe; exact decide_eq_false (by omega)
        rw [hd, List.all_cons, q, decide_eq_true (show (0 : Int) <= (pos : Int) by omega)]; rfl
    · rw [if_neg (by rw [hsz]; exact hp)]
      have : s.drop pos = [] := List.drop_eq_nil_of_le (by omega)
      rw [this]; rfl
theorem Vl (s : Str) : Ea Sr s = !(s.all Xe) := by
  unfold Ea Lib.idxFunc
  have := V4 s (bs s).size 0 (by rw [pR]; omega)
  rw [List.drop_zero] at this; exact this
theorem MR {n a b : Int} {Q : Bool -> Prop} (h : Q (decide (a <= n /\ n <= b))) : uO n a b Q := by
  refine ⟨fun c => ?_, fun c => ?_⟩
  · rw [show decide (n <= b) = decide (a <= n /\ n <= b) from decide_eq_decide.2 (by omega)]; exact h
  · rw [decide_eq_false (by omega)] at h; exact h
theorem Xc {x : Str} {Q : Bool -> Prop} (h : Q (ug x)) : BP x Q := by
  unfold ug at h
  refine MR ⟨fun c => ⟨Sr, abU, ?_⟩, fun c => ?_⟩
  · have c1 := of_decide_eq_true c
    rw [decide_eq_true (show 1 <= x.length /\ x.length <= 64 by omega), Bool.true_and] at h
    rw [Vl, Bool.not_not]; exact h
  · have c1 := of_decide_eq_false c
    rw [decide_eq_false (show ¬ (1 <= x.length /\ x.length <= 64) by omega), Bool.false_and] at h; exact h
theorem Xb {x : Str} (hl : x.length <= 100000) {Q : Bool -> Prop} (h : Q (ug x)) : EW x Q := by
  refine yS x.length (fun i => (x.take i).all Xe = true) (by simp) fun K i hi hI hK => ?_
  show Ak x Q _ (i : Int)
  unfold Ak
  refine ⟨fun d => ?_, fun d => ?_⟩
  · have i1 : i < x.length := by omega
    rw [iZ i1]
    have bad : Xe x[i] = false -> Q false := by
      intro q
      have : x.all Xe = false := by rw [List.all_eq_false]; exact ⟨_, List.getElem_mem i1, by rw [q]; simp⟩
      unfold ug at h; rw [this, Bool.and_false] at h; exact h
    have good : Xe x[i] = true -> I64 ((i : Int) + 1) /\ K ((i : Int) + 1) := by
      intro q
      refine ⟨by (first | omega | (unfold I64; omega) | (simp only [List.length_append, List.length_cons, List.length_nil, List.length_take, List.length_drop] at *; omega) | (unfold I64; simp only [List.length_append, List.length_cons, List.length_nil, List.length_take, List.length_drop] at *; omega)), hK (i + 1) (by omega) (by omega) ?_⟩
      rw [List.take_succ_eq_append_getElem i1, List.all_append, hI, List.all_cons, q]; rfl
    have nb : ∀ {p : Prop} [Decidable p], ¬ p -> decide p = false := fun h => decide_eq_false h
    unfold Xe at bad good
    refine ⟨by (first | omega | (unfold I64; omega) | (simp only [List.length_append, List.length_cons, List.length_nil, List.length_take, List.length_drop] at *; omega) | (unfold I64; simp only [List.length_append, List.length_cons, List.length_nil, List.length_take, List.length_drop] at *; omega)), fun a => ⟨fun b => bad (nb (by omega)), fun b => ⟨fun c => bad (nb (by omega)), fun c => good (decide_eq_true (by omega))⟩⟩, fun a => ⟨fun b => ⟨fun c => bad (nb (by omega)), fun c => ⟨fun e => bad (nb (by omega)), fun e => good (decide_eq_true (by omega))⟩⟩, fun b => good (decide_eq_true (by omega))⟩⟩
  · have i1 : i = x.length := by omega
    subst i1
    rw [List.take_length] at hI
    unfold ug at h
    rw [hI, Bool.and_true] at h
    refine ⟨fun c => ?_, fun c => ?_⟩
    · rw [show decide ((x.length : Int) < 65) = decide (1 <= x.length /\ x.length <= 64) from decide_eq_decide.2 (by omega)]; exact h
    · rw [decide_eq_false (by omega)] at h; exact h
end Go.Wk
