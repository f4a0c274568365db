/- Plain words: what an address is. -/
import Derived.Test.YtamiodnbinhmhaaGreatDoorAdtQ
set_option linter.unusedSimpArgs false
set_option linter.unusedVariables false
set_option linter.unusedSectionVars false
namespace Go.Wk
open Go.HL
variable [DM]
/-! ### Bits of a byte -/
theorem sh4 {x : Int} : x.fdiv (2 ^ (min (4 : Int).toNat IntKind.u8.bits)) = x / 16 := by
  rw [show (2 : Int) ^ (min (4 : Int).toNat IntKind.u8.bits) = 16 by decide +kernel]; exact Int.fdiv_eq_ediv_of_nonneg _ (by decide)
theorem sh2 {x : Int} : x.fdiv (2 ^ (min (2 : Int).toNat IntKind.u8.bits)) = x / 4 := by
  rw [show (2 : Int) ^ (min (2 : Int).toNat IntKind.u8.bits) = 4 by decide +kernel]; exact Int.fdiv_eq_ediv_of_nonneg _ (by decide)
theorem and127 {n : Nat} (x : Ba n) (i : Int) : bits .and .u8 (b8 x i) 127 = b8 x i % 128 := by
  have e := Go.u8_and_nat (gi x.1 i).toNat 127 (UInt8.toNat_lt _) (by decide)
  rw [Nat.and_two_pow_sub_one_eq_mod _ 7] at e
  exact e
theorem and15b {n : Nat} (x : Ba n) (i : Int) : bits .and .u8 (b8 x i) 15 = b8 x i % 16 := by
  have e := Go.u8_and_nat (gi x.1 i).toNat 15 (UInt8.toNat_lt _) (by decide)
  rw [Nat.and_two_pow_sub_one_eq_mod _ 4] at e
  exact e
theorem and1b {n : Nat} (x : Ba n) (i : Int) : bits .and .u8 (b8 x i) 1 = b8 x i % 2 := by
  have e := Go.u8_and_nat (gi x.1 i).toNat 1 (UInt8.toNat_lt _) (by decide)
  rw [Nat.and_two_pow_sub_one_eq_mod _ 1] at e
  exact e
theorem tmb {n : Nat} (x : Ba n) (i : Int) (k : Int) : (b8 x i).tmod k = b8 x i % k := Int.tmod_eq_emod_of_nonneg (b8_rng x i).1
/-! ### Whether it is a group's -/
def gG (a : Ad) : Bool := if a.1 = true then decide (b8 a.2 0 = 255) else decide (224 ≤ b8 a.2 0 ∧ b8 a.2 0 ≤ 239)
theorem grpP_ok {a : Ad} {Q : Bool → Prop} (h : Q (gG a)) : addr_group_W a Q := by
  unfold gG at h
  have r := b8_rng a.2 0
  refine ⟨fun c => ?_, fun c => ?_⟩
  · rw [if_pos c] at h; exact h
  · rw [if_neg (by rw [c]; decide)] at h
    rw [sh4, u8w_toNat]
    refine ⟨by omega, ?_⟩
    rw [show decide (b8 a.2 0 / 16 % 256 = 14) = decide (224 ≤ b8 a.2 0 ∧ b8 a.2 0 ≤ 239) from decide_eq_decide.2 (by omega)]
    exact h
theorem grpR_ok {a : Ad} {Q : Bool → Prop} (h : Q (gG a)) : ref03_Group_W a Q := by
  unfold gG at h
  refine ⟨fun c => ?_, fun c => ?_⟩
  · rw [if_pos c] at h
    refine ⟨fun d => ?_, fun d => ⟨fun e => (by rw [c] at e; cases e), fun _ => ?_⟩⟩
    · rw [decide_eq_true d] at h; exact h
    · rw [decide_eq_false d] at h; exact h
  · rw [if_neg (by rw [c]; decide)] at h
    refine ⟨fun _ => ⟨fun d => ?_, fun d => ?_⟩, fun e => (by rw [c] at e; cases e)⟩
    · rw [show decide (b8 a.2 0 ≤ 239) = decide (224 ≤ b8 a.2 0 ∧ b8 a.2 0 ≤ 239) from decide_eq_decide.2 (by omega)]; exact h
    · rw [decide_eq_false (by omega)] at h; exact h
/-! ### Where it goes -/
def macL (a : Ad) : List Int := if a.1 = true then [51, 51, b8 a.2 12, b8 a.2 13, b8 a.2 14, b8 a.2 15] else [1, 0, 94, b8 a.2 1 % 128, b8 a.2 2, b8 a.2 3]
def macA (a : Ad) : Ba 6 := if gG a = true then mkB 6 (macL a) else mkB 6 [0, 0, 0, 0, 0, 0]
theorem tellMacP {a : Ad} {Q : Ba 6 → Bool → Prop} (h : Q (macA a) (gG a)) : addr_Mac_W a Q := by
  unfold macA macL at h
  refine grpP_ok ⟨fun c => ?_, fun c => ⟨fun d => ?_, fun d => ?_⟩⟩
  · have c' : gG a = false := by simpa using c
    rw [c'] at h; exact h
  · have c' : gG a = true := by simpa using c
    rw [c', if_pos rfl, if_pos d] at h; exact h
  · have c' : gG a = true := by simpa using c
    have r := b8_rng a.2 1
    rw [c', if_pos rfl, if_neg (by rw [d]; decide)] at h
    rw [and127, u8w_toNat]
    refine ⟨by omega, ?_⟩
    rw [show b8 a.2 1 % 128 % 256 = b8 a.2 1 % 128 by omega]; exact h
def mcT (a : Ad) : Str := if a.1 = true then [51, 51, gi a.2.1 12, gi a.2.1 13, gi a.2.1 14, gi a.2.1 15] else [0, 0, 0, gi a.2.1 1, gi a.2.1 2, gi a.2.1 3]
theorem mcT_len (a : Ad) : (mcT a).length = 6 := by unfold mcT; split <;> rfl
theorem take_setZ {T : Str} {n i : Nat} (hi : i < n) (hT : T.length = n) {v : UInt8} (hv : T[i]? = some v) : (T.take i ++ List.replicate (n - i) 0).set i v = T.take (i + 1) ++ List.replicate (n - (i + 1)) 0 := by
  have hl : (T.take i).length = i := by rw [List.length_take]; omega
  obtain ⟨h, rfl⟩ := List.getElem?_eq_some_iff.1 hv
  rw [List.set_append_right _ _ (by omega), hl, Nat.sub_self, show n - i = (n - (i + 1)) + 1 by omega, List.replicate_succ, List.set_cons_zero, List.take_succ_eq_append_getElem h, List.append_assoc]
  rfl
theorem u8b {n : Nat} (x : Ba n) (i : Int) : UInt8.ofNat (b8 x i).toNat = gi x.1 i := by
  unfold b8; rw [Int.toNat_natCast, UInt8.ofNat_toNat]
theorem tellMacR {a : Ad} {Q : Ba 6 → Bool → Prop} (h : Q (macA a) (gG a)) : ref03_Mac_W a Q := by
  refine grpR_ok ⟨fun c => ?_, fun c => ?_⟩
  · have c' : gG a = false := by simpa using c
    unfold macA at h; rw [c'] at h; exact h
  have c' : gG a = true := by simpa using c
  unfold macA at h; rw [c', if_pos rfl] at h
  have hT := mcT_len a
  refine loop_up 6 (fun i (X : Ba 6) => X.1 = (mcT a).take i ++ List.replicate (6 - i) 0) rfl fun K i X hi hX hK => ?_
  show ref03_Mac_l1 a Q _ X (i : Int)
  unfold ref03_Mac_l1
  have go : ∀ (v : Int), i < 6 → (mcT a)[i]? = some (UInt8.ofNat v.toNat) → K (setB X (i : Int) v, (i : Int) + 1) := fun v hi6 hv => hK (i + 1) _ (by omega) (by omega) (by
    show X.1.set (i : Int).toNat (UInt8.ofNat v.toNat) = _
    rw [hX, Int.toNat_natCast]; exact take_setZ hi6 hT hv)
  refine ⟨fun c1 => ⟨fun d => ⟨fun e => ?_, fun e => ⟨fun _ => ?_, fun q => (by rw [d] at q; cases q)⟩⟩, fun d => ⟨fun e => (by cases e), fun _ => ⟨fun q => (by rw [d] at q; cases q), fun _ => ⟨fun f => ?_, fun f => ?_⟩⟩⟩⟩, fun c1 => ?_⟩
  · have hi2 : i < 2 := by have := of_decide_eq_true e; omega
    refine ⟨by omega, by unfold I64; omega, go 51 (by omega) ?_⟩
    unfold mcT; rw [if_pos d]
    match i, hi2 with
    | 0, _ => rfl
    | 1, _ => rfl
  · have hi2 : ¬ i < 2 := by have := of_decide_eq_false e; omega
    refine ⟨by unfold I64; omega, by omega, by omega, by unfold I64; omega, go _ (by omega) ?_⟩
    rw [u8b]; unfold mcT; rw [if_pos d]
    have hi6 : i < 6 := by omega
    match i, hi2, hi6 with
    | 2, _, _ => rfl
    | 3, _, _ => rfl
    | 4, _, _ => rfl
    | 5, _, _ => rfl
  · refine ⟨by unfold I64; omega, by omega, by omega, by unfold I64; omega, go _ (by omega) ?_⟩
    rw [u8b]; unfold mcT; rw [if_neg (by rw [d]; decide)]
    have hi6 : i < 6 := by omega
    have hi2 : ¬ i < 3 := by omega
    match i, hi2, hi6 with
    | 3, _, _ => rfl
    | 4, _, _ => rfl
    | 5, _, _ => rfl
  · refine ⟨by unfold I64; omega, hK (i + 1) _ (by omega) (by omega) ?_⟩
    rw [hX]
    have hi3 : i < 3 := by omega
    have hm : mcT a = [0, 0, 0, gi a.2.1 1, gi a.2.1 2, gi a.2.1 3] := by unfold mcT; rw [if_neg (by rw [d]; decide)]
    rw [hm]
    match i, hi3 with
    | 0, _ => rfl
    | 1, _ => rfl
    | 2, _ => rfl
  · have i6 : i = 6 := by omega
    subst i6
    rw [List.take_of_length_le (by omega), Nat.sub_self, List.replicate_zero, List.append_nil] at hX
    unfold macL at h
    refine ⟨fun d => ?_, fun d => ?_⟩
    · have d' : a.1 = false := by simpa using d
      rw [if_neg (by rw [d']; decide)] at h
      have r := b8_rng X 3
      rw [tmb, u8w_toNat]
      refine ⟨by omega, ?_⟩
      have hm : X.1 = [0, 0, 0, gi a.2.1 1, gi a.2.1 2, gi a.2.1 3] := by rw [hX]; unfold mcT; rw [if_neg (by rw [d']; decide)]
      have e3 : b8 X 3 = b8 a.2 1 := by unfold b8; rw [hm]; rfl
      have e : setB (setB (setB X 0 1) 2 94) 3 (b8 X 3 % 128 % 256) = mkB 6 [1, 0, 94, b8 a.2 1 % 128, b8 a.2 2, b8 a.2 3] := by
        refine Subtype.ext ?_
        show ((X.1.set _ _).set _ _).set _ _ = _
        rw [hm, e3, show b8 a.2 1 % 128 % 256 = b8 a.2 1 % 128 by omega]
        show [1, 0, 94, UInt8.ofNat (b8 a.2 1 % 128).toNat, gi a.2.1 2, gi a.2.1 3] = [1, 0, 94, UInt8.ofNat (b8 a.2 1 % 128).toNat, UInt8.ofNat (b8 a.2 2).toNat, UInt8.ofNat (b8 a.2 3).toNat]
        rw [u8b, u8b]
      rw [e]; exact h
    · have d' : a.1 = true := by simpa using d
      rw [if_pos d'] at h
      have e : X = mkB 6 [51, 51, b8 a.2 12, b8 a.2 13, b8 a.2 14, b8 a.2 15] := by
        refine Subtype.ext ?_
        rw [hX]; unfold mcT; rw [if_pos d']
        show _ = [51, 51, UInt8.ofNat (b8 a.2 12).toNat, UInt8.ofNat (b8 a.2 13).toNat, UInt8.ofNat (b8 a.2 14).toNat, UInt8.ofNat (b8 a.2 15).toNat]
        rw [u8b, u8b, u8b, u8b]
      rw [e]; exact h
def manyB (m : Ba 6) : Bool := decide (b8 m 0 % 2 = 1)
theorem many_ok {m : Ba 6} {Q : Bool → Prop} (h : Q (manyB m)) : addr_Many_W m Q := by
  have r := b8_rng m 0
  unfold manyB at h
  unfold addr_Many_W
  rw [and1b, u8w_toNat]
  refine ⟨by omega, ?_⟩
  rw [show b8 m 0 % 2 % 256 = b8 m 0 % 2 by omega]; exact h
theorem many_mac {a : Ad} (h : gG a = true) : manyB (macA a) = true := by
  unfold manyB macA macL
  rw [if_pos h]
  split
  · rw [show b8 (mkB 6 [51, 51, b8 a.2 12, b8 a.2 13, b8 a.2 14, b8 a.2 15]) 0 = 51 from rfl]; rfl
  · rw [show b8 (mkB 6 [1, 0, 94, b8 a.2 1 % 128, b8 a.2 2, b8 a.2 3]) 0 = 1 from rfl]; rfl
/-! ### Bytes -/
theorem bytesR_ok {a : Ad} {Q : Str → Prop} (h : Q (bOf a)) : ref03_Bytes_W a Q := by
  have h16 := a.2.2
  have go : ∀ n : Nat, n ≤ 16 → Q (a.2.1.take n) → ref03_Bytes_j1 a Q (n : Int) := by
    intro n hn hq
    refine loop_up n (fun i b => b = a.2.1.take i) rfl fun K i b hi hb hK => ?_
    subst hb
    show ref03_Bytes_l1 a Q _ _ _ (i : Int)
    unfold ref03_Bytes_l1
    refine ⟨fun c => ⟨by omega, ?_, by unfold I64; omega, hK (i + 1) _ (by omega) (by omega) ?_⟩, fun c => ?_⟩
    · rw [List.length_take]; simp only [List.length_singleton]; omega
    · dsimp only; rw [gi_nat (by omega), List.take_succ_eq_append_getElem (by omega)]
    · have : i = n := by omega
      subst this; exact hq
  refine ⟨fun c => ?_, fun c => ?_⟩
  · unfold bOf at h; rw [if_pos c] at h
    refine go 16 (by omega) ?_
    rw [List.take_of_length_le (by omega)]; exact h
  · unfold bOf at h; rw [if_neg (by rw [c]; decide)] at h
    exact go 4 (by omega) h
def zZ (a : Ad) : Bool := decide (a.2 = mkB 16 [0, 0, 0, 0, 0, 0, 0, 0, 0, 0, 0, 0, 0, 0, 0, 0])
theorem zeroR_ok {a : Ad} {Q : Bool → Prop} (h : Q (zZ a)) : ref03_Zero_W a Q := by
  have h16 := a.2.2
  have z : (mkB 16 [0, 0, 0, 0, 0, 0, 0, 0, 0, 0, 0, 0, 0, 0, 0, 0]).1 = List.replicate 16 0 := by decide +kernel
  refine loop_up1 16 (fun i => a.2.1.take i = List.replicate i 0) rfl fun K i hi hI hK => ?_
  show ref03_Zero_l1 a Q _ (i : Int)
  unfold ref03_Zero_l1
  refine ⟨fun c => ⟨by omega, fun d => ?_, fun d => ⟨by unfold I64; omega, hK (i + 1) (by omega) (by omega) ?_⟩⟩, fun c => ?_⟩
  · have : zZ a = false := decide_eq_false fun e => d (by
      unfold b8; rw [e, z, gi_nat (by simp; omega), List.getElem_replicate]; rfl)
    rw [this] at h; exact h
  · have e0 : a.2.1[i]'(by omega) = 0 := by
      have : b8 a.2 (i : Int) = 0 := d
      unfold b8 at this; rw [gi_nat (by omega)] at this
      exact UInt8.toNat_inj.1 (by show _ = 0; omega)
    rw [List.take_succ_eq_append_getElem (by omega), hI, e0, List.replicate_succ']
  · have : i = 16 := by omega
    subst this
    rw [List.take_of_length_le (by omega)] at hI
    have : zZ a = true := decide_eq_true (Subtype.ext (by rw [hI, z]))
    rw [this] at h; exact h
/-! ### How far -/
theorem cut_eq {a : Ad} {p : List UInt8} (n : Nat) (hp : p.length = n) (hn : n ≤ 16) : decide ((cut (cut a.2.1 0 16) 0 (p.length : Int) : Str) = p) = decide (∀ i : Nat, i < n → b8 a.2 (i : Int) = ((p.getD i 0).toNat : Int)) := by
  have h16 := a.2.2
  have e : cut (cut a.2.1 0 16) 0 (p.length : Int) = a.2.1.take n := by
    rw [show cut a.2.1 0 16 = a.2.1 from List.take_of_length_le (by rw [h16]; decide), hp]
    show (a.2.1).take ((n : Int).toNat) = _
    rw [Int.toNat_natCast]
  rw [e]
  refine decide_eq_decide.2 ⟨fun q i hi => ?_, fun q => ?_⟩
  · unfold b8; rw [gi_nat (by omega)]
    have : a.2.1[i]'(by omega) = p.getD i 0 := by
      have e2 : (a.2.1.take n)[i]? = p[i]? := by rw [q]
      rw [List.getElem?_take, if_pos hi, List.getElem?_eq_getElem (by omega)] at e2
      rw [List.getD_eq_getElem?_getD, ← e2]; rfl
    rw [this]
  · apply List.ext_getElem (by rw [List.length_take]; omega)
    intro i h1 h2
    have := q i (by omega)
    unfold b8 at this; rw [gi_nat (by omega), List.getD_eq_getElem?_getD, List.getElem?_eq_getElem h2] at this
    rw [List.getElem_take]
    exact UInt8.toNat_inj.1 (by simp only [Option.getD_some] at this; omega)
theorem begins_ok {a : Ad} {p : List UInt8} {n : Nat} {Q : Bool → Prop} (hp : p.length = n) (hn : n ≤ 16) (h : Q (decide (∀ i : Nat, i < n → b8 a.2 (i : Int) = ((p.getD i 0).toNat : Int)))) : addr_begins_W a p Q := by
  have h16 := a.2.2
  have hl : (cut a.2.1 0 16).length = 16 := by rw [show cut a.2.1 0 16 = a.2.1 from List.take_of_length_le (by rw [h16]; decide), h16]
  refine ⟨fun c => ⟨by omega, ?_⟩, fun c => absurd (by omega) c⟩
  rw [cut_eq n hp hn]; exact h
def scG (a : Ad) : Int :=
  if gG a = true then (if a.1 = true then b8 a.2 1 % 16 else if b8 a.2 0 = 224 ∧ b8 a.2 1 = 0 ∧ b8 a.2 2 = 0 then 2 else if b8 a.2 0 = 239 ∧ b8 a.2 1 = 255 then 3 else if b8 a.2 0 = 239 ∧ 192 ≤ b8 a.2 1 ∧ b8 a.2 1 ≤ 195 then 8 else 14) else 0
theorem p224 (a : Ad) : decide (∀ i : Nat, i < 3 → b8 a.2 (i : Int) = ((([(224 : UInt8), (0 : UInt8), (0 : UInt8)] : List UInt8).getD i 0).toNat : Int)) = decide (b8 a.2 0 = 224 ∧ b8 a.2 1 = 0 ∧ b8 a.2 2 = 0) := by
  refine decide_eq_decide.2 ⟨fun q => ⟨q 0 (by omega), q 1 (by omega), q 2 (by omega)⟩, fun q i hi => ?_⟩
  match i, hi with
  | 0, _ => exact q.1
  | 1, _ => exact q.2.1
  | 2, _ => exact q.2.2
theorem p239 (a : Ad) : decide (∀ i : Nat, i < 2 → b8 a.2 (i : Int) = ((([(239 : UInt8), (255 : UInt8)] : List UInt8).getD i 0).toNat : Int)) = decide (b8 a.2 0 = 239 ∧ b8 a.2 1 = 255) := by
  refine decide_eq_decide.2 ⟨fun q => ⟨q 0 (by omega), q 1 (by omega)⟩, fun q i hi => ?_⟩
  match i, hi with
  | 0, _ => exact q.1
  | 1, _ => exact q.2
theorem scopeP_ok {a : Ad} {Q : Int → Prop} (h : Q (scG a)) : addr_scope_W a Q := by
  unfold scG at h
  have r := b8_rng a.2 1
  refine grpP_ok ⟨fun c => ?_, fun c => ⟨fun d => ?_, fun d => ?_⟩⟩
  · rw [if_neg (by simpa using c)] at h; exact h
  · rw [if_pos (by simpa using c), if_pos d] at h
    rw [and15b, u8w_toNat]
    refine ⟨by omega, by unfold I64; omega, ?_⟩
    rw [show b8 a.2 1 % 16 % 256 = b8 a.2 1 % 16 by omega]; exact h
  · rw [if_pos (by simpa using c), if_neg (by rw [d]; decide)] at h
    refine begins_ok (n := 3) rfl (by omega) ?_
    rw [p224]
    refine ⟨fun e => ?_, fun e => begins_ok (n := 2) rfl (by omega) ?_⟩
    · rw [if_pos (of_decide_eq_true e)] at h; exact h
    · rw [if_neg (of_decide_eq_false e)] at h
      rw [p239]
      refine ⟨fun f => ?_, fun f => ⟨fun g => ?_, fun g => ?_⟩⟩
      · rw [if_pos (of_decide_eq_true f)] at h; exact h
      · rw [if_neg (of_decide_eq_false f)] at h
        rw [sh2, u8w_toNat]
        refine ⟨by omega, fun i => ?_, fun i => ?_⟩
        · rw [if_pos ⟨g, by omega⟩] at h; exact h
        · rw [if_neg (by omega)] at h; exact h
      · rw [if_neg (of_decide_eq_false f), if_neg (by omega)] at h; exact h
theorem scopeR_ok {a : Ad} {Q : Int → Prop} (h : Q (scG a)) : ref03_Scope_W a Q := by
  unfold scG at h
  have r := b8_rng a.2 1
  refine grpR_ok ⟨fun c => ?_, fun c => ⟨fun d => ?_, fun d => ?_⟩⟩
  · rw [if_neg (by simpa using c)] at h; exact h
  · rw [if_pos (by simpa using c), if_pos d] at h
    rw [tmb, u8w_toNat]
    refine ⟨by omega, by unfold I64; omega, ?_⟩
    rw [show b8 a.2 1 % 16 % 256 = b8 a.2 1 % 16 by omega]; exact h
  · rw [if_pos (by simpa using c), if_neg (by rw [d]; decide)] at h
    have j1 : ¬ (b8 a.2 0 = 224 ∧ b8 a.2 1 = 0 ∧ b8 a.2 2 = 0) → ref03_Scope_j1 a Q := by
      intro e
      rw [if_neg e] at h
      have j2 : ¬ (b8 a.2 0 = 239 ∧ b8 a.2 1 = 255) → ref03_Scope_j2 a Q := by
        intro f
        rw [if_neg f] at h
        refine ⟨fun g => ⟨fun i => ⟨fun k => ?_, fun k => ?_⟩, fun i => ?_⟩, fun g => ?_⟩
        · rw [if_pos ⟨g, i, k⟩] at h; exact h
        · rw [if_neg (by omega)] at h; exact h
        · rw [if_neg (by omega)] at h; exact h
        · rw [if_neg (by omega)] at h; exact h
      refine ⟨fun g => ⟨fun i => ?_, fun i => j2 (by omega)⟩, fun g => j2 (by omega)⟩
      rw [if_pos ⟨g, i⟩] at h; exact h
    refine ⟨fun e => ⟨fun f => ⟨fun g => ?_, fun g => j1 (by omega)⟩, fun f => j1 (by omega)⟩, fun e => j1 (by omega)⟩
    rw [if_pos ⟨e, f, g⟩] at h; exact h
def loG (a : Ad) : Bool := gG a && decide (scG a ≤ 2)
theorem localP_ok {a : Ad} {Q : Bool → Prop} (h : Q (loG a)) : addr_Local_W a Q := by
  unfold loG at h
  refine grpP_ok ⟨fun c => scopeP_ok ?_, fun c => ?_⟩
  · rw [c, Bool.true_and] at h; exact h
  · rw [c, Bool.false_and] at h; exact h
theorem localR_ok {a : Ad} {Q : Bool → Prop} (h : Q (loG a)) : ref03_Local_W a Q := by
  unfold loG at h
  refine grpR_ok ⟨fun c => scopeR_ok ?_, fun c => ?_⟩
  · rw [c, Bool.true_and] at h
    rw [show decide (scG a < 3) = decide (scG a ≤ 2) from decide_eq_decide.2 (by omega)]; exact h
  · rw [c, Bool.false_and] at h; exact h
def ssG (a : Ad) : Bool := if a.1 = true then decide (b8 a.2 0 = 255 ∧ 48 ≤ b8 a.2 1 ∧ b8 a.2 1 ≤ 63 ∧ b8 a.2 2 = 0 ∧ b8 a.2 3 = 0) else decide (b8 a.2 0 = 232)
theorem ssmP_ok {a : Ad} {Q : Bool → Prop} (h : Q (ssG a)) : addr_Ssm_W a Q := by
  unfold ssG at h
  have r := b8_rng a.2 1
  refine ⟨fun c => ?_, fun c => ?_⟩
  · rw [if_pos c] at h
    refine ⟨fun d => ?_, fun d => ?_⟩
    · rw [sh4, u8w_toNat]
      refine ⟨by omega, fun e => ⟨fun f => ?_, fun f => ?_⟩, fun e => ?_⟩
      · rw [show decide (b8 a.2 3 = 0) = decide (b8 a.2 0 = 255 ∧ 48 ≤ b8 a.2 1 ∧ b8 a.2 1 ≤ 63 ∧ b8 a.2 2 = 0 ∧ b8 a.2 3 = 0) from decide_eq_decide.2 (by omega)]; exact h
      · rw [decide_eq_false (by omega)] at h; exact h
      · rw [decide_eq_false (by omega)] at h; exact h
    · rw [decide_eq_false (by omega)] at h; exact h
  · rw [if_neg (by rw [c]; decide)] at h; exact h
theorem ssmR_ok {a : Ad} {Q : Bool → Prop} (h : Q (ssG a)) : ref03_Ssm_W a Q := by
  unfold ssG at h
  refine ⟨fun c => ?_, fun c => ?_⟩
  · have c' : a.1 = false := by simpa using c
    rw [if_neg (by rw [c']; decide)] at h; exact h
  · have c' : a.1 = true := by simpa using c
    rw [if_pos c'] at h
    refine ⟨fun d => ⟨fun e => ⟨fun f => ⟨fun g => ?_, fun g => ?_⟩, fun f => ?_⟩, fun e => ?_⟩, fun d => ?_⟩
    · rw [show decide (b8 a.2 3 = 0) = decide (b8 a.2 0 = 255 ∧ 48 ≤ b8 a.2 1 ∧ b8 a.2 1 ≤ 63 ∧ b8 a.2 2 = 0 ∧ b8 a.2 3 = 0) from decide_eq_decide.2 (by omega)]; exact h
    · rw [decide_eq_false (by omega)] at h; exact h
    · rw [decide_eq_false (by omega)] at h; exact h
    · rw [decide_eq_false (by omega)] at h; exact h
    · rw [decide_eq_false (by omega)] at h; exact h
/-! ### The law -/
theorem nne {b : Bool} {P : Prop} (c : (!(b == b)) = true) : P := by cases b <;> cases c
theorem nee {b : Bool} {P : Prop} (c : (b == b) = false) : P := by cases b <;> cases c
theorem addrTells_ok {a : Ad} {Q : Bool → Prop} (h : Q true) : law03_AddrTells_W a Q := by
  refine goodP_ok (goodR_ok ⟨fun c => nne c, fun _ => own_ok ?_⟩)
  generalize ownA a = a
  have j1 : law03_AddrTells_j1 Q a (macA a) := by
    have r := b8_rng (macA a) 0
    refine grpP_ok (grpR_ok ⟨fun _ => localP_ok (localR_ok ⟨fun _ => ssmP_ok (ssmR_ok ⟨fun _ => scopeP_ok (scopeR_ok ⟨fun _ => ?_, fun c => absurd rfl c⟩), fun c => nee c⟩), fun c => nee c⟩), fun c => nee c⟩)
    rw [tmb, u8w_toNat]
    refine ⟨by omega, many_ok ⟨fun _ => lives03_ok h, fun c => ?_⟩⟩
    unfold manyB at c
    rw [show b8 (macA a) 0 % 2 % 256 = b8 (macA a) 0 % 2 by omega] at c
    exact nee c
  refine tellMacP (tellMacR ⟨fun c => absurd rfl c, fun _ => ⟨fun c => nne c, fun _ => bytes_ok (bytesR_ok ⟨fun c => absurd rfl c, fun _ => zeroR_ok (show _ from ⟨fun c => nne c, fun _ => ⟨fun c => many_ok ⟨fun d => ?_, fun _ => j1⟩, fun _ => j1⟩⟩)⟩)⟩⟩)
  rw [many_mac c] at d; cases d
end Go.Wk
