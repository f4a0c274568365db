/- Plain words: commands: their forms, which are good, their lines. -/
import Derived.Test.YtlnagjjldpgbpaaGreatDoorScA
set_option linter.unusedSimpArgs false
set_option linter.unusedVariables false
set_option linter.unusedSectionVars false
namespace Go.Wk
open Go.HL
variable [DM]
structure Cm where
  k : Int
  nd : Int
  vl : Int
  po : Int
  n : Int
  b : Str
  g : Ad
  s : Ad
  x : Bool
  l : List Ad
  t : Str
def Cm.e (c : Cm) : bz := (c.k, c.nd, c.vl, c.po, c.n, c.b)
theorem Cm.same {a b : Cm} : (a.e = b.e /\ a.g = b.g /\ a.s = b.s /\ (a.x, a.l) = (b.x, b.l) /\ a.t = b.t) ↔ a = b := by
  constructor
  · rintro ⟨h1, h2, h3, h4, h5⟩
    cases a; cases b
    simp only [Cm.e, Prod.mk.injEq] at h1 h2 h3 h4 h5
    obtain ⟨q1, q2, q3, q4, q5, q6⟩ := h1
    obtain ⟨q7, q8⟩ := h4
    subst q1 q2 q3 q4 q5 q6 q7 q8 h2 h3 h5; rfl
  · rintro rfl; exact ⟨rfl, rfl, rfl, rfl, rfl⟩
instance : DecidableEq Cm := fun a b => decidable_of_iff _ Cm.same
abbrev d16 : Ba 16 := (default : Ba 16)
def zC (k : Int) : Cm := ⟨k, 0, 0, 0, 0, [], (false, d16), (false, d16), false, [], []⟩
def je (k : Int) : Str × List Int :=
  if k = 1 then ([102, 114, 97, 109, 101], [0, 1, 2, 4]) else
  if k = 2 then ([116, 105, 99, 107], [0, 3]) else
  if k = 3 then ([98, 101, 97, 116], [0]) else
  if k = 4 then ([109, 97, 105, 108], [3]) else
  if k = 5 then ([108, 111, 115, 101], [3]) else
  if k = 6 then ([99, 111, 112, 121], [3]) else
  if k = 7 then ([115, 119, 97, 112], [3]) else
  if k = 8 then ([112, 105, 99, 107], [3]) else
  if k = 9 then ([100, 114, 111, 112], [3]) else
  if k = 10 then ([100, 111, 119, 110], [0]) else
  if k = 11 then ([117, 112], [0]) else
  if k = 12 then ([102, 97, 115, 116], [0, 1, 2, 5]) else
  if k = 13 then ([102, 105, 120], [0, 1, 2, 5]) else
  if k = 20 then ([106, 111, 105, 110], [0, 1, 2, 6, 8]) else
  if k = 21 then ([115, 101, 110, 100], [0, 1, 2, 7, 6, 9]) else
  if k = 22 then ([114, 111, 117, 110, 100], [3]) else
  if k = 23 then ([100, 114, 97, 105, 110], []) else
  if k = 24 then ([119, 97, 110, 116], [1, 6, 7]) else
  if k = 25 then ([116, 114, 101, 101], [1, 6, 0]) else
  if k = 26 then ([115, 104, 111, 119], []) else ([], [])
theorem Lu {k : Int} {Q : Str -> List Int -> Prop} (h : Q (je k).1 (je k).2) : sO k Q := by
  unfold je at h
  refine ⟨fun c => (by rw [if_pos c] at h; exact ⟨by decide, h⟩), fun c => ?_⟩
  iterate 10 (rw [if_neg c] at h; refine ⟨fun c => (by rw [if_pos c] at h; exact h), fun c => ?_⟩)
  iterate 4 (rw [if_neg c] at h; refine ⟨fun c => (by rw [if_pos c] at h; exact ⟨by decide, h⟩), fun c => ?_⟩)
  iterate 5 (rw [if_neg c] at h; refine ⟨fun c => (by rw [if_pos c] at h; exact h), fun c => ?_⟩)
  rw [if_neg c] at h; exact h
def kinds : List Int := [1, 2, 3, 4, 5, 6, 7, 8, 9, 10, 11, 12, 13, 20, 21, 22, 23, 24, 25, 26]
theorem Iw {k : Int} (h : k ∉ kinds) : je k = ([], []) := by
  simp only [kinds, List.mem_cons, List.not_mem_nil, or_false, not_or] at h
  unfold je
  repeat rw [if_neg (by omega)]
theorem JE (k : Int) : (je k).1.length <= 5 /\ (je k).2.length <= 6 := by
  by_cases h : k ∈ kinds
  · revert k; decide
  · rw [Iw h]; decide
theorem Y0 (k : Int) : ∀ c ∈ (je k).1, c ≠ 32 := by
  by_cases h : k ∈ kinds
  · revert k; decide
  · rw [Iw h]; simp
theorem NH (k : Int) : ∀ t ∈ (je k).2, 0 <= t /\ t <= 9 := by
  by_cases h : k ∈ kinds
  · revert k; decide
  · rw [Iw h]; simp
theorem Y1 : ∀ a ∈ kinds, ∀ b ∈ kinds, (je a).1 = (je b).1 -> a = b := by decide
theorem aap : ∀ a ∈ kinds, (je a).1 ≠ [] := by decide
theorem LC {k : Int} (h : (je k).1 ≠ []) : k ∈ kinds := by
  apply Classical.byContradiction; intro q; rw [Iw q] at h; exact h rfl
theorem TI {k : Int} (h : k ∈ kinds) : 1 <= k /\ k <= 26 := by
  revert k; decide
theorem XO {k : Int} {Q : Str -> Prop} (h : Q (je k).1) : DR k Q := Lu h
theorem SY {k : Int} {Q : Str -> Prop} (h : Q (je k).1) : zB k Q := by
  have t1 : ∀ n : Nat, n < 13 -> gi ([[102, 114, 97, 109, 101], [116, 105, 99, 107], [98, 101, 97, 116], [109, 97, 105, 108], [108, 111, 115, 101], [99, 111, 112, 121], [115, 119, 97, 112], [112, 105, 99, 107], [100, 114, 111, 112], [100, 111, 119, 110], [117, 112], [102, 97, 115, 116], [102, 105, 120]] : List Str) ((n : Int) + 1 - 1) = (je ((n : Int) + 1)).1 := by decide
  have t2 : ∀ n : Nat, n < 7 -> gi ([[106, 111, 105, 110], [115, 101, 110, 100], [114, 111, 117, 110, 100], [100, 114, 97, 105, 110], [119, 97, 110, 116], [116, 114, 101, 101], [115, 104, 111, 119]] : List Str) ((n : Int) + 20 - 20) = (je ((n : Int) + 20)).1 := by decide
  have j1 : ¬ (0 < k /\ k < 14) -> Am k Q := by
    intro a
    have no : ¬ (19 < k /\ k < 27) -> Q [] := by
      intro b
      rw [Iw (by intro q; simp only [kinds, List.mem_cons, List.not_mem_nil, or_false] at q; omega)] at h; exact h
    refine ⟨fun c => ⟨fun d => ?_, fun d => no (by have := of_decide_eq_false d; omega)⟩, fun c => ⟨fun d => (by cases d), fun _ => no (by omega)⟩⟩
    have d1 := of_decide_eq_true d
    obtain ⟨n, rfl⟩ : ∃ n : Nat, k = (n : Int) + 20 := ⟨(k - 20).toNat, by omega⟩
    refine ⟨by unfold I64; omega, by simp only [List.length_cons, List.length_nil]; omega, ?_⟩
    rw [t2 n (by omega)]; exact h
  refine ⟨fun a => ⟨fun b => ?_, fun b => j1 (by omega)⟩, fun a => j1 (by omega)⟩
  obtain ⟨n, rfl⟩ : ∃ n : Nat, k = (n : Int) + 1 := ⟨(k - 1).toNat, by omega⟩
  refine ⟨by unfold I64; omega, by simp only [List.length_cons, List.length_nil]; omega, ?_⟩
  rw [t1 n (by omega)]; exact h
theorem aag {w : Str} {Q : Int -> Prop} (h : ∀ r, (∀ k, k ∈ kinds -> (je k).1 = w -> r = k) -> Q r) : DN w Q := by
  refine JV (s0 := (1 : Int)) id 1 27 (fun i s => ∀ k ∈ kinds, k < s -> (je k).1 ≠ w) rfl (by omega) (fun k hk q => by have := TI hk; omega) ?_
  rintro K i s hs hi hI hK
  replace hs : s = (i : Int) := hs
  subst hs
  replace hI : ∀ k ∈ kinds, k < (i : Int) -> (je k).1 ≠ w := hI
  show yF w Q K (i : Int)
  have go : (i : Int) <= 26 -> (je (i : Int)).1 = [] ∨ (je (i : Int)).1 ≠ w -> K ((i : Int) + 1) := by
    intro d e
    refine hK (i + 1) _ rfl (by omega) (by omega) fun k hk hl q => ?_
    replace hl : k < ((i + 1 : Nat) : Int) := hl
    by_cases f : k < (i : Int)
    · exact hI k hk f q
    · have : k = (i : Int) := by omega
      subst this
      rcases e with e | e
      · exact aap _ hk e
      · exact e q
  unfold yF
  refine ⟨fun d => Lu ⟨fun a => ⟨fun b => ?_, fun b => ⟨by (first | omega | (unfold I64; omega) | (simp only [List.length_append, List.length_cons, List.length_nil, List.length_take, List.length_drop] at *; omega) | (unfold I64; simp only [List.length_append, List.length_cons, List.length_nil, List.length_take, List.length_drop] at *; omega)), go d (.inr b)⟩⟩, fun a => ⟨by (first | omega | (unfold I64; omega) | (simp only [List.length_append, List.length_cons, List.length_nil, List.length_take, List.length_drop] at *; omega) | (unfold I64; simp only [List.length_append, List.length_cons, List.length_nil, List.length_take, List.length_drop] at *; omega)), go d (.inl a)⟩⟩, fun d => ?_⟩
  · exact h _ fun k hk q => Y1 _ (LC a) _ hk (by rw [b, q])
  · exact h _ fun k hk q => absurd q (hI k hk (by have := TI hk; omega))
def IY (k : Int) : Int := if k = 22 then 100 else 1000000
def JJ (l : List Ad) : Bool := decide (XJ l = l)
theorem Rw {l : List Ad} : JJ l = true ↔ AX l := by
  unfold JJ; rw [decide_eq_true_eq]
  exact ⟨fun h => h ▸ VO l, abT⟩
def Dj (c : Cm) (t : Int) : Bool :=
  if t = 0 then decide (0 <= c.nd /\ c.nd <= 65535) || (decide (c.k = 3) && decide (c.nd = -1)) else
  if t = 1 then decide (0 <= c.vl /\ c.vl <= 4094) else
  if t = 2 then decide (0 <= c.po /\ c.po <= 255) else
  if t = 3 then decide (0 <= c.n /\ c.n <= IY c.k) else
  if t = 4 then decide (c.b.length <= 1600) else
  if t = 5 then decide (0 <= c.n /\ c.n <= 1) else
  if t = 6 then rU c.g && (gG c.g || (decide (c.k = 25) && zZ c.g)) else
  if t = 7 then rU c.s && ((c.s.1 == c.g.1) && !gG c.s) else
  if t = 8 then JJ c.l && (decide (c.l.length <= 64) && c.l.all fun a => a.1 == c.g.1) else
  ug c.t
theorem aac {k : Int} {Q : Int -> Prop} (h : Q (IY k)) : DL k Q := by
  unfold IY at h
  exact ⟨fun c => (by rw [if_pos c] at h; exact h), fun c => (by rw [if_neg c] at h; exact h)⟩
theorem Xk {c : Cm} (hl : c.l.length <= 100000) {Q : Bool -> Prop} (h : Q (JJ c.l && (decide (c.l.length <= 64) && c.l.all fun a => a.1 == c.g.1))) : A8 c.e c.g c.s c.x c.l c.t Q := by
  refine ZT (by omega) fun b hb => ?_
  have e : b = JJ c.l := Bool.eq_iff_iff.2 (hb.trans Rw.symm)
  refine ⟨fun d => ⟨fun f => ⟨fun a => !(a.1 == c.g.1), fun x0 => rfl, ?_⟩, fun f => ?_⟩, fun d => ?_⟩
  · rw [← e, d, Bool.true_and, decide_eq_true (show c.l.length <= 64 by omega), Bool.true_and] at h
    refine SB (by omega) (fun q => ?_) (fun i hi q _ => ?_)
    · have : (c.l.all fun a => a.1 == c.g.1) = true := by
        rw [List.all_eq_true]; intro x hx; have := q x hx; simpa using this
      rw [this] at h; exact h
    · have : (c.l.all fun a => a.1 == c.g.1) = false := by
        rw [List.all_eq_false]; exact ⟨_, List.getElem_mem hi, by simpa using q⟩
      rw [this] at h
      rw [decide_eq_true (by omega)]; exact h
  · rw [decide_eq_false (show ¬ c.l.length <= 64 by omega), Bool.false_and, Bool.and_false] at h; exact h
  · rw [← e, d, Bool.false_and] at h; exact h
theorem ZK {c : Cm} {t : Int} (hl : c.l.length <= 100000) {Q : Bool -> Prop} (h : Q (Dj c t)) : DF c.e c.g c.s c.x c.l c.t t Q := by
  unfold Dj at h
  refine ⟨fun c0 => ?_, fun c0 => ?_⟩
  · rw [if_pos c0] at h
    refine MR ⟨fun d => ?_, fun d => ?_⟩
    · replace d : decide (0 <= c.nd /\ c.nd <= 65535) = true := d
      rw [d, Bool.true_or] at h; exact h
    · replace d : decide (0 <= c.nd /\ c.nd <= 65535) = false := d
      rw [d, Bool.false_or] at h
      refine ⟨fun f => ?_, fun f => ?_⟩
      · rw [decide_eq_true (show c.k = 3 from f), Bool.true_and] at h; exact h
      · rw [decide_eq_false (show ¬ c.k = 3 from f), Bool.false_and] at h; exact h
  rw [if_neg c0] at h
  refine ⟨fun c1 => (by rw [if_pos c1] at h; exact MR h), fun c1 => ?_⟩
  rw [if_neg c1] at h
  refine ⟨fun c1 => (by rw [if_pos c1] at h; exact MR h), fun c1 => ?_⟩
  rw [if_neg c1] at h
  refine ⟨fun c1 => (by rw [if_pos c1] at h; exact aac (MR h)), fun c1 => ?_⟩
  rw [if_neg c1] at h
  refine ⟨fun c1 => ?_, fun c1 => ?_⟩
  · rw [if_pos c1] at h
    rw [show decide ((c.e.2.2.2.2.2.length : Int) <= 1600) = decide (c.b.length <= 1600) from decide_eq_decide.2 (by show (c.b.length : Int) <= 1600 ↔ _; omega)]; exact h
  rw [if_neg c1] at h
  refine ⟨fun c1 => (by rw [if_pos c1] at h; exact MR h), fun c1 => ?_⟩
  rw [if_neg c1] at h
  refine ⟨fun c1 => ?_, fun c1 => ?_⟩
  · rw [if_pos c1] at h
    refine PN ⟨fun d => ?_, fun d => ?_⟩
    · rw [d, Bool.true_and] at h
      refine V7 ⟨fun f => ?_, fun f => ⟨fun p => ?_, fun p => ?_⟩⟩
      · rw [f, Bool.true_or] at h; exact h
      · rw [f, Bool.false_or, decide_eq_true (show c.k = 25 from p), Bool.true_and] at h; exact h
      · rw [f, Bool.false_or, decide_eq_false (show ¬ c.k = 25 from p), Bool.false_and] at h; exact h
    · rw [d, Bool.false_and] at h; exact h
  rw [if_neg c1] at h
  refine ⟨fun c1 => ?_, fun c1 => ?_⟩
  · rw [if_pos c1] at h
    refine PN ⟨fun d => ⟨fun f => ?_, fun f => ?_⟩, fun d => ?_⟩
    · rw [d, Bool.true_and, f, Bool.true_and] at h; exact V7 h
    · rw [d, Bool.true_and, f, Bool.false_and] at h; exact h
    · rw [d, Bool.false_and] at h; exact h
  rw [if_neg c1] at h
  refine ⟨fun c1 => (by rw [if_pos c1] at h; exact Xk hl h), fun c1 => ?_⟩
  rw [if_neg c1] at h
  exact Xc h
def Gw (c o : Cm) (t : Int) : Cm :=
  if t = 0 then { o with nd := c.nd } else
  if t = 1 then { o with vl := c.vl } else
  if t = 2 then { o with po := c.po } else
  if t = 3 then { o with n := c.n } else
  if t = 5 then { o with n := c.n } else
  if t = 4 then { o with b := c.b } else
  if t = 6 then { o with g := c.g } else
  if t = 7 then { o with s := c.s } else
  if t = 8 then { o with x := c.x, l := c.l } else
  if t = 9 then { o with t := c.t } else o
def ap (Q : Int -> Int -> Int -> Int -> Int -> Str -> Bool -> Ba 16 -> Bool -> Ba 16 -> Bool -> List Ad -> Str -> Prop) (o : Cm) : Prop :=
  Q o.k o.nd o.vl o.po o.n o.b o.g.1 o.g.2 o.s.1 o.s.2 o.x o.l o.t
theorem XC {o c : Cm} {t : Int} {Q : Int -> Int -> Int -> Int -> Int -> Str -> Bool -> Ba 16 -> Bool -> Ba 16 -> Bool -> List Ad -> Str -> Prop} (h : ap Q (Gw c o t)) :
    Bc o.e o.g o.s o.x o.l o.t c.e c.g c.s c.x c.l c.t t Q := by
  unfold Gw at h
  iterate 3 (refine ⟨fun c1 => (by rw [if_pos c1] at h; exact h), fun c1 => ?_⟩; rw [if_neg c1] at h)
  refine ⟨fun c1 => ⟨fun _ => (by rw [if_pos c1] at h; exact h), fun q => absurd c1 (of_decide_eq_false q)⟩, fun c1 => ?_⟩
  rw [if_neg c1] at h
  refine ⟨fun q => (by rw [if_pos (of_decide_eq_true q)] at h; exact h), fun q => ?_⟩
  rw [if_neg (of_decide_eq_false q)] at h
  iterate 5 (refine ⟨fun c1 => (by rw [if_pos c1] at h; exact h), fun c1 => ?_⟩; rw [if_neg c1] at h)
  exact h
theorem abE {a b : Cm} (hl : a.l.length <= 1000) {Q : Bool -> Prop} (h : Q (decide (a = b))) : DK a.e a.g a.s a.x a.l a.t b.e b.g b.s b.x b.l b.t Q := by
  have no : ¬ a = b -> Q false := fun q => by rw [decide_eq_false q] at h; exact h
  refine ⟨fun c1 => ⟨fun c2 => ⟨fun c3 => WW hl ⟨fun c4 => ?_, fun c4 => no fun q => ?_⟩, fun c3 => no fun q => c3 (by rw [q])⟩, fun c2 => no fun q => c2 (by rw [q])⟩, fun c1 => no fun q => c1 (by rw [q])⟩
  · rw [show decide (a.t = b.t) = decide (a = b) from decide_eq_decide.2 ⟨fun q => Cm.same.1 ⟨c1, c2, c3, of_decide_eq_true c4, q⟩, fun q => by rw [q]⟩]; exact h
  · exact of_decide_eq_false c4 (by rw [q])
theorem RU {a b : Cm} (hl : a.l.length <= 1000) {Q : Bool -> Prop} (h : Q (decide (a = b))) : zD a.e a.g a.s a.x a.l a.t b.e b.g b.s b.x b.l b.t Q := by
  have no : ¬ a = b -> Q false := fun q => by rw [decide_eq_false q] at h; exact h
  refine ⟨fun c1 => ⟨fun c2 => ⟨fun c3 => WV hl ⟨fun c4 => ?_, fun c4 => no fun q => ?_⟩, fun c3 => no fun q => c3 (by rw [q])⟩, fun c2 => no fun q => c2 (by rw [q])⟩, fun c1 => no fun q => c1 (by rw [q])⟩
  · rw [show decide (a.t = b.t) = decide (a = b) from decide_eq_decide.2 ⟨fun q => Cm.same.1 ⟨c1, c2, c3, of_decide_eq_true c4, q⟩, fun q => by rw [q]⟩]; exact h
  · exact of_decide_eq_false c4 (by rw [q])
abbrev TS : Type := Int × Int × Int × Int × Int × Str × Bool × Ba 16 × Bool × Ba 16 × Bool × List Ad × Str × Int
def tup (o : Cm) (n : Int) : TS := (o.k, o.nd, o.vl, o.po, o.n, o.b, o.g.1, o.g.2, o.s.1, o.s.2, o.x, o.l, o.t, n)
theorem aaf {B : (TS -> Prop) -> TS -> Prop} {o0 : Cm} (n : Nat) (I : Nat -> Cm -> Prop) (h0 : I 0 o0)
    (hB : ∀ (K : TS -> Prop) (i : Nat) (o : Cm), i <= n -> I i o -> (∀ (j : Nat) (o' : Cm), i < j -> j <= n -> I j o' -> K (tup o' (j : Int))) -> B K (tup o (i : Int))) : lu B (tup o0 0) := by
  refine Gv (fun s => s.2.2.2.2.2.2.2.2.2.2.2.2.2) n (fun i s => ∃ o, s = tup o (i : Int) /\ I i o) rfl ⟨o0, rfl, h0⟩ ?_
  rintro K i s _ hi ⟨o, rfl, hI⟩ hK
  exact hB K i o hi hI fun j o' hij hj hI' => hK j _ rfl hij hj ⟨o', rfl, hI'⟩
def J9 (c : Cm) (L : List Int) : Cm := L.foldl (Gw c) (zC c.k)
def kJ (c : Cm) : Bool := (je c.k).2.all (Dj c) && (!decide ((je c.k).1 = []) && decide (c = J9 c (je c.k).2))
theorem V8 {c : Cm} (hl : c.l.length <= 1000) {Q : Bool -> Prop} (h : Q (kJ c)) : Aj c.e c.g c.s c.x c.l c.t Q := by
  refine Lu ?_
  refine aaf (o0 := zC c.k) (je c.k).2.length (fun i o => o = J9 c ((je c.k).2.take i) /\ ((je c.k).2.take i).all (Dj c) = true) ⟨rfl, rfl⟩ ?_
  rintro K i o hi ⟨ho, hw⟩ hK
  show yG c.e c.g c.s c.x c.l c.t Q (je c.k).1 (je c.k).2 _ o.k o.nd o.vl o.po o.n o.b o.g.1 o.g.2 o.s.1 o.s.2 o.x o.l o.t (i : Int)
  unfold yG
  have hn := (JE c.k).2
  refine ⟨fun d => ⟨by omega, ?_⟩, fun d => ?_⟩
  · have i1 : i < (je c.k).2.length := by omega
    rw [iZ i1]
    refine ZK (by omega) ⟨fun w => ?_, fun w => ?_⟩
    · have : kJ c = false := by
        unfold kJ
        rw [show (je c.k).2.all (Dj c) = false by rw [List.all_eq_false]; exact ⟨_, List.getElem_mem i1, by simpa using w⟩]; rfl
      rw [this] at h; exact h
    · refine XC (o := o) ⟨by (first | omega | (unfold I64; omega) | (simp only [List.length_append, List.length_cons, List.length_nil, List.length_take, List.length_drop] at *; omega) | (unfold I64; simp only [List.length_append, List.length_cons, List.length_nil, List.length_take, List.length_drop] at *; omega)), hK (i + 1) (Gw c o (je c.k).2[i]) (by omega) (by omega) ⟨?_, ?_⟩⟩
      · rw [List.take_succ_eq_append_getElem i1]; unfold J9; rw [List.foldl_append, ho]; rfl
      · rw [List.take_succ_eq_append_getElem i1, List.all_append, hw, List.all_cons]; simpa using w
  · have i1 : i = (je c.k).2.length := by omega
    subst i1
    rw [List.take_length] at ho hw
    refine ⟨fun w => abE (a := c) (b := o) hl ?_, fun w => ?_⟩
    · unfold kJ at h
      rw [hw, decide_eq_false w, ← ho] at h; exact h
    · have : kJ c = false := by unfold kJ; rw [decide_eq_true w]; simp
      rw [this] at h; exact h
def x9 (c : Cm) (t : Int) : Str :=
  if t = 0 then (if c.nd < 0 then [99, 111, 110, 116, 114, 111, 108, 108, 101, 114] else jM c.nd) else
  if t = 1 then jM c.vl else
  if t = 2 then jM c.po else
  if t = 3 then jM c.n else
  if t = 4 then (if c.b = [] then [45] else hexL c.b) else
  if t = 5 then (if c.n = 1 then [111, 110] else [111, 102, 102]) else
  if t = 6 then txt c.g else
  if t = 7 then txt c.s else
  if t = 8 then Um c.x c.l else c.t
def yz (c : Cm) (L : List Int) : Str := L.flatMap fun t => 32 :: x9 c t
def qA (c : Cm) : Str := (je c.k).1 ++ yz c (je c.k).2
structure Sm (c : Cm) : Prop where
  nd : I64 c.nd
  vl : I64 c.vl
  po : I64 c.po
  n : I64 c.n
  b : c.b.length <= 2000
  l : c.l.length <= 1000
  t : c.t.length <= 2000
theorem QK {c : Cm} (h : Sm c) (t : Int) : (x9 c t).length <= 110000 := by
  have h1 := vY h.nd
  have h2 := vY h.vl
  have h3 := vY h.po
  have h4 := vY h.n
  have h5 := CQ c.b
  have h6 := AZ c.g
  have h7 := AZ c.s
  have h8 := Oj c.x c.l
  have hb := h.b
  have hl := h.l
  have ht := h.t
  unfold x9
  repeat' split
  all_goals (try simp only [List.length_cons, List.length_nil])
  all_goals omega
theorem ac7 {c : Cm} (hs : Sm c) {t : Int} {Q : Str -> Prop} (h : Q (x9 c t)) : DI c.e c.g c.s c.x c.l c.t t Q := by
  unfold x9 at h
  refine ⟨fun c1 => ?_, fun c1 => ?_⟩
  · rw [if_pos c1] at h
    exact ⟨fun d => (by rw [if_pos (show c.nd < 0 from d)] at h; exact h), fun d => (by rw [if_neg (show ¬ c.nd < 0 from d)] at h; exact ⟨hs.nd, h⟩)⟩
  rw [if_neg c1] at h
  refine ⟨fun c1 => (by rw [if_pos c1] at h; exact ⟨hs.vl, h⟩), fun c1 => ?_⟩
  rw [if_neg c1] at h
  refine ⟨fun c1 => (by rw [if_pos c1] at h; exact ⟨hs.po, h⟩), fun c1 => ?_⟩
  rw [if_neg c1] at h
  refine ⟨fun c1 => (by rw [if_pos c1] at h; exact ⟨hs.n, h⟩), fun c1 => ?_⟩
  rw [if_neg c1] at h
  refine ⟨fun c1 => ?_, fun c1 => ?_⟩
  · rw [if_pos c1] at h
    exact ⟨fun d => (by rw [if_pos (show c.b = [] from d)] at h; exact h), fun d => (by rw [if_neg (show ¬ c.b = [] from d)] at h; exact aak (by have := hs.b; show c.b.length <= 100000; omega) h)⟩
  rw [if_neg c1] at h
  refine ⟨fun c1 => ?_, fun c1 => ?_⟩
  · rw [if_pos c1] at h
    exact ⟨fun d => (by rw [if_pos (show c.n = 1 from d)] at h; exact h), fun d => (by rw [if_neg (show ¬ c.n = 1 from d)] at h; exact h)⟩
  rw [if_neg c1] at h
  refine ⟨fun c1 => (by rw [if_pos c1] at h; exact Om h), fun c1 => ?_⟩
  rw [if_neg c1] at h
  refine ⟨fun c1 => (by rw [if_pos c1] at h; exact Om h), fun c1 => ?_⟩
  rw [if_neg c1] at h
  refine ⟨fun c1 => (by rw [if_pos c1] at h; exact QM hs.l h), fun c1 => ?_⟩
  rw [if_neg c1] at h
  exact h
theorem LW {c : Cm} (h : Sm c) : ∀ L : List Int, (yz c L).length <= L.length * 110001
  | [] => by simp [yz]
  | t :: L => by
    have h1 := QK h t
    have h2 := LW h L
    have e : yz c (t :: L) = 32 :: (x9 c t ++ yz c L) := rfl
    rw [e, List.length_cons, List.length_append, List.length_cons]; omega
theorem Uu (c : Cm) (L : List Int) (t : Int) : yz c (L ++ [t]) = yz c L ++ 32 :: x9 c t := by
  unfold yz; rw [List.flatMap_append]; simp
theorem VY {c : Cm} (hs : Sm c) {Q : Str -> Prop} (h : Q (qA c)) : Ai c.e c.g c.s c.x c.l c.t Q := by
  refine Lu ?_
  have hf := JE c.k
  refine wK (je c.k).2.length (fun i s => s = (je c.k).1 ++ yz c ((je c.k).2.take i)) (by simp [yz]; rfl) fun K i s hi ho hK => ?_
  show yE c.e c.g c.s c.x c.l c.t Q (je c.k).2 _ s (i : Int)
  unfold yE
  refine ⟨fun d => ⟨by omega, ?_⟩, fun d => ?_⟩
  · have i1 : i < (je c.k).2.length := by omega
    rw [iZ i1]
    have h1 := QK hs (je c.k).2[i]
    have h2 := LW hs ((je c.k).2.take i)
    rw [List.length_take] at h2
    refine ac7 hs ⟨by simp only [List.length_cons, List.length_nil]; omega, by rw [ho]; simp only [List.length_append, List.length_cons, List.length_nil]; omega, by (first | omega | (unfold I64; omega) | (simp only [List.length_append, List.length_cons, List.length_nil, List.length_take, List.length_drop] at *; omega) | (unfold I64; simp only [List.length_append, List.length_cons, List.length_nil, List.length_take, List.length_drop] at *; omega)), hK (i + 1) _ (by omega) (by omega) ?_⟩
    rw [List.take_succ_eq_append_getElem i1, Uu, ho, List.append_assoc]; rfl
  · have i1 : i = (je c.k).2.length := by omega
    subst i1
    rw [List.take_length] at ho
    rw [ho]; exact h
end Go.Wk
