/- Plain words: reading a line. -/
import Derived.Test.YtlnagjjldpgbpaaGreatDoorScE
set_option linter.unusedSimpArgs false
set_option linter.unusedVariables false
set_option linter.unusedSectionVars false
namespace Go.Wk
open Go.HL
variable [DM]
theorem FW {c : Cm} (h : kJ c = true) : c.k ∈ kinds := by
  unfold kJ at h
  simp only [Bool.and_eq_true, Bool.not_eq_true', decide_eq_false_iff_not] at h
  exact LC h.2.1
theorem Xu {c : Cm} (h : kJ c = true) : c = J9 c (je c.k).2 := by
  unfold kJ at h
  simp only [Bool.and_eq_true, Bool.not_eq_true', decide_eq_true_eq] at h
  exact h.2.2
theorem MV {c : Cm} (h : kJ c = true) : ∀ t ∈ (je c.k).2, Dj c t = true := by
  unfold kJ at h
  simp only [Bool.and_eq_true, List.all_eq_true] at h
  exact h.1
theorem Ov {c : Cm} (h : kJ c = true) : Sm c := by
  have hk := FW h
  obtain ⟨k, nd, vl, po, n, b, g, s, x, l, t⟩ := c
  simp only [kinds, List.mem_cons, List.not_mem_nil, or_false] at hk
  rcases hk with rfl | rfl | rfl | rfl | rfl | rfl | rfl | rfl | rfl | rfl | rfl | rfl | rfl | rfl | rfl | rfl | rfl | rfl | rfl | rfl
  all_goals (simp [kJ, je, Dj, J9, Gw, zC, IY, ug] at h)
  all_goals (refine ⟨?_, ?_, ?_, ?_, ?_, ?_, ?_⟩ <;> simp only [I64] <;> grind)
def Et (c : Cm) (t : Int) : List Str := if t = 8 then [mode c.x, NM c.l] else [x9 c t]
theorem XN (c : Cm) (t : Int) : Et c t ≠ [] := by unfold Et; split <;> simp
theorem aal (s : Str) : (32 : UInt8) ∉ hexL s := by
  intro h
  unfold hexL at h
  rw [List.mem_flatMap] at h
  obtain ⟨c, _, q⟩ := h
  have d : ∀ k < 16, FI k ≠ 32 := by decide
  have hc := Jj c
  simp only [List.mem_cons, List.not_mem_nil, or_false] at q
  rcases q with q | q
  · exact d _ (by omega) q.symm
  · exact d _ (by omega) q.symm
theorem X7 {c : Cm} {t : Int} (h : t ≠ 8) (hw : Dj c t = true) (h9 : 0 <= t /\ t <= 9) : (32 : UInt8) ∉ x9 c t := by
  have hx := aal c.b
  have h1 : (32 : UInt8) ∉ txt c.g := fun q => (OD _ _ q).2.2 rfl
  have h2 : (32 : UInt8) ∉ txt c.s := fun q => (OD _ _ q).2.2 rfl
  unfold x9
  split
  · split
    · decide
    · exact Ou.1
  split
  · exact Ou.1
  split
  · exact Ou.1
  split
  · exact Ou.1
  split
  · split
    · decide
    · exact hx
  split
  · split <;> decide
  split
  · exact h1
  split
  · exact h2
  have t9 : t = 9 := by omega
  subst t9
  intro q
  have hp : ug c.t = true := hw
  unfold ug at hp
  simp only [Bool.and_eq_true, List.all_eq_true] at hp
  have := hp.2 _ q
  exact absurd this (by decide)
theorem OO {c : Cm} : ∀ (L : List Int) (x : Str), (∀ t ∈ L, Dj c t = true /\ 0 <= t /\ t <= 9) -> (32 : UInt8) ∉ x -> dE (x ++ yz c L) [32] = x :: L.flatMap (Et c)
  | [], x, _, hx => by
    have e : yz c [] = [] := rfl
    rw [e, List.append_nil, yA hx]; rfl
  | t :: L, x, h, hx => by
    have e : yz c (t :: L) = 32 :: (x9 c t ++ yz c L) := rfl
    have ih := fun y hy => OO L y (fun t' ht' => h t' (List.mem_cons_of_mem _ ht')) hy
    have ht := h t (List.mem_cons_self ..)
    rw [e, BO hx, List.flatMap_cons]
    by_cases t8 : t = 8
    · subst t8
      have e2 : x9 c 8 ++ yz c L = mode c.x ++ 32 :: (NM c.l ++ yz c L) := by
        show (mode c.x ++ 32 :: NM c.l) ++ yz c L = _
        rw [List.append_assoc]; rfl
      rw [e2, BO (VT _), ih _ aby]; rfl
    · rw [ih _ (X7 t8 ht.1 ht.2)]
      unfold Et; rw [if_neg t8]; rfl
theorem Uy {c : Cm} (h : kJ c = true) : dE (qA c) [32] = (je c.k).1 :: (je c.k).2.flatMap (Et c) :=
  OO _ _ (fun t ht => ⟨MV h t ht, NH _ t ht⟩) (fun q => Y0 c.k _ q rfl)
def LV : List Str -> Nat
  | [] => 0
  | x :: r => x.length + 1 + LV r
theorem Ut (s : Str) : LV (dE s [32]) = s.length + 1 := by
  induction s using G7 32 with
  | h0 s hs => rw [yA hs]; rfl
  | h1 x r hx ih => rw [BO hx]; show x.length + 1 + LV _ = _; rw [ih, List.length_append, List.length_cons]; omega
theorem QI : ∀ (w : List Str) (n : Nat), LV (w.drop n) <= LV w
  | [], n => by simp
  | x :: r, 0 => Nat.le_refl _
  | x :: r, n + 1 => by
    have := QI r n
    show LV (r.drop n) <= x.length + 1 + LV r
    omega
theorem WN {s : Str} (hl : s.length <= 100000) (ho : s.length % 2 = 1) {Q : Str -> Int -> Prop} (h : Q [] 2) : AL s Q := by
  refine ⟨fun _ => h, fun c => ?_⟩
  rw [PH] at c; omega
theorem wM {α : Type} [Inhabited α] (a : α) (w : List α) : gi (a :: w) (0 : Int) = a := rfl
theorem YP {n : Int} : jM n ≠ [99, 111, 110, 116, 114, 111, 108, 108, 101, 114] := by
  intro q
  have : (99 : UInt8) ∈ jM n := by rw [q]; decide
  rcases PE this with e | ⟨k, hk, e⟩
  · exact absurd e (by decide)
  · have d : ∀ k < 10, FI k ≠ 99 := by decide
    exact d k hk e.symm
theorem ZR {c : Cm} {t : Int} {a : Str} {w : List Str} (hl : c.l.length <= 1000) (hw : LV (a :: w) <= 801) {Q : Int -> Int -> Int -> Int -> Int -> Int -> Str -> Bool -> Ba 16 -> Bool -> Ba 16 -> Bool -> List Ad -> Str -> Prop}
    (h : ∀ (r : Nat) (o : Cm), r <= (a :: w).length -> o.k = c.k -> o.l.length <= 1000 -> (∀ c2 rest, Sm c2 -> Dj c2 t = true -> (t = 5 -> c.n = 0) -> a :: w = Et c2 t ++ rest -> (a :: w).drop r = rest /\ o = Gw c2 c t) -> ap (Q (r : Int)) o) :
    DJ c.e c.g c.s c.x c.l c.t t (a :: w) Q := by
  have ha : a.length + 1 + LV w <= 801 := hw
  have h1 : ∀ (o : Cm), o.k = c.k -> o.l.length <= 1000 -> (∀ c2, Sm c2 -> Dj c2 t = true -> (t = 5 -> c.n = 0) -> t ≠ 8 -> a = x9 c2 t -> o = Gw c2 c t) -> t ≠ 8 -> ap (Q ((1 : Nat) : Int)) o := by
    intro o q1 q2 q3 q4
    refine h 1 o (by simp) q1 q2 fun c2 rest s1 s2 s3 s4 => ?_
    unfold Et at s4
    rw [if_neg q4] at s4
    injection s4 with s5 s6
    exact ⟨s6, q3 c2 s1 s2 s3 q4 s5⟩
  unfold Gw at h1
  have ln : ((0 : Int) <= 0 /\ 0 < ((a :: w).length : Int)) := ⟨by omega, by rw [List.length_cons]; omega⟩
  refine ⟨fun c0 => ⟨ln, Oy (by rw [wM]; omega) fun v e hv he => ?_⟩, fun c0 => ?_⟩
  · subst c0
    rw [wM] at he ⊢
    refine ⟨fun q => h1 { c with nd := -1 } rfl hl (fun c2 s1 s2 _ _ s3 => ?_) (by decide), fun q => h1 { c with nd := v } rfl hl (fun c2 s1 s2 _ _ s3 => ?_) (by decide)⟩
    · rw [if_pos rfl]
      have s3 : a = if c2.nd < 0 then [99, 111, 110, 116, 114, 111, 108, 108, 101, 114] else jM c2.nd := s3
      have s2 : (decide (0 <= c2.nd /\ c2.nd <= 65535) || (decide (c2.k = 3) && decide (c2.nd = -1))) = true := s2
      simp only [Bool.or_eq_true, Bool.and_eq_true, decide_eq_true_eq] at s2
      by_cases z : c2.nd < 0
      · rw [show c2.nd = -1 by omega]
      · rw [if_neg z, q] at s3; exact absurd s3.symm YP
    · rw [if_pos rfl]
      have s3 : a = if c2.nd < 0 then [99, 111, 110, 116, 114, 111, 108, 108, 101, 114] else jM c2.nd := s3
      by_cases z : c2.nd < 0
      · rw [if_pos z] at s3; exact absurd s3 q
      · rw [if_neg z] at s3; rw [(he _ s1.nd s3).1]
  refine ⟨fun c1 => ⟨ln, Oy (by rw [wM]; omega) fun v e hv he => ?_⟩, fun c1 => ?_⟩
  · subst c1
    rw [wM] at he
    refine h1 { c with vl := v } rfl hl (fun c2 s1 s2 _ _ s3 => ?_) (by decide)
    rw [(he c2.vl s1.vl s3).1]; rfl
  refine ⟨fun cc2 => ⟨ln, Oy (by rw [wM]; omega) fun v e hv he => ?_⟩, fun cc2 => ?_⟩
  · subst cc2
    rw [wM] at he
    refine h1 { c with po := v } rfl hl (fun c2 s1 s2 _ _ s3 => ?_) (by decide)
    rw [(he c2.po s1.po s3).1]; rfl
  refine ⟨fun c3 => ⟨ln, Oy (by rw [wM]; omega) fun v e hv he => ?_⟩, fun c3 => ?_⟩
  · subst c3
    rw [wM] at he
    refine h1 { c with n := v } rfl hl (fun c2 s1 s2 _ _ s3 => ?_) (by decide)
    rw [(he c2.n s1.n s3).1]; rfl
  refine ⟨fun c4 => ⟨ln, ?_⟩, fun c4 => ?_⟩
  · subst c4
    rw [wM]
    by_cases z : a = [45]
    · subst z
      refine WN (by decide) (by decide) (h1 { c with b := [] } rfl hl (fun c2 s1 s2 _ _ s3 => ?_) (by decide))
      have s3 : [45] = if c2.b = [] then ([45] : Str) else hexL c2.b := s3
      by_cases y : c2.b = []
      · rw [y]; rfl
      · rw [if_neg y] at s3
        have := congrArg List.length s3
        rw [CQ] at this; simp at this; omega
    · refine XR (by omega) fun r e hr he => h1 { c with b := r } rfl hl (fun c2 s1 s2 _ _ s3 => ?_) (by decide)
      have s3 : a = if c2.b = [] then ([45] : Str) else hexL c2.b := s3
      by_cases y : c2.b = []
      · rw [if_pos y] at s3; exact absurd s3 z
      · rw [if_neg y] at s3; rw [(he _ s3).1]; rfl
  refine ⟨fun c5 => ⟨ln, ?_⟩, fun c5 => ?_⟩
  · subst c5
    rw [wM]
    have k : ∀ c2 : Cm, Dj c2 5 = true -> c2.n = 0 ∨ c2.n = 1 := fun c2 s2 => by
      have s2 : decide (0 <= c2.n /\ c2.n <= 1) = true := s2
      have := of_decide_eq_true s2; omega
    refine ⟨fun q => h1 { c with n := 1 } rfl hl (fun c2 s1 s2 _ _ s3 => ?_) (by decide), fun q => h1 c rfl hl (fun c2 s1 s2 s0 _ s3 => ?_) (by decide)⟩
    · have s3 : a = if c2.n = 1 then ([111, 110] : Str) else [111, 102, 102] := s3
      rcases k c2 s2 with y | y
      · rw [if_neg (by omega), q] at s3; exact absurd s3 (by decide)
      · show _ = { c with n := c2.n }; rw [y]
    · have s3 : a = if c2.n = 1 then ([111, 110] : Str) else [111, 102, 102] := s3
      rcases k c2 s2 with y | y
      · show c = { c with n := c2.n }; rw [y, ← s0 rfl]
      · rw [if_pos y] at s3; exact absurd s3 q
  refine ⟨fun c6 => ⟨ln, ?_⟩, fun c6 => ?_⟩
  · subst c6
    rw [wM]
    have k : ∀ c2 : Cm, Dj c2 6 = true -> JD c2.g := fun c2 s2 => by
      have s2 : (rU c2.g && (gG c2.g || (decide (c2.k = 25) && zZ c2.g))) = true := s2
      rw [Bool.and_eq_true] at s2; exact JZ.1 s2.1
    refine MK (by omega) (fun g hg ht hu => h1 { c with g := g } rfl hl (fun c2 s1 s2 _ _ s3 => ?_) (by decide)) (fun hn => h1 { c with g := (false, d16) } rfl hl (fun c2 s1 s2 _ _ s3 => ?_) (by decide))
    · rw [← hu _ (k c2 s2) s3.symm]; rfl
    · exact absurd s3.symm (hn _ (k c2 s2))
  refine ⟨fun c6 => ⟨ln, ?_⟩, fun c7 => ?_⟩
  · subst c6
    rw [wM]
    have k : ∀ c2 : Cm, Dj c2 7 = true -> JD c2.s := fun c2 s2 => by
      have s2 : (rU c2.s && ((c2.s.1 == c2.g.1) && !gG c2.s)) = true := s2
      rw [Bool.and_eq_true] at s2; exact JZ.1 s2.1
    refine MK (by omega) (fun g hg ht hu => h1 { c with s := g } rfl hl (fun c2 s1 s2 _ _ s3 => ?_) (by decide)) (fun hn => h1 { c with s := (false, d16) } rfl hl (fun c2 s1 s2 _ _ s3 => ?_) (by decide))
    · rw [← hu _ (k c2 s2) s3.symm]; rfl
    · exact absurd s3.symm (hn _ (k c2 s2))
  refine ⟨fun c8 => ?_, fun c8 => ⟨fun c9 => ⟨ln, ?_⟩, fun c9 => ?_⟩⟩
  · subst c8
    have adn : ∀ c2 : Cm, Dj c2 8 = true -> AX c2.l := fun c2 s2 => by
      have s2 : (JJ c2.l && (decide (c2.l.length <= 64) && c2.l.all fun a => a.1 == c2.g.1)) = true := s2
      rw [Bool.and_eq_true] at s2; exact Rw.1 s2.1
    have hp : ∀ y : Str, y.length <= 800 -> ∀ x ∈ dE (lW y [32]).2.1 [44], x.length <= 800 := fun y hy x hx => by
      have q1 := (QQ _ _ x hx).1
      have q2 := Wx y
      omega
    cases w with
    | nil =>
      have e : cut [a] 0 (min (([a] : List Str).length : Int) 2) = [a] := rfl
      have e2 : min (([a] : List Str).length : Int) 2 = ((1 : Nat) : Int) := by show min (1 : Int) 2 = 1; decide
      rw [e, e2]
      have ej : gy [a] [32] = a := qY ..
      rw [ej]
      have no : ∀ c2 rest, [a] = Et c2 8 ++ rest -> False := fun c2 rest q => by
        have := congrArg List.length q
        unfold Et at this; simp at this
      refine ⟨by simp, ⟨by simp, by omega⟩, Pg (by omega) (hp _ (by omega)) (fun x l _ hll _ _ => h 1 { c with x := x, l := l } (by simp) rfl (by show l.length <= 1000; omega) fun c2 rest _ _ _ q => (no _ _ q).elim) (fun _ => h 1 { c with x := false, l := [] } (by simp) rfl (by simp) fun c2 rest _ _ _ q => (no _ _ q).elim)⟩
    | cons b w =>
      have hb : LV (b :: w) = b.length + 1 + LV w := rfl
      have e2 : min (((a :: b :: w) : List Str).length : Int) 2 = ((2 : Nat) : Int) := by simp only [List.length_cons]; omega
      have e : cut (a :: b :: w) 0 ((2 : Nat) : Int) = [a, b] := rfl
      rw [e2, e]
      have ej : gy [a, b] [32] = a ++ 32 :: b := by rw [rV, qY, List.append_assoc]; rfl
      rw [ej]
      have hlen : (a ++ 32 :: b).length <= 800 := by rw [List.length_append, List.length_cons]; omega
      have fits : ∀ c2 rest, a :: b :: w = Et c2 8 ++ rest -> Um c2.x c2.l = a ++ 32 :: b /\ w = rest := fun c2 rest q => by
        have q : a :: b :: w = mode c2.x :: NM c2.l :: rest := q
        injection q with q1 q2
        injection q2 with q2 q3
        rw [q1, q2]; exact ⟨rfl, q3⟩
      refine ⟨⟨by omega, by simp only [List.length_cons]; omega⟩, ⟨by simp, by omega⟩, Pg (by omega) (hp _ hlen) (fun x l _ hll _ hu => h 2 { c with x := x, l := l } (by simp only [List.length_cons]; omega) rfl (by show l.length <= 1000; omega) fun c2 rest _ s2 _ q => ?_) (fun hn => h 2 { c with x := false, l := [] } (by simp only [List.length_cons]; omega) rfl (by simp) fun c2 rest _ s2 _ q => ?_)⟩
      · obtain ⟨f1, f2⟩ := fits c2 rest q
        obtain ⟨u1, u2⟩ := hu _ _ (adn c2 s2) f1
        refine ⟨f2, ?_⟩
        rw [← u1, ← u2]; rfl
      · exact absurd (fits c2 rest q).1 (hn _ _ (adn c2 s2))
  · subst c9
    rw [wM]
    exact h1 { c with t := a } rfl hl (fun c2 _ _ _ _ s3 => by rw [s3]; rfl) (by decide)
  · exact h1 c rfl hl (fun c2 _ _ _ _ s3 => by
      rw [if_neg c0, if_neg c1, if_neg cc2, if_neg c3, if_neg c5, if_neg c4, if_neg c6, if_neg c7, if_neg c8, if_neg c9]) c8
end Go.Wk
