/- Plain words: the PW word on commands is the program's. -/
import Derived.Test.YtlnagjjldpgbpaaGreatDoorScD
set_option linter.unusedSimpArgs false
set_option linter.unusedVariables false
set_option linter.unusedSectionVars false
namespace Go.Wk
open Go.HL
variable [DM]
def Dn (c : Cm) : Bool := UL c && (YM c && (Xz c && (!decide ((je c.k).1 = []) && decide (outT c = c))))
theorem Rf {c : Cm} (h : c.k ∈ kinds) : kJ c = Dn c := by
  obtain ⟨k, nd, vl, po, n, b, g, s, x, l, t⟩ := c
  simp only [kinds, List.mem_cons, List.not_mem_nil, or_false] at h
  rw [Bool.eq_iff_iff]
  rcases h with rfl | rfl | rfl | rfl | rfl | rfl | rfl | rfl | rfl | rfl | rfl | rfl | rfl | rfl | rfl | rfl | rfl | rfl | rfl | rfl
  all_goals (simp [kJ, Dn, je, J9, Gw, zC, UL, YM, Xz, outT, IX, FQ, Dl, Jz, Jy, uP, Dk, Bi, Af, U4, GX, Jw, vlR, poR, nR, k0, k4, k5, Ls, Vo, Nk, U9, Ux, DZ, ND, Dj, IY])
  all_goals grind
theorem Xm {c : Cm} (h : kJ c = true) : Ry c ++ Y6 c = yz c (je c.k).2 := by
  have hk : c.k ∈ kinds := by
    unfold kJ at h
    simp only [Bool.and_eq_true, Bool.not_eq_true', decide_eq_false_iff_not] at h
    exact LC h.2.1
  obtain ⟨k, nd, vl, po, n, b, g, s, x, l, t⟩ := c
  simp only [kinds, List.mem_cons, List.not_mem_nil, or_false] at hk
  rcases hk with rfl | rfl | rfl | rfl | rfl | rfl | rfl | rfl | rfl | rfl | rfl | rfl | rfl | rfl | rfl | rfl | rfl | rfl | rfl | rfl
  all_goals (simp [kJ, je, Dj] at h)
  all_goals (simp [je, yz, x9, Ry, x0, x1, x2, x3, x4, x5, Y6, xA, xR, xS, xN, xF, xT, IX, FQ, Dl, Jz, Jy, uP, Dk, Bi, Af, U4, GX, VR, Ls, Wh])
  all_goals (try grind)
theorem QJ {c : Cm} {Q : QT} (hs : Sm c) (hl2 : c.l.length <= 100) (h : ∀ (s : Str) (o : Cm) (ok : Bool), s.length <= 100000 -> (ok = true -> o.l.length <= 1000) -> (kJ c = true -> s = yz c (je c.k).2 /\ o = c /\ ok = true) -> (kJ c = false -> ok = false ∨ o ≠ c) -> apT Q s o ok) :
    vS c.e c.g c.s c.x c.l c.t Q := by
  have i0 := vY hs.nd
  have i1 := vY hs.vl
  have i2 := vY hs.po
  have i3 := vY hs.n
  have e0 : (x0 c).length <= 22 := by
    unfold x0 VR; repeat' split
    all_goals (try simp only [List.length_cons, List.length_nil])
    all_goals omega
  have e1 : (x1 c).length <= 22 := by unfold x1; split <;> simp only [List.length_cons, List.length_nil] <;> omega
  have e2 : (x2 c).length <= 22 := by unfold x2; split <;> simp only [List.length_cons, List.length_nil] <;> omega
  have e3 : (x3 c).length <= 22 := by unfold x3; split <;> simp only [List.length_cons, List.length_nil] <;> omega
  have e4 : (x4 c).length <= 4001 := by
    have := CQ c.b
    have := hs.b
    unfold x4; repeat' split
    all_goals (try simp only [List.length_cons, List.length_nil])
    all_goals omega
  have e5 : (x5 c).length <= 4 := by
    unfold x5 Wh; repeat' split
    all_goals (try simp only [List.length_cons, List.length_nil])
    all_goals omega
  have eA : (Ry c).length <= 5000 := by unfold Ry; simp only [List.length_append]; omega
  have g2 : kJ c = true -> Dn c = true := fun q => by
    rw [← Rf ?_]; exact q
    unfold kJ at q
    simp only [Bool.and_eq_true, Bool.not_eq_true', decide_eq_false_iff_not] at q
    exact LC q.2.1
  have g3 : Dn c = true -> kJ c = true := fun q => by
    rw [Rf ?_]; exact q
    unfold Dn at q
    simp only [Bool.and_eq_true, Bool.not_eq_true', decide_eq_false_iff_not] at q
    exact LC q.2.2.2.1
  have bad : UL c = false -> aaF Q := fun q k n1 n2 n3 n4 b5 => h [] ⟨k, n1, n2, n3, n4, b5, (false, d16), (false, d16), false, [], []⟩ false (by simp) (fun z => by cases z) (fun z => by have := g2 z; unfold Dn at this; rw [q] at this; cases this) fun _ => .inl rfl
  unfold UL at bad
  refine tW (tj1 (tj2 (by omega) (fun a b => bad (by rw [a, b]; rfl)) fun r1 => tj5 (by simp only [List.length_append]; omega) (fun a b => bad (by rw [a, b]; simp)) fun r2 => tj8 hs (by simp only [List.length_append]; omega) (ae0 (by simp only [List.length_append]; omega) (fun a b => bad (by rw [a, b]; simp)) fun r3 => aeZ (by simp only [List.length_append]; omega) ?_)))
  have hr : UL c = true := by
    unfold UL
    cases a : FQ c
    · cases b : uP c
      · cases d : Dl c
        · rfl
        · rw [r3 d]; rfl
      · rw [r2 b]; cases d : Dl c
        · rfl
        · rw [r3 d]; rfl
    · rw [r1 a]; cases b : uP c
      · cases d : Dl c
        · rfl
        · rw [r3 d]; rfl
      · rw [r2 b]; cases d : Dl c
        · rfl
        · rw [r3 d]; rfl
  have fin : ∀ (s : Str) (o : Cm) (r : Bool), s.length <= 50000 -> (r = true -> o.l.length <= 1000) -> (Dn c = true -> s = Y6 c /\ o = c /\ r = true) -> (UL c = true -> YM c = true -> r = true -> (je c.k).1 ≠ [] -> o = c -> Dn c = true) ->
      (((Ry c).length : Int) + (s.length : Int) <= 9223372036854775807) /\ ((YM c = true -> (r = true -> zB c.k (fun Hl => apT Q (Ry c ++ s) o (!decide ((Hl : Str) = [])))) /\ (r = false -> apT Q (Ry c ++ s) o false)) /\ (YM c = false -> apT Q (Ry c ++ s) o false)) := by
    intro s o r hl hol hg hb
    have hq : ∀ ok, (ok = true -> o.l.length <= 1000) -> (Dn c = true -> ok = true) -> (Dn c = false -> ok = false ∨ o ≠ c) -> apT Q (Ry c ++ s) o ok := by
      intro ok a0 a b
      refine h _ _ _ (by rw [List.length_append]; omega) a0 (fun z => ?_) (fun z => b ?_)
      · have := hg (g2 z)
        exact ⟨by rw [this.1]; exact Xm z, this.2.1, a (g2 z)⟩
      · cases w : Dn c
        · rfl
        · rw [g3 w] at z; cases z
    refine ⟨by omega, fun a => ⟨fun b => SY (hq _ (fun _ => hol b) (fun z => ?_) (fun z => ?_)), fun b => hq _ (fun z => by cases z) (fun z => ?_) (fun z => .inl rfl)⟩, fun a => hq _ (fun z => by cases z) (fun z => ?_) (fun z => .inl rfl)⟩
    · unfold Dn at z
      simp only [Bool.and_eq_true, Bool.not_eq_true'] at z
      rw [z.2.2.2.1]; rfl
    · by_cases w : (je c.k).1 = []
      · exact .inl (by rw [decide_eq_true w]; rfl)
      · refine .inr fun q => ?_
        rw [hb hr a b w q] at z; cases z
    · have := (hg z).2.2; rw [b] at this; cases this
    · unfold Dn at z; rw [a, Bool.false_and, Bool.and_false] at z; cases z
  have h2 := AZ c.g
  have h3 := AZ c.s
  have h4 := Oj c.x c.l
  have h5 := hs.t
  have eX : (xA c).length <= 40000 := by
    unfold xA xR xS xN xF xT
    repeat' split
    all_goals (simp only [List.length_append, List.length_cons, List.length_nil])
    all_goals omega
  have ho : Dk c = true -> outT c = ⟨c.k, if IX c then c.nd else 0, if FQ c then c.vl else 0, if uP c then c.po else 0, if Jy c then c.n else if Dl c then c.n else 0, if Jz c then c.b else [], (false, d16), (false, d16), false, [], []⟩ := by
    intro a
    have q : ¬ GX c = true := fun q => by
      have := of_decide_eq_true q; have := of_decide_eq_true a; omega
    unfold outT
    rw [if_neg q, if_pos a, if_pos a, if_pos a, if_pos a, if_pos a]
  have ho2 : Dk c = false -> outT c = ⟨c.k, if GX c then c.nd else if IX c then c.nd else 0, if FQ c then c.vl else 0, if uP c then c.po else 0, if Jy c then c.n else if Dl c then c.n else 0, if Jz c then c.b else [], c.g, if Jw c then c.s else (false, d16), if Bi c then c.x else false, if Bi c then c.l else [], if Af c then c.t else []⟩ := by
    intro a
    have q : ¬ Dk c = true := by rw [a]; decide
    unfold outT
    rw [if_neg q, if_neg q, if_neg q, if_neg q, if_neg q]
  refine ZC (o := (false, d16)) (os := (false, d16)) hs hl2 (fun a => ?_) (fun a b => ?_) (fun a b => ?_)
  · refine fin [] ⟨c.k, if IX c then c.nd else 0, if FQ c then c.vl else 0, if uP c then c.po else 0, if Jy c then c.n else if Dl c then c.n else 0, if Jz c then c.b else [], (false, d16), (false, d16), false, [], []⟩ true (by simp) (fun _ => by simp) (fun z => ?_) (fun _ hk _ w q => ?_)
    · unfold Dn at z
      simp only [Bool.and_eq_true, decide_eq_true_eq] at z
      refine ⟨by unfold Y6; rw [if_pos a], ?_, rfl⟩
      exact (ho a).symm.trans z.2.2.2.2
    · unfold Dn Xz
      rw [hr, hk, if_pos a, decide_eq_false w, decide_eq_true ((ho a).trans q)]; rfl
  · intro s n1 g1 g2' s1 s2 x l t hl
    exact fin s ⟨_, _, _, _, _, _, (g1, g2'), (s1, s2), x, l, t⟩ false (by omega) (fun z => by cases z) (fun z => by
      unfold Dn Xz at z
      rw [a, b] at z; simp at z) (fun _ _ q => by cases q)
  · refine fin (xA c) ⟨c.k, if GX c then c.nd else if IX c then c.nd else 0, if FQ c then c.vl else 0, if uP c then c.po else 0, if Jy c then c.n else if Dl c then c.n else 0, if Jz c then c.b else [], c.g, if Jw c then c.s else (false, d16), if Bi c then c.x else false, if Bi c then c.l else [], if Af c then c.t else []⟩ (!Af c || ug c.t) (by omega) (fun _ => by show (if Bi c then c.l else []).length <= 1000; split; exact Nat.le_trans hl2 (by decide); exact Nat.zero_le _) (fun z => ?_) (fun _ hk r w q => ?_)
    · unfold Dn Xz at z
      rw [if_neg (by rw [a]; decide)] at z
      simp only [Bool.and_eq_true, decide_eq_true_eq] at z
      refine ⟨by unfold Y6; rw [if_neg (by rw [a]; decide)], ?_, z.2.2.1.2⟩
      exact (ho2 a).symm.trans z.2.2.2.2
    · unfold Dn Xz
      rw [hr, hk, if_neg (by rw [a]; decide), b, r, decide_eq_false w, decide_eq_true ((ho2 a).trans q)]; rfl
theorem ab9 {c : Cm} (hs : Sm c) (hl2 : c.l.length <= 100) {Q : Bool -> Prop} (h : Q (kJ c)) : EX c.e c.g c.s c.x c.l c.t Q := by
  refine QJ hs hl2 fun s o ok hl h0 h1 h2 => ⟨fun a => ?_, fun a => ?_⟩
  · cases q : kJ c
    · rcases h2 q with z | z
      · rw [a] at z; cases z
      · refine RU (a := o) (b := c) (h0 a) ?_
        rw [decide_eq_false z]; rw [q] at h; exact h
    · have := (h1 q).2.1
      subst this
      refine RU (a := o) (b := o) hs.l ?_
      rw [decide_eq_true rfl]; rw [q] at h; exact h
  · cases q : kJ c
    · rw [q] at h; exact h
    · have := (h1 q).2.2; rw [a] at this; cases this
theorem VM {c : Cm} (hs : Sm c) (hl2 : c.l.length <= 100) {Q : Str -> Prop} (h : ∀ r : Str, r.length <= 100010 -> (kJ c = true -> r = qA c) -> Q r) : Ap c.e c.g c.s c.x c.l c.t Q := by
  refine QJ hs hl2 fun s o ok hl h0 h1 h2 => ?_
  unfold apT
  refine SY (k := c.k) ?_
  have hf := (JE c.k).1
  refine ⟨by show ((je c.k).1.length : Int) + _ <= _; omega, h _ (by rw [List.length_append]; show (je c.k).1.length + _ <= _; omega) fun q => ?_⟩
  rw [(h1 q).1]; rfl
end Go.Wk
