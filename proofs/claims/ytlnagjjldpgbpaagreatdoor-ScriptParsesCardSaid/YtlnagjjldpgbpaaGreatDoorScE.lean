/- Plain words: the axf word on commands is the program's. -/
import Derived.Test.YtlnagjjldpgbpaaGreatDoorScD
set_option linter.unusedSimpArgs false
set_option linter.unusedVariables false
set_option linter.unusedSectionVars false
namespace Go.Wk
open Go.HL
variable [DM]
def alx (c : Cm) : Bool := a1y c && (a7y c && (a6a c && (!decide ((xq c.k).1 = []) && decide (outT c = c))))
theorem ayw {c : Cm} (h : c.k ∈ kinds) : ac2 c = alx c := by
  obtain ⟨k, nd, vl, po, n, b, g, s, x, l, t⟩ := c
  simp only [kinds, List.mem_cons, List.not_mem_nil, or_false] at h
  rw [Bool.eq_iff_iff]
  rcases h with rfl | rfl | rfl | rfl | rfl | rfl | rfl | rfl | rfl | rfl | rfl | rfl | rfl | rfl | rfl | rfl | rfl | rfl | rfl | rfl
  all_goals (simp [ac2, alx, xq, asg, ao2, zC, a1y, a7y, a6a, outT, aqt, aod, alv, arn, arl, afw, alu, akb, ajf, a2i, apd, ark, vlR, poR, nR, k0, k4, k5, ati, a2v, au0, a2l, a1p, amn, au4, als, aqu])
  all_goals grind
theorem a5t {c : Cm} (h : ac2 c = true) : ay9 c ++ a8u c = aki c (xq c.k).2 := by
  have hk : c.k ∈ kinds := by
    unfold ac2 at h
    simp only [Bool.and_eq_true, Bool.not_eq_true', decide_eq_false_iff_not] at h
    exact atq h.2.1
  obtain ⟨k, nd, vl, po, n, b, g, s, x, l, t⟩ := c
  simp only [kinds, List.mem_cons, List.not_mem_nil, or_false] at hk
  rcases hk with rfl | rfl | rfl | rfl | rfl | rfl | rfl | rfl | rfl | rfl | rfl | rfl | rfl | rfl | rfl | rfl | rfl | rfl | rfl | rfl
  all_goals (simp [ac2, xq, als] at h)
  all_goals (simp [xq, aki, aoq, ay9, x0, x1, x2, x3, x4, x5, a8u, xA, xR, xS, xN, xF, xT, aqt, aod, alv, arn, arl, afw, alu, akb, ajf, a2i, apd, a3u, ati, a4h])
  all_goals (try grind)
theorem ayd {c : Cm} {Q : QT} (hs : Sm c) (hl2 : c.l.length <= 100) (h : ∀ (s : Str) (o : Cm) (ok : Bool), s.length <= 100000 -> (ok = true -> o.l.length <= 1000) -> (ac2 c = true -> s = aki c (xq c.k).2 /\ o = c /\ ok = true) -> (ac2 c = false -> ok = false ∨ o ≠ c) -> apT Q s o ok) :
    agl c.e c.g c.s c.x c.l c.t Q := by
  have i0 := alb hs.nd
  have i1 := alb hs.vl
  have i2 := alb hs.po
  have i3 := alb hs.n
  have e0 : (x0 c).length <= 22 := by
    unfold x0 a3u; repeat' split
    all_goals (try simp only [List.length_cons, List.length_nil])
    all_goals omega
  have e1 : (x1 c).length <= 22 := by unfold x1; split <;> simp only [List.length_cons, List.length_nil] <;> omega
  have e2 : (x2 c).length <= 22 := by unfold x2; split <;> simp only [List.length_cons, List.length_nil] <;> omega
  have e3 : (x3 c).length <= 22 := by unfold x3; split <;> simp only [List.length_cons, List.length_nil] <;> omega
  have e4 : (x4 c).length <= 4001 := by
    have := amz c.b
    have := hs.b
    unfold x4; repeat' split
    all_goals (try simp only [List.length_cons, List.length_nil])
    all_goals omega
  have e5 : (x5 c).length <= 4 := by
    unfold x5 a4h; repeat' split
    all_goals (try simp only [List.length_cons, List.length_nil])
    all_goals omega
  have eA : (ay9 c).length <= 5000 := by unfold ay9; simp only [List.length_append]; omega
  have g2 : ac2 c = true -> alx c = true := fun q => by
    rw [← ayw ?_]; exact q
    unfold ac2 at q
    simp only [Bool.and_eq_true, Bool.not_eq_true', decide_eq_false_iff_not] at q
    exact atq q.2.1
  have g3 : alx c = true -> ac2 c = true := fun q => by
    rw [ayw ?_]; exact q
    unfold alx at q
    simp only [Bool.and_eq_true, Bool.not_eq_true', decide_eq_false_iff_not] at q
    exact atq q.2.2.2.1
  have bad : a1y c = false -> bbn Q := fun q k n1 n2 n3 n4 b5 => h [] ⟨k, n1, n2, n3, n4, b5, (false, d16), (false, d16), false, [], []⟩ false (by simp) (fun z => by cases z) (fun z => by have := g2 z; unfold alx at this; rw [q] at this; cases this) fun _ => .inl rfl
  unfold a1y at bad
  refine tW (tj1 (tj2 (by omega) (fun a b => bad (by rw [a, b]; rfl)) fun r1 => tj5 (by simp only [List.length_append]; omega) (fun a b => bad (by rw [a, b]; simp)) fun r2 => tj8 hs (by simp only [List.length_append]; omega) (bh0 (by simp only [List.length_append]; omega) (fun a b => bad (by rw [a, b]; simp)) fun r3 => bhz (by simp only [List.length_append]; omega) ?_)))
  have hr : a1y c = true := by
    unfold a1y
    cases a : aod c
    · cases b : afw c
      · cases d : alv c
        · rfl
        · rw [r3 d]; rfl
      · rw [r2 b]; cases d : alv c
        · rfl
        · rw [r3 d]; rfl
    · rw [r1 a]; cases b : afw c
      · cases d : alv c
        · rfl
        · rw [r3 d]; rfl
      · rw [r2 b]; cases d : alv c
        · rfl
        · rw [r3 d]; rfl
  have fin : ∀ (s : Str) (o : Cm) (r : Bool), s.length <= 50000 -> (r = true -> o.l.length <= 1000) -> (alx c = true -> s = a8u c /\ o = c /\ r = true) -> (a1y c = true -> a7y c = true -> r = true -> (xq c.k).1 ≠ [] -> o = c -> alx c = true) ->
      (((ay9 c).length : Int) + (s.length : Int) <= 9223372036854775807) /\ ((a7y c = true -> (r = true -> aiz c.k (fun r_6 => apT Q (ay9 c ++ s) o (!decide ((r_6 : Str) = [])))) /\ (r = false -> apT Q (ay9 c ++ s) o false)) /\ (a7y c = false -> apT Q (ay9 c ++ s) o false)) := by
    intro s o r hl hol hg hb
    have hq : ∀ ok, (ok = true -> o.l.length <= 1000) -> (alx c = true -> ok = true) -> (alx c = false -> ok = false ∨ o ≠ c) -> apT Q (ay9 c ++ s) o ok := by
      intro ok a0 a b
      refine h _ _ _ (by rw [List.length_append]; omega) a0 (fun z => ?_) (fun z => b ?_)
      · have := hg (g2 z)
        exact ⟨by rw [this.1]; exact a5t z, this.2.1, a (g2 z)⟩
      · cases w : alx c
        · rfl
        · rw [g3 w] at z; cases z
    refine ⟨by omega, fun a => ⟨fun b => az9 (hq _ (fun _ => hol b) (fun z => ?_) (fun z => ?_)), fun b => hq _ (fun z => by cases z) (fun z => ?_) (fun z => .inl rfl)⟩, fun a => hq _ (fun z => by cases z) (fun z => ?_) (fun z => .inl rfl)⟩
    · unfold alx at z
      simp only [Bool.and_eq_true, Bool.not_eq_true'] at z
      rw [z.2.2.2.1]; rfl
    · by_cases w : (xq c.k).1 = []
      · exact .inl (by rw [decide_eq_true w]; rfl)
      · refine .inr fun q => ?_
        rw [hb hr a b w q] at z; cases z
    · have := (hg z).2.2; rw [b] at this; cases this
    · unfold alx at z; rw [a, Bool.false_and, Bool.and_false] at z; cases z
  have h2 := al7 c.g
  have h3 := al7 c.s
  have h4 := azf c.x c.l
  have h5 := hs.t
  have eX : (xA c).length <= 40000 := by
    unfold xA xR xS xN xF xT
    repeat' split
    all_goals (simp only [List.length_append, List.length_cons, List.length_nil])
    all_goals omega
  have ho : alu c = true -> outT c = ⟨c.k, if aqt c then c.nd else 0, if aod c then c.vl else 0, if afw c then c.po else 0, if arl c then c.n else if alv c then c.n else 0, if arn c then c.b else [], (false, d16), (false, d16), false, [], []⟩ := by
    intro a
    have q : ¬ apd c = true := fun q => by
      have := of_decide_eq_true q; have := of_decide_eq_true a; omega
    unfold outT
    rw [if_neg q, if_pos a, if_pos a, if_pos a, if_pos a, if_pos a]
  have ho2 : alu c = false -> outT c = ⟨c.k, if apd c then c.nd else if aqt c then c.nd else 0, if aod c then c.vl else 0, if afw c then c.po else 0, if arl c then c.n else if alv c then c.n else 0, if arn c then c.b else [], c.g, if ark c then c.s else (false, d16), if akb c then c.x else false, if akb c then c.l else [], if ajf c then c.t else []⟩ := by
    intro a
    have q : ¬ alu c = true := by rw [a]; decide
    unfold outT
    rw [if_neg q, if_neg q, if_neg q, if_neg q, if_neg q]
  refine a9y (o := (false, d16)) (os := (false, d16)) hs hl2 (fun a => ?_) (fun a b => ?_) (fun a b => ?_)
  · refine fin [] ⟨c.k, if aqt c then c.nd else 0, if aod c then c.vl else 0, if afw c then c.po else 0, if arl c then c.n else if alv c then c.n else 0, if arn c then c.b else [], (false, d16), (false, d16), false, [], []⟩ true (by simp) (fun _ => by simp) (fun z => ?_) (fun _ hk _ w q => ?_)
    · unfold alx at z
      simp only [Bool.and_eq_true, decide_eq_true_eq] at z
      refine ⟨by unfold a8u; rw [if_pos a], ?_, rfl⟩
      exact (ho a).symm.trans z.2.2.2.2
    · unfold alx a6a
      rw [hr, hk, if_pos a, decide_eq_false w, decide_eq_true ((ho a).trans q)]; rfl
  · intro s n1 g1 g2' s1 s2 x l t hl
    exact fin s ⟨_, _, _, _, _, _, (g1, g2'), (s1, s2), x, l, t⟩ false (by omega) (fun z => by cases z) (fun z => by
      unfold alx a6a at z
      rw [a, b] at z; simp at z) (fun _ _ q => by cases q)
  · refine fin (xA c) ⟨c.k, if apd c then c.nd else if aqt c then c.nd else 0, if aod c then c.vl else 0, if afw c then c.po else 0, if arl c then c.n else if alv c then c.n else 0, if arn c then c.b else [], c.g, if ark c then c.s else (false, d16), if akb c then c.x else false, if akb c then c.l else [], if ajf c then c.t else []⟩ (!ajf c || af2 c.t) (by omega) (fun _ => by show (if akb c then c.l else []).length <= 1000; split; exact Nat.le_trans hl2 (by decide); exact Nat.zero_le _) (fun z => ?_) (fun _ hk r w q => ?_)
    · unfold alx a6a at z
      rw [if_neg (by rw [a]; decide)] at z
      simp only [Bool.and_eq_true, decide_eq_true_eq] at z
      refine ⟨by unfold a8u; rw [if_neg (by rw [a]; decide)], ?_, z.2.2.1.2⟩
      exact (ho2 a).symm.trans z.2.2.2.2
    · unfold alx a6a
      rw [hr, hk, if_neg (by rw [a]; decide), b, r, decide_eq_false w, decide_eq_true ((ho2 a).trans q)]; rfl
theorem bdv {c : Cm} (hs : Sm c) (hl2 : c.l.length <= 100) {Q : Bool -> Prop} (h : Q (ac2 c)) : ant c.e c.g c.s c.x c.l c.t Q := by
  refine ayd hs hl2 fun s o ok hl h0 h1 h2 => ⟨fun a => ?_, fun a => ?_⟩
  · cases q : ac2 c
    · rcases h2 q with z | z
      · rw [a] at z; cases z
      · refine a1t (a := o) (b := c) (h0 a) ?_
        rw [decide_eq_false z]; rw [q] at h; exact h
    · have := (h1 q).2.1
      subst this
      refine a1t (a := o) (b := o) hs.l ?_
      rw [decide_eq_true rfl]; rw [q] at h; exact h
  · cases q : ac2 c
    · rw [q] at h; exact h
    · have := (h1 q).2.2; rw [a] at this; cases this
theorem bat {c : Cm} (hs : Sm c) (hl2 : c.l.length <= 100) {Q : Str -> Prop} (h : ∀ r : Str, r.length <= 100010 -> (ac2 c = true -> r = apl c) -> Q r) : amj c.e c.g c.s c.x c.l c.t Q := by
  refine ayd hs hl2 fun s o ok hl h0 h1 h2 => ?_
  unfold apT
  refine az9 (k := c.k) ?_
  have hf := (atp c.k).1
  refine ⟨by show ((xq c.k).1.length : Int) + _ <= _; omega, h _ (by rw [List.length_append]; show (xq c.k).1.length + _ <= _; omega) fun q => ?_⟩
  rw [(h1 q).1]; rfl
end Go.Wk
