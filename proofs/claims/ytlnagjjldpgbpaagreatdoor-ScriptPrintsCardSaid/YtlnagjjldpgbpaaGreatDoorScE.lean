/- Plain words: the OQ word on commands is the program's. -/
import Derived.Test.YtlnagjjldpgbpaaGreatDoorScD
set_option linter.unusedSimpArgs false
set_option linter.unusedVariables false
set_option linter.unusedSectionVars false
namespace Go.Wk
open Go.HL
variable [DM]
def CG (c : Cm) : Bool := Uk c && (Yz c && (WS c && (!decide ((jo c.k).1 = []) && decide (outT c = c))))
theorem Qi {c : Cm} (h : c.k ∈ kinds) : mY c = CG c := by
  obtain ⟨k, nd, vl, po, n, b, g, s, x, l, t⟩ := c
  simp only [kinds, List.mem_cons, List.not_mem_nil, or_false] at h
  rw [Bool.eq_iff_iff]
  rcases h with rfl | rfl | rfl | rfl | rfl | rfl | rfl | rfl | rfl | rfl | rfl | rfl | rfl | rfl | rfl | rfl | rfl | rfl | rfl | rfl
  all_goals (simp [mY, CG, jo, KH, GR, zC, Uk, Yz, WS, outT, Io, E5, CB, Ja, I9, uI, Cj, AA, zD, UD, Gn, I8, vlR, poR, nR, k0, k4, k5, KF, UZ, L8, UI, TF, Dt, MC, Dy, Jb])
  all_goals grind
theorem WH {c : Cm} (h : mY c = true) : Qy c ++ YV c = zq c (jo c.k).2 := by
  have hk : c.k ∈ kinds := by
    unfold mY at h
    simp only [Bool.and_eq_true, Bool.not_eq_true', decide_eq_false_iff_not] at h
    exact KO h.2.1
  obtain ⟨k, nd, vl, po, n, b, g, s, x, l, t⟩ := c
  simp only [kinds, List.mem_cons, List.not_mem_nil, or_false] at hk
  rcases hk with rfl | rfl | rfl | rfl | rfl | rfl | rfl | rfl | rfl | rfl | rfl | rfl | rfl | rfl | rfl | rfl | rfl | rfl | rfl | rfl
  all_goals (simp [mY, jo, Dy] at h)
  all_goals (simp [jo, zq, zo, Qy, x0, x1, x2, x3, x4, x5, YV, xA, xR, xS, xN, xF, xT, Io, E5, CB, Ja, I9, uI, Cj, AA, zD, UD, Gn, Vs, KF, VI])
  all_goals (try grind)
theorem PQ {c : Cm} {Q : QT} (hs : Sm c) (hl2 : c.l.length <= 100) (h : ∀ (s : Str) (o : Cm) (ok : Bool), s.length <= 100000 -> (ok = true -> o.l.length <= 1000) -> (mY c = true -> s = zq c (jo c.k).2 /\ o = c /\ ok = true) -> (mY c = false -> ok = false ∨ o ≠ c) -> apT Q s o ok) :
    vH c.e c.g c.s c.x c.l c.t Q := by
  have i0 := vT hs.nd
  have i1 := vT hs.vl
  have i2 := vT hs.po
  have i3 := vT hs.n
  have e0 : (x0 c).length <= 22 := by
    unfold x0 Vs; repeat' split
    all_goals (try simp only [List.length_cons, List.length_nil])
    all_goals omega
  have e1 : (x1 c).length <= 22 := by unfold x1; split <;> simp only [List.length_cons, List.length_nil] <;> omega
  have e2 : (x2 c).length <= 22 := by unfold x2; split <;> simp only [List.length_cons, List.length_nil] <;> omega
  have e3 : (x3 c).length <= 22 := by unfold x3; split <;> simp only [List.length_cons, List.length_nil] <;> omega
  have e4 : (x4 c).length <= 4001 := by
    have := BQ c.b
    have := hs.b
    unfold x4; repeat' split
    all_goals (try simp only [List.length_cons, List.length_nil])
    all_goals omega
  have e5 : (x5 c).length <= 4 := by
    unfold x5 VI; repeat' split
    all_goals (try simp only [List.length_cons, List.length_nil])
    all_goals omega
  have eA : (Qy c).length <= 5000 := by unfold Qy; simp only [List.length_append]; omega
  have g2 : mY c = true -> CG c = true := fun q => by
    rw [← Qi ?_]; exact q
    unfold mY at q
    simp only [Bool.and_eq_true, Bool.not_eq_true', decide_eq_false_iff_not] at q
    exact KO q.2.1
  have g3 : CG c = true -> mY c = true := fun q => by
    rw [Qi ?_]; exact q
    unfold CG at q
    simp only [Bool.and_eq_true, Bool.not_eq_true', decide_eq_false_iff_not] at q
    exact KO q.2.2.2.1
  have bad : Uk c = false -> aaw Q := fun q k n1 n2 n3 n4 b5 => h [] ⟨k, n1, n2, n3, n4, b5, (false, d16), (false, d16), false, [], []⟩ false (by simp) (fun z => by cases z) (fun z => by have := g2 z; unfold CG at this; rw [q] at this; cases this) fun _ => .inl rfl
  unfold Uk at bad
  refine tW (tj1 (tj2 (by omega) (fun a b => bad (by rw [a, b]; rfl)) fun r1 => tj5 (by simp only [List.length_append]; omega) (fun a b => bad (by rw [a, b]; simp)) fun r2 => tj8 hs (by simp only [List.length_append]; omega) (ae9 (by simp only [List.length_append]; omega) (fun a b => bad (by rw [a, b]; simp)) fun r3 => ae8 (by simp only [List.length_append]; omega) ?_)))
  have hr : Uk c = true := by
    unfold Uk
    cases a : E5 c
    · cases b : uI c
      · cases d : CB c
        · rfl
        · rw [r3 d]; rfl
      · rw [r2 b]; cases d : CB c
        · rfl
        · rw [r3 d]; rfl
    · rw [r1 a]; cases b : uI c
      · cases d : CB c
        · rfl
        · rw [r3 d]; rfl
      · rw [r2 b]; cases d : CB c
        · rfl
        · rw [r3 d]; rfl
  have fin : ∀ (s : Str) (o : Cm) (r : Bool), s.length <= 50000 -> (r = true -> o.l.length <= 1000) -> (CG c = true -> s = YV c /\ o = c /\ r = true) -> (Uk c = true -> Yz c = true -> r = true -> (jo c.k).1 ≠ [] -> o = c -> CG c = true) ->
      (((Qy c).length : Int) + (s.length : Int) <= 9223372036854775807) /\ ((Yz c = true -> (r = true -> wu c.k (fun Gj => apT Q (Qy c ++ s) o (!decide ((Gj : Str) = [])))) /\ (r = false -> apT Q (Qy c ++ s) o false)) /\ (Yz c = false -> apT Q (Qy c ++ s) o false)) := by
    intro s o r hl hol hg hb
    have hq : ∀ ok, (ok = true -> o.l.length <= 1000) -> (CG c = true -> ok = true) -> (CG c = false -> ok = false ∨ o ≠ c) -> apT Q (Qy c ++ s) o ok := by
      intro ok a0 a b
      refine h _ _ _ (by rw [List.length_append]; omega) a0 (fun z => ?_) (fun z => b ?_)
      · have := hg (g2 z)
        exact ⟨by rw [this.1]; exact WH z, this.2.1, a (g2 z)⟩
      · cases w : CG c
        · rfl
        · rw [g3 w] at z; cases z
    refine ⟨by omega, fun a => ⟨fun b => Kq (hq _ (fun _ => hol b) (fun z => ?_) (fun z => ?_)), fun b => hq _ (fun z => by cases z) (fun z => ?_) (fun z => .inl rfl)⟩, fun a => hq _ (fun z => by cases z) (fun z => ?_) (fun z => .inl rfl)⟩
    · unfold CG at z
      simp only [Bool.and_eq_true, Bool.not_eq_true'] at z
      rw [z.2.2.2.1]; rfl
    · by_cases w : (jo c.k).1 = []
      · exact .inl (by rw [decide_eq_true w]; rfl)
      · refine .inr fun q => ?_
        rw [hb hr a b w q] at z; cases z
    · have := (hg z).2.2; rw [b] at this; cases this
    · unfold CG at z; rw [a, Bool.false_and, Bool.and_false] at z; cases z
  have h2 := Ah c.g
  have h3 := Ah c.s
  have h4 := Nk c.x c.l
  have h5 := hs.t
  have eX : (xA c).length <= 40000 := by
    unfold xA xR xS xN xF xT
    repeat' split
    all_goals (simp only [List.length_append, List.length_cons, List.length_nil])
    all_goals omega
  have ho : Cj c = true -> outT c = ⟨c.k, if Io c then c.nd else 0, if E5 c then c.vl else 0, if uI c then c.po else 0, if I9 c then c.n else if CB c then c.n else 0, if Ja c then c.b else [], (false, d16), (false, d16), false, [], []⟩ := by
    intro a
    have q : ¬ Gn c = true := fun q => by
      have := of_decide_eq_true q; have := of_decide_eq_true a; omega
    unfold outT
    rw [if_neg q, if_pos a, if_pos a, if_pos a, if_pos a, if_pos a]
  have ho2 : Cj c = false -> outT c = ⟨c.k, if Gn c then c.nd else if Io c then c.nd else 0, if E5 c then c.vl else 0, if uI c then c.po else 0, if I9 c then c.n else if CB c then c.n else 0, if Ja c then c.b else [], c.g, if I8 c then c.s else (false, d16), if AA c then c.x else false, if AA c then c.l else [], if zD c then c.t else []⟩ := by
    intro a
    have q : ¬ Cj c = true := by rw [a]; decide
    unfold outT
    rw [if_neg q, if_neg q, if_neg q, if_neg q, if_neg q]
  refine Zt (o := (false, d16)) (os := (false, d16)) hs hl2 (fun a => ?_) (fun a b => ?_) (fun a b => ?_)
  · refine fin [] ⟨c.k, if Io c then c.nd else 0, if E5 c then c.vl else 0, if uI c then c.po else 0, if I9 c then c.n else if CB c then c.n else 0, if Ja c then c.b else [], (false, d16), (false, d16), false, [], []⟩ true (by simp) (fun _ => by simp) (fun z => ?_) (fun _ hk _ w q => ?_)
    · unfold CG at z
      simp only [Bool.and_eq_true, decide_eq_true_eq] at z
      refine ⟨by unfold YV; rw [if_pos a], ?_, rfl⟩
      exact (ho a).symm.trans z.2.2.2.2
    · unfold CG WS
      rw [hr, hk, if_pos a, decide_eq_false w, decide_eq_true ((ho a).trans q)]; rfl
  · intro s n1 g1 g2' s1 s2 x l t hl
    exact fin s ⟨_, _, _, _, _, _, (g1, g2'), (s1, s2), x, l, t⟩ false (by omega) (fun z => by cases z) (fun z => by
      unfold CG WS at z
      rw [a, b] at z; simp at z) (fun _ _ q => by cases q)
  · refine fin (xA c) ⟨c.k, if Gn c then c.nd else if Io c then c.nd else 0, if E5 c then c.vl else 0, if uI c then c.po else 0, if I9 c then c.n else if CB c then c.n else 0, if Ja c then c.b else [], c.g, if I8 c then c.s else (false, d16), if AA c then c.x else false, if AA c then c.l else [], if zD c then c.t else []⟩ (!zD c || vM c.t) (by omega) (fun _ => by show (if AA c then c.l else []).length <= 1000; split; exact Nat.le_trans hl2 (by decide); exact Nat.zero_le _) (fun z => ?_) (fun _ hk r w q => ?_)
    · unfold CG WS at z
      rw [if_neg (by rw [a]; decide)] at z
      simp only [Bool.and_eq_true, decide_eq_true_eq] at z
      refine ⟨by unfold YV; rw [if_neg (by rw [a]; decide)], ?_, z.2.2.1.2⟩
      exact (ho2 a).symm.trans z.2.2.2.2
    · unfold CG WS
      rw [hr, hk, if_neg (by rw [a]; decide), b, r, decide_eq_false w, decide_eq_true ((ho2 a).trans q)]; rfl
theorem UJ {c : Cm} (hs : Sm c) (hl2 : c.l.length <= 100) {Q : Bool -> Prop} (h : Q (mY c)) : Bl c.e c.g c.s c.x c.l c.t Q := by
  refine PQ hs hl2 fun s o ok hl h0 h1 h2 => ⟨fun a => ?_, fun a => ?_⟩
  · cases q : mY c
    · rcases h2 q with z | z
      · rw [a] at z; cases z
      · refine NW (a := o) (b := c) (h0 a) ?_
        rw [decide_eq_false z]; rw [q] at h; exact h
    · have := (h1 q).2.1
      subst this
      refine NW (a := o) (b := o) hs.l ?_
      rw [decide_eq_true rfl]; rw [q] at h; exact h
  · cases q : mY c
    · rw [q] at h; exact h
    · have := (h1 q).2.2; rw [a] at this; cases this
theorem Vm {c : Cm} (hs : Sm c) (hl2 : c.l.length <= 100) {Q : Str -> Prop} (h : ∀ r : Str, r.length <= 100010 -> (mY c = true -> r = CE c) -> Q r) : zN c.e c.g c.s c.x c.l c.t Q := by
  refine PQ hs hl2 fun s o ok hl h0 h1 h2 => ?_
  unfold apT
  refine Kq (k := c.k) ?_
  have hf := (KN c.k).1
  refine ⟨by show ((jo c.k).1.length : Int) + _ <= _; omega, h _ (by rw [List.length_append]; show (jo c.k).1.length + _ <= _; omega) fun q => ?_⟩
  rw [(h1 q).1]; rfl
end Go.Wk
