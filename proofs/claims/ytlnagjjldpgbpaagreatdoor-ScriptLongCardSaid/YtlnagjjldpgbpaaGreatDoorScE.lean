/- Plain words: the NQ word on commands is the program's. -/
import Derived.Test.YtlnagjjldpgbpaaGreatDoorScD
set_option linter.unusedSimpArgs false
set_option linter.unusedVariables false
set_option linter.unusedSectionVars false
namespace Go.Wk
open Go.HL
variable [DM]
def Az (c : Cm) : Bool := RS c && (WI c && (Vq c && (!decide ((iq c.k).1 = []) && decide (outT c = c))))
theorem O9 {c : Cm} (h : c.k ∈ kinds) : jY c = Az c := by
  obtain ⟨k, nd, vl, po, n, b, g, s, x, l, t⟩ := c
  simp only [kinds, List.mem_cons, List.not_mem_nil, or_false] at h
  rw [Bool.eq_iff_iff]
  rcases h with rfl | rfl | rfl | rfl | rfl | rfl | rfl | rfl | rfl | rfl | rfl | rfl | rfl | rfl | rfl | rfl | rfl | rfl | rfl | rfl
  all_goals (simp [jY, Az, iq, Ju, EW, zC, RS, WI, Vq, outT, Gi, DL, Ar, Ho, Hm, rV, Aq, yN, xM, SE, ED, Hl, YJ, YV, nR, k0, k4, k5, Jr, Td, KF, SK, RD, Bo, KR, BA, Hq])
  all_goals grind
theorem Vd {c : Cm} (h : jY c = true) : PE c ++ Xe c = xO c (iq c.k).2 := by
  have hk : c.k ∈ kinds := by
    unfold jY at h
    simp only [Bool.and_eq_true, Bool.not_eq_true', decide_eq_false_iff_not] at h
    exact JC h.2.1
  obtain ⟨k, nd, vl, po, n, b, g, s, x, l, t⟩ := c
  simp only [kinds, List.mem_cons, List.not_mem_nil, or_false] at hk
  rcases hk with rfl | rfl | rfl | rfl | rfl | rfl | rfl | rfl | rfl | rfl | rfl | rfl | rfl | rfl | rfl | rfl | rfl | rfl | rfl | rfl
  all_goals (simp [jY, iq, BA] at h)
  all_goals (simp [iq, xO, CP, PE, x0, x1, x2, x3, x4, x5, Xe, xA, xR, xS, xN, xF, xT, Gi, DL, Ar, Ho, Hm, rV, Aq, yN, xM, SE, ED, TW, Jr, Un])
  all_goals (try grind)
theorem UM {c : Cm} {Q : QT} (hs : Sm c) (hl2 : c.l.length <= 100) (h : ∀ (s : Str) (o : Cm) (ok : Bool), s.length <= 100000 -> (ok = true -> o.l.length <= 1000) -> (jY c = true -> s = xO c (iq c.k).2 /\ o = c /\ ok = true) -> (jY c = false -> ok = false ∨ o ≠ c) -> apT Q s o ok) :
    wu c.e c.g c.s c.x c.l c.t Q := by
  have i0 := zO hs.nd
  have i1 := zO hs.vl
  have i2 := zO hs.po
  have i3 := zO hs.n
  have e0 : (x0 c).length <= 22 := by
    unfold x0 TW; repeat' split
    all_goals (try simp only [List.length_cons, List.length_nil])
    all_goals omega
  have e1 : (x1 c).length <= 22 := by unfold x1; split <;> simp only [List.length_cons, List.length_nil] <;> omega
  have e2 : (x2 c).length <= 22 := by unfold x2; split <;> simp only [List.length_cons, List.length_nil] <;> omega
  have e3 : (x3 c).length <= 22 := by unfold x3; split <;> simp only [List.length_cons, List.length_nil] <;> omega
  have e4 : (x4 c).length <= 4001 := by
    have := BJ c.b
    have := hs.b
    unfold x4; repeat' split
    all_goals (try simp only [List.length_cons, List.length_nil])
    all_goals omega
  have e5 : (x5 c).length <= 4 := by
    unfold x5 Un; repeat' split
    all_goals (try simp only [List.length_cons, List.length_nil])
    all_goals omega
  have eA : (PE c).length <= 5000 := by unfold PE; simp only [List.length_append]; omega
  have g2 : jY c = true -> Az c = true := fun q => by
    rw [← O9 ?_]; exact q
    unfold jY at q
    simp only [Bool.and_eq_true, Bool.not_eq_true', decide_eq_false_iff_not] at q
    exact JC q.2.1
  have g3 : Az c = true -> jY c = true := fun q => by
    rw [O9 ?_]; exact q
    unfold Az at q
    simp only [Bool.and_eq_true, Bool.not_eq_true', decide_eq_false_iff_not] at q
    exact JC q.2.2.2.1
  have bad : RS c = false -> YI Q := fun q k n1 n2 n3 n4 b5 => h [] ⟨k, n1, n2, n3, n4, b5, (false, d16), (false, d16), false, [], []⟩ false (by simp) (fun z => by cases z) (fun z => by have := g2 z; unfold Az at this; rw [q] at this; cases this) fun _ => .inl rfl
  unfold RS at bad
  refine tW (tj1 (tj2 (by omega) (fun a b => bad (by rw [a, b]; rfl)) fun r1 => tj5 (by simp only [List.length_append]; omega) (fun a b => bad (by rw [a, b]; simp)) fun r2 => tj8 hs (by simp only [List.length_append]; omega) (acR (by simp only [List.length_append]; omega) (fun a b => bad (by rw [a, b]; simp)) fun r3 => acQ (by simp only [List.length_append]; omega) ?_)))
  have hr : RS c = true := by
    unfold RS
    cases a : DL c
    · cases b : rV c
      · cases d : Ar c
        · rfl
        · rw [r3 d]; rfl
      · rw [r2 b]; cases d : Ar c
        · rfl
        · rw [r3 d]; rfl
    · rw [r1 a]; cases b : rV c
      · cases d : Ar c
        · rfl
        · rw [r3 d]; rfl
      · rw [r2 b]; cases d : Ar c
        · rfl
        · rw [r3 d]; rfl
  have fin : ∀ (s : Str) (o : Cm) (r : Bool), s.length <= 50000 -> (r = true -> o.l.length <= 1000) -> (Az c = true -> s = Xe c /\ o = c /\ r = true) -> (RS c = true -> WI c = true -> r = true -> (iq c.k).1 ≠ [] -> o = c -> Az c = true) ->
      (((PE c).length : Int) + (s.length : Int) <= 9223372036854775807) /\ ((WI c = true -> (r = true -> xg c.k (fun Gp => apT Q (PE c ++ s) o (!decide ((Gp : Str) = [])))) /\ (r = false -> apT Q (PE c ++ s) o false)) /\ (WI c = false -> apT Q (PE c ++ s) o false)) := by
    intro s o r hl hol hg hb
    have hq : ∀ ok, (ok = true -> o.l.length <= 1000) -> (Az c = true -> ok = true) -> (Az c = false -> ok = false ∨ o ≠ c) -> apT Q (PE c ++ s) o ok := by
      intro ok a0 a b
      refine h _ _ _ (by rw [List.length_append]; omega) a0 (fun z => ?_) (fun z => b ?_)
      · have := hg (g2 z)
        exact ⟨by rw [this.1]; exact Vd z, this.2.1, a (g2 z)⟩
      · cases w : Az c
        · rfl
        · rw [g3 w] at z; cases z
    refine ⟨by omega, fun a => ⟨fun b => Qr (hq _ (fun _ => hol b) (fun z => ?_) (fun z => ?_)), fun b => hq _ (fun z => by cases z) (fun z => ?_) (fun z => .inl rfl)⟩, fun a => hq _ (fun z => by cases z) (fun z => ?_) (fun z => .inl rfl)⟩
    · unfold Az at z
      simp only [Bool.and_eq_true, Bool.not_eq_true'] at z
      rw [z.2.2.2.1]; rfl
    · by_cases w : (iq c.k).1 = []
      · exact .inl (by rw [decide_eq_true w]; rfl)
      · refine .inr fun q => ?_
        rw [hb hr a b w q] at z; cases z
    · have := (hg z).2.2; rw [b] at this; cases this
    · unfold Az at z; rw [a, Bool.false_and, Bool.and_false] at z; cases z
  have h2 := AX c.g
  have h3 := AX c.s
  have h4 := PO c.x c.l
  have h5 := hs.t
  have eX : (xA c).length <= 40000 := by
    unfold xA xR xS xN xF xT
    repeat' split
    all_goals (simp only [List.length_append, List.length_cons, List.length_nil])
    all_goals omega
  have ho : Aq c = true -> outT c = ⟨c.k, if Gi c then c.nd else 0, if DL c then c.vl else 0, if rV c then c.po else 0, if Hm c then c.n else if Ar c then c.n else 0, if Ho c then c.b else [], (false, d16), (false, d16), false, [], []⟩ := by
    intro a
    have q : ¬ ED c = true := fun q => by
      have := of_decide_eq_true q; have := of_decide_eq_true a; omega
    unfold outT
    rw [if_neg q, if_pos a, if_pos a, if_pos a, if_pos a, if_pos a]
  have ho2 : Aq c = false -> outT c = ⟨c.k, if ED c then c.nd else if Gi c then c.nd else 0, if DL c then c.vl else 0, if rV c then c.po else 0, if Hm c then c.n else if Ar c then c.n else 0, if Ho c then c.b else [], c.g, if Hl c then c.s else (false, d16), if yN c then c.x else false, if yN c then c.l else [], if xM c then c.t else []⟩ := by
    intro a
    have q : ¬ Aq c = true := by rw [a]; decide
    unfold outT
    rw [if_neg q, if_neg q, if_neg q, if_neg q, if_neg q]
  refine XK (o := (false, d16)) (os := (false, d16)) hs hl2 (fun a => ?_) (fun a b => ?_) (fun a b => ?_)
  · refine fin [] ⟨c.k, if Gi c then c.nd else 0, if DL c then c.vl else 0, if rV c then c.po else 0, if Hm c then c.n else if Ar c then c.n else 0, if Ho c then c.b else [], (false, d16), (false, d16), false, [], []⟩ true (by simp) (fun _ => by simp) (fun z => ?_) (fun _ hk _ w q => ?_)
    · unfold Az at z
      simp only [Bool.and_eq_true, decide_eq_true_eq] at z
      refine ⟨by unfold Xe; rw [if_pos a], ?_, rfl⟩
      exact (ho a).symm.trans z.2.2.2.2
    · unfold Az Vq
      rw [hr, hk, if_pos a, decide_eq_false w, decide_eq_true ((ho a).trans q)]; rfl
  · intro s n1 g1 g2' s1 s2 x l t hl
    exact fin s ⟨_, _, _, _, _, _, (g1, g2'), (s1, s2), x, l, t⟩ false (by omega) (fun z => by cases z) (fun z => by
      unfold Az Vq at z
      rw [a, b] at z; simp at z) (fun _ _ q => by cases q)
  · refine fin (xA c) ⟨c.k, if ED c then c.nd else if Gi c then c.nd else 0, if DL c then c.vl else 0, if rV c then c.po else 0, if Hm c then c.n else if Ar c then c.n else 0, if Ho c then c.b else [], c.g, if Hl c then c.s else (false, d16), if yN c then c.x else false, if yN c then c.l else [], if xM c then c.t else []⟩ (!xM c || rE c.t) (by omega) (fun _ => by show (if yN c then c.l else []).length <= 1000; split; exact Nat.le_trans hl2 (by decide); exact Nat.zero_le _) (fun z => ?_) (fun _ hk r w q => ?_)
    · unfold Az Vq at z
      rw [if_neg (by rw [a]; decide)] at z
      simp only [Bool.and_eq_true, decide_eq_true_eq] at z
      refine ⟨by unfold Xe; rw [if_neg (by rw [a]; decide)], ?_, z.2.2.1.2⟩
      exact (ho2 a).symm.trans z.2.2.2.2
    · unfold Az Vq
      rw [hr, hk, if_neg (by rw [a]; decide), b, r, decide_eq_false w, decide_eq_true ((ho2 a).trans q)]; rfl
theorem TP {c : Cm} (hs : Sm c) (hl2 : c.l.length <= 100) {Q : Str -> Prop} (h : ∀ r : Str, r.length <= 100010 -> (jY c = true -> r = lX c) -> Q r) : xZ c.e c.g c.s c.x c.l c.t Q := by
  refine UM hs hl2 fun s o ok hl h0 h1 h2 => ?_
  unfold apT
  refine Qr (k := c.k) ?_
  have hf := (Hw c.k).1
  refine ⟨by show ((iq c.k).1.length : Int) + _ <= _; omega, h _ (by rw [List.length_append]; show (iq c.k).1.length + _ <= _; omega) fun q => ?_⟩
  rw [(h1 q).1]; rfl
end Go.Wk
