/- Plain words: the PW lines; what is good and the line, said by both. -/
import Derived.Test.YtlnagjjldpgbpaaGreatDoorScC
set_option linter.unusedSimpArgs false
set_option linter.unusedVariables false
set_option linter.unusedSectionVars false
namespace Go.Wk
open Go.HL
variable [DM]
abbrev QT : Type := Str -> Int -> Int -> Int -> Int -> Int -> Str -> Bool -> Ba 16 -> Bool -> Ba 16 -> Bool -> List Ad -> Str -> Bool -> Prop
def aaF (Q : QT) : Prop := ∀ k n1 n2 n3 n4 b5, Q [] k n1 n2 n3 n4 b5 false d16 false d16 false [] [] false
def uP (c : Cm) : Bool := decide (c.k = 1 ∨ c.k = 12 ∨ c.k = 13 ∨ c.k = 20 ∨ c.k = 21)
def IX (c : Cm) : Bool := uP c || decide (c.k = 2 ∨ c.k = 3 ∨ c.k = 10 ∨ c.k = 11)
def FQ (c : Cm) : Bool := uP c || decide (c.k = 24 ∨ c.k = 25)
def Dl (c : Cm) : Bool := decide (c.k = 2 ∨ (4 <= c.k /\ c.k <= 9) ∨ c.k = 22)
def Jz (c : Cm) : Bool := decide (c.k = 1)
def Jy (c : Cm) : Bool := decide (c.k = 12 ∨ c.k = 13)
section
variable {c : Cm} {Q : QT} {o1 o2 o3 o4 : Int} {o5 s : Str} {ok : Bool}
def Wh (c : Cm) : Str := if c.n = 1 then [32, 111, 110] else [32, 111, 102, 102]
def x5 (c : Cm) : Str := if Jy c then Wh c else []
def k5 (c : Cm) : Bool := !Jy c || decide (c.n = 0 ∨ c.n = 1)
theorem aeZ (hl : s.length <= 100000) (h : qQ c.e c.g c.s c.x c.l c.t Q o1 o2 o3 o5 (s ++ x5 c) (if Jy c then c.n else o4) (ok && k5 c)) :
    sS c.e c.g c.s c.x c.l c.t Q o1 o2 o3 o5 ok s o4 := by
  have j16 : ∀ b, b = Jy c -> vN c.e c.g c.s c.x c.l c.t Q o1 o2 o3 o5 ok s o4 b := by
    intro b hb
    unfold x5 k5 Wh at h
    rw [← hb] at h
    refine ⟨fun q => ⟨fun a => ⟨by simp only [List.length_cons, List.length_nil]; omega, ?_⟩, fun a => ⟨by simp only [List.length_cons, List.length_nil]; omega, fun d => ?_, fun d => ?_⟩⟩, fun q => ?_⟩
    · subst q
      have a : c.n = 1 := a
      rw [if_pos rfl, if_pos rfl, if_pos a, decide_eq_true (.inr a), Bool.or_true, Bool.and_true] at h; exact h
    · subst q
      have a : ¬ c.n = 1 := a
      rw [if_pos rfl, if_pos rfl, if_neg a, d, Bool.true_and, Bool.not_true, Bool.false_or, show decide (c.n = 0 ∨ c.n = 1) = decide (c.n = 0) from decide_eq_decide.2 (by omega)] at h; exact h
    · subst q
      have a : ¬ c.n = 1 := a
      rw [if_pos rfl, if_pos rfl, if_neg a, d, Bool.false_and] at h; exact h
    · subst q
      rw [if_neg (show ¬ (false = true) by decide), if_neg (show ¬ (false = true) by decide), List.append_nil, Bool.not_false, Bool.true_or, Bool.and_true] at h; exact h
  refine ⟨fun a => j16 _ (decide_eq_true (.inl a)).symm, fun a => j16 _ (decide_eq_decide.2 ?_)⟩
  have a : ¬ c.k = 12 := a
  show c.k = 13 ↔ _
  omega
def nR (c : Cm) : Bool := decide (0 <= c.n /\ c.n <= IY c.k)
def x3 (c : Cm) : Str := if Dl c then 32 :: jM c.n else []
theorem aad (k : Int) : IY k <= 1000000 := by unfold IY; split <;> omega
theorem ae0 (hl : s.length <= 90000) (hb : Dl c = true -> nR c = false -> aaF Q)
    (h : (Dl c = true -> nR c = true) -> sS c.e c.g c.s c.x c.l c.t Q o1 o2 o3 o5 ok (s ++ x3 c) (if Dl c then c.n else 0)) :
    mG c.e c.g c.s c.x c.l c.t Q o1 o2 o3 s o5 ok := by
  have j13 : ∀ b, b = Dl c -> qR c.e c.g c.s c.x c.l c.t Q o1 o2 o3 s o5 ok b := by
    intro b hb'
    unfold x3 at h
    rw [← hb'] at h hb
    refine ⟨fun q => ?_, fun q => ?_⟩
    · rw [if_pos q, if_pos q] at h
      have go : 0 <= c.n /\ c.n <= IY c.k -> vO c.e c.g c.s c.x c.l c.t Q o1 o2 o3 s o5 ok := by
        intro r
        have hm := aad c.k
        have hB := Q7 (n := c.n) (by omega)
        refine ⟨by simp only [List.length_cons, List.length_nil]; omega, YC r.1 (by show c.n <= _; omega) ⟨by simp only [List.length_append, List.length_cons, List.length_nil]; show _ + ((jM c.n).length : Int) <= _; omega, ?_⟩⟩
        rw [PY]; exact h fun _ => decide_eq_true r
      have bad : ¬ (0 <= c.n /\ c.n <= IY c.k) -> Q [] c.k o1 o2 o3 c.n o5 false d16 false d16 false [] [] false := fun r => hb q (decide_eq_false r) _ _ _ _ _ _
      unfold IY at go bad
      refine ⟨fun a => bad fun r => ?_, fun a => ⟨fun b => bad fun r => ?_, fun b => ⟨fun d => ⟨fun f => bad fun r => ?_, fun f => go ?_⟩, fun d => go ?_⟩⟩⟩
      · have a : c.n < 0 := a
        omega
      · have b : 1000000 < c.n := b
        have := r.2; split at this <;> omega
      · have d : c.k = 22 := d
        have f : 100 < c.n := f
        have := r.2; rw [if_pos d] at this; omega
      · have a : ¬ c.n < 0 := a
        have d : c.k = 22 := d
        have f : ¬ 100 < c.n := f
        rw [if_pos d]; omega
      · have a : ¬ c.n < 0 := a
        have b : ¬ 1000000 < c.n := b
        have d : ¬ c.k = 22 := d
        rw [if_neg d]; omega
    · rw [if_neg (by rw [q]; decide), if_neg (by rw [q]; decide), List.append_nil] at h
      exact h fun a => by rw [q] at a; cases a
  have k0 : ¬ c.k = 2 -> ¬ (4 <= c.k /\ c.k <= 9) -> decide (c.k = 22) = Dl c := fun a b => decide_eq_decide.2 (by omega)
  exact ⟨fun a => j13 _ (decide_eq_true (.inl a)).symm, fun a => ⟨fun b => ⟨fun d => j13 _ (decide_eq_true (.inr (.inl ⟨b, d⟩))).symm, fun d => j13 _ (k0 a fun r => d r.2)⟩, fun b => j13 _ (k0 a fun r => b r.1)⟩⟩
def x4 (c : Cm) : Str := if Jz c then 32 :: (if c.b = [] then [45] else hexL c.b) else []
def k4 (c : Cm) : Bool := !Jz c || decide (c.b.length < 1601)
theorem tj8 (hs : Sm c) (hl : s.length <= 50000) (h : mG c.e c.g c.s c.x c.l c.t Q o1 o2 o3 (s ++ x4 c) (if Jz c then c.b else []) (ok && k4 c)) :
    uJ c.e c.g c.s c.x c.l c.t Q o1 ok o2 s o3 := by
  have hb := hs.b
  have hh := CQ c.b
  unfold x4 k4 Jz at h
  have e : decide ((c.b.length : Int) < 1601) = decide (c.b.length < 1601) := decide_eq_decide.2 (by omega)
  refine ⟨fun q => ?_, fun q => ?_⟩
  · have q : c.k = 1 := q
    rw [decide_eq_true q, if_pos rfl, if_pos rfl, Bool.not_true, Bool.false_or] at h
    have j11 : ∀ s', s'.length <= 60000 -> mG c.e c.g c.s c.x c.l c.t Q o1 o2 o3 (s' ++ if c.b = [] then [] else 32 :: hexL c.b) c.b (ok && decide (c.b.length < 1601)) -> vP c.e c.g c.s c.x c.l c.t Q o1 ok o2 o3 s' := by
      intro s' hs' h
      refine ⟨fun a => ⟨by simp only [List.length_cons, List.length_nil]; omega, aaj (by show c.b.length <= _; omega) ⟨by simp only [List.length_append, List.length_cons, List.length_nil]; show _ + ((hexL c.b).length : Int) <= _; omega, fun d => ?_, fun d => ?_⟩⟩, fun a => ⟨fun d => ?_, fun d => ?_⟩⟩
      · rw [if_neg (show ¬ c.b = [] from a), d, Bool.true_and, ← e] at h; rw [PY]; exact h
      · rw [if_neg (show ¬ c.b = [] from a), d, Bool.false_and] at h; rw [PY]; exact h
      · rw [if_pos (show c.b = [] from a), List.append_nil, d, Bool.true_and, ← e] at h; exact h
      · rw [if_pos (show c.b = [] from a), List.append_nil, d, Bool.false_and] at h; exact h
    refine ⟨fun a => ⟨by simp only [List.length_cons, List.length_nil]; omega, j11 _ (by simp only [List.length_append, List.length_cons, List.length_nil]; omega) ?_⟩, fun a => j11 _ (by omega) ?_⟩
    · rw [if_pos (show c.b = [] from a)] at h ⊢
      rw [List.append_nil]; exact h
    · rw [if_neg (show ¬ c.b = [] from a)] at h ⊢
      exact h
  · have q : ¬ c.k = 1 := q
    rw [decide_eq_false q, if_neg (show ¬ (false = true) by decide), if_neg (show ¬ (false = true) by decide), List.append_nil, Bool.not_false, Bool.true_or, Bool.and_true] at h
    exact h
def poR (c : Cm) : Bool := decide (0 <= c.po /\ c.po <= 255)
def x2 (c : Cm) : Str := if uP c then 32 :: jM c.po else []
theorem tj5 (hl : s.length <= 10000) (hb : uP c = true -> poR c = false -> aaF Q)
    (h : (uP c = true -> poR c = true) -> uJ c.e c.g c.s c.x c.l c.t Q o1 ok o2 (s ++ x2 c) (if uP c then c.po else 0)) :
    uM c.e c.g c.s c.x c.l c.t Q (uP c) o1 ok s o2 := by
  unfold x2 at h
  refine ⟨fun q => ?_, fun q => ?_⟩
  · rw [if_pos q, if_pos q] at h
    have j9 : ∀ b, b = !poR c -> xx c.e c.g c.s c.x c.l c.t Q o1 ok s o2 b := by
      intro b hb'
      refine ⟨fun a => hb q (by rw [a] at hb'; simpa using hb'.symm) _ _ _ _ _ _, fun a => ?_⟩
      have r : poR c = true := by rw [a] at hb'; simpa using hb'.symm
      have r1 := of_decide_eq_true r
      have hB := Q7 (n := c.po) (by omega)
      refine ⟨by simp only [List.length_cons, List.length_nil]; omega, YC r1.1 (by show c.po <= _; omega) ⟨by simp only [List.length_append, List.length_cons, List.length_nil]; show _ + ((jM c.po).length : Int) <= _; omega, ?_⟩⟩
      rw [PY]; exact h fun _ => r
    refine ⟨fun a => j9 _ ?_, fun a => j9 _ ?_⟩
    · unfold poR; rw [decide_eq_false (fun r => by have : c.po < 0 := a; omega)]; rfl
    · unfold poR
      rw [← decide_not]; exact decide_eq_decide.2 (by have : ¬ c.po < 0 := a; show 255 < c.po ↔ _; omega)
  · rw [if_neg (by rw [q]; decide), if_neg (by rw [q]; decide), List.append_nil] at h
    exact h fun a => by rw [q] at a; cases a
def vlR (c : Cm) : Bool := decide (0 <= c.vl /\ c.vl <= 4094)
def x1 (c : Cm) : Str := if FQ c then 32 :: jM c.vl else []
theorem tj2 (hl : s.length <= 1000) (hb : FQ c = true -> vlR c = false -> aaF Q)
    (h : (FQ c = true -> vlR c = true) -> uM c.e c.g c.s c.x c.l c.t Q (uP c) o1 ok (s ++ x1 c) (if FQ c then c.vl else 0)) :
    qh c.e c.g c.s c.x c.l c.t Q (uP c) s o1 ok := by
  unfold x1 at h
  have j6 : ∀ b, b = FQ c -> uK c.e c.g c.s c.x c.l c.t Q (uP c) s o1 ok b := by
    intro b hb'
    rw [← hb'] at h hb
    refine ⟨fun q => ?_, fun q => ?_⟩
    · rw [if_pos q, if_pos q] at h
      have j7 : ∀ b, b = !vlR c -> xy c.e c.g c.s c.x c.l c.t Q (uP c) s o1 ok b := by
        intro b hb'
        refine ⟨fun a => hb q (by rw [a] at hb'; simpa using hb'.symm) _ _ _ _ _ _, fun a => ?_⟩
        have r : vlR c = true := by rw [a] at hb'; simpa using hb'.symm
        have r1 := of_decide_eq_true r
        have hB := Q7 (n := c.vl) (by omega)
        refine ⟨by simp only [List.length_cons, List.length_nil]; omega, YC r1.1 (by show c.vl <= _; omega) ⟨by simp only [List.length_append, List.length_cons, List.length_nil]; show _ + ((jM c.vl).length : Int) <= _; omega, ?_⟩⟩
        rw [PY]; exact h fun _ => r
      refine ⟨fun a => j7 _ ?_, fun a => j7 _ ?_⟩
      · unfold vlR; rw [decide_eq_false (fun r => by have : c.vl < 0 := a; omega)]; rfl
      · unfold vlR
        rw [← decide_not]; exact decide_eq_decide.2 (by have : ¬ c.vl < 0 := a; show 4094 < c.vl ↔ _; omega)
    · rw [if_neg (by rw [q]; decide), if_neg (by rw [q]; decide), List.append_nil] at h
      exact h fun a => by rw [q] at a; cases a
  unfold FQ at j6
  refine ⟨fun q => j6 _ (by rw [q]; rfl), fun q => ⟨fun a => j6 _ ?_, fun a => j6 _ ?_⟩⟩
  · rw [decide_eq_true (.inl a), Bool.or_true]
  · rw [q, Bool.false_or]; have a : ¬ c.k = 24 := a; exact decide_eq_decide.2 (by show c.k = 25 ↔ _; omega)
def Ls (c : Cm) : Bool := decide (0 <= c.nd /\ c.nd < 65536) || (decide (c.k = 3) && decide (c.nd = -1))
def VR (c : Cm) : Str := if c.nd = -1 then [32, 99, 111, 110, 116, 114, 111, 108, 108, 101, 114] else if Ls c then 32 :: jM c.nd else []
def x0 (c : Cm) : Str := if IX c then VR c else []
def k0 (c : Cm) : Bool := !IX c || Ls c
theorem tj1 (h : qh c.e c.g c.s c.x c.l c.t Q (uP c) (x0 c) (if IX c then c.nd else 0) (k0 c)) :
    nU c.e c.g c.s c.x c.l c.t Q (uP c) := by
  unfold x0 k0 at h
  have j3 : ∀ b, b = IX c -> qg c.e c.g c.s c.x c.l c.t Q (uP c) b := by
    intro b hb
    rw [← hb] at h
    refine ⟨fun q => ?_, fun q => ?_⟩
    · rw [if_pos q, if_pos q, q, Bool.not_true, Bool.false_or] at h
      have j4 : ∀ b, b = Ls c -> nT c.e c.g c.s c.x c.l c.t Q (uP c) b := by
        intro b hb
        unfold VR at h
        rw [← hb] at h
        refine ⟨fun a => ?_, fun a => ⟨fun d => ?_, fun d => ?_⟩⟩
        · rw [if_pos (show c.nd = -1 from a)] at h; exact h
        · have a : ¬ c.nd = -1 := a
          rw [if_neg a, if_pos d] at h
          have r : 0 <= c.nd /\ c.nd < 65536 := by
            rw [d] at hb; unfold Ls at hb; rw [decide_eq_false a, Bool.and_false, Bool.or_false] at hb; exact of_decide_eq_true hb.symm
          have hB := Q7 (n := c.nd) (by omega)
          exact YC r.1 (by show c.nd <= _; omega) ⟨by simp only [List.length_cons, List.length_nil]; show _ + ((jM c.nd).length : Int) <= _; omega, h⟩
        · have a : ¬ c.nd = -1 := a
          rw [if_neg a, if_neg (by rw [d]; decide)] at h; exact h
      have no : ¬ (0 <= c.nd /\ c.nd < 65536) -> (c.k = 3 -> nT c.e c.g c.s c.x c.l c.t Q (uP c) (decide (c.nd = -1))) /\ (¬ c.k = 3 -> nT c.e c.g c.s c.x c.l c.t Q (uP c) false) := by
        intro r
        refine ⟨fun z => j4 _ ?_, fun z => j4 _ ?_⟩
        · unfold Ls; rw [decide_eq_false r, decide_eq_true z, Bool.false_or, Bool.true_and]
        · unfold Ls; rw [decide_eq_false r, decide_eq_false z]; rfl
      refine ⟨fun a => ⟨fun d => j4 _ ?_, fun d => no fun r => d r.2⟩, fun a => no fun r => a r.1⟩
      unfold Ls; rw [decide_eq_true (show 0 <= c.nd /\ c.nd < 65536 from ⟨a, d⟩)]; rfl
    · rw [if_neg (by rw [q]; decide), if_neg (by rw [q]; decide), q] at h
      exact h
  unfold IX at j3
  refine ⟨fun q => j3 _ (by rw [q]; rfl), fun q => ⟨fun a => j3 _ ?_, fun a => ⟨fun b => j3 _ ?_, fun b => ⟨fun d => j3 _ ?_, fun d => j3 _ ?_⟩⟩⟩⟩
  · rw [decide_eq_true (.inl a), Bool.or_true]
  · rw [decide_eq_true (.inr (.inl b)), Bool.or_true]
  · rw [decide_eq_true (.inr (.inr (.inl d))), Bool.or_true]
  · have a : ¬ c.k = 2 := a
    have b : ¬ c.k = 3 := b
    have d : ¬ c.k = 10 := d
    rw [q, Bool.false_or]; exact decide_eq_decide.2 (by show c.k = 11 ↔ _; omega)
theorem tW (h : nU c.e c.g c.s c.x c.l c.t Q (uP c)) : vS c.e c.g c.s c.x c.l c.t Q := by
  have j : ∀ b, b = uP c -> nU c.e c.g c.s c.x c.l c.t Q b := fun b hb => by rw [hb]; exact h
  refine ⟨fun a => j _ (decide_eq_true (.inl a)).symm, fun a => ⟨fun b => j _ (decide_eq_true (.inr (.inl b))).symm, fun b => ⟨fun d => j _ (decide_eq_true (.inr (.inr (.inl d)))).symm, fun d => ⟨fun f => j _ (decide_eq_true (.inr (.inr (.inr (.inl f))))).symm, fun f => j _ (decide_eq_decide.2 ?_)⟩⟩⟩⟩
  have a : ¬ c.k = 1 := a
  have b : ¬ c.k = 12 := b
  have d : ¬ c.k = 13 := d
  have f : ¬ c.k = 20 := f
  show c.k = 21 ↔ _
  omega
def apT (Q : QT) (s : Str) (o : Cm) (ok : Bool) : Prop := Q s o.k o.nd o.vl o.po o.n o.b o.g.1 o.g.2 o.s.1 o.s.2 o.x o.l o.t ok
def Ry (c : Cm) : Str := ((((x0 c ++ x1 c) ++ x2 c) ++ x4 c) ++ x3 c) ++ x5 c
def YM (c : Cm) : Bool := (k0 c && k4 c) && k5 c
def UL (c : Cm) : Bool := (!FQ c || vlR c) && ((!uP c || poR c) && (!Dl c || nR c))
def outT (c : Cm) : Cm := ⟨c.k, if GX c then c.nd else if IX c then c.nd else 0, if FQ c then c.vl else 0, if uP c then c.po else 0, if Jy c then c.n else if Dl c then c.n else 0, if Jz c then c.b else [],
  if Dk c then (false, d16) else c.g, if Dk c then (false, d16) else if Jw c then c.s else (false, d16), if Dk c then false else if Bi c then c.x else false, if Dk c then [] else if Bi c then c.l else [], if Dk c then [] else if Af c then c.t else []⟩
def Y6 (c : Cm) : Str := if Dk c then [] else xA c
def Xz (c : Cm) : Bool := if Dk c then true else Vo c && (!Af c || ug c.t)
end
end Go.Wk
