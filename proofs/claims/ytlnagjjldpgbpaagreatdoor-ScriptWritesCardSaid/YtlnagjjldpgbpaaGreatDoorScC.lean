/- Plain words: the PW way through a command's things. -/
import Derived.Test.YtlnagjjldpgbpaaGreatDoorScB
set_option linter.unusedSimpArgs false
set_option linter.unusedVariables false
set_option linter.unusedSectionVars false
namespace Go.Wk
open Go.HL
variable [DM]
theorem YC {n : Int} (h0 : 0 <= n) (h1 : n <= 10000000) {Q : Str -> Prop} (h : Q (jM n)) : wu n Q := by
  obtain ⟨m, rfl⟩ := Int.eq_ofNat_of_zero_le h0
  exact UY (b := 10) (by decide) (by omega) (by rw [← TL]; exact h)
theorem Q7 {n : Int} (h : 0 <= n /\ n <= 10000000) : (jM n).length <= 21 := vY ⟨by omega, by omega⟩
theorem PY (s r : Str) : (s ++ [32]) ++ r = s ++ 32 :: r := by rw [List.append_assoc]; rfl
abbrev QA : Type := Str -> Bool -> Int -> Int -> Int -> Int -> Int -> Str -> Bool -> Ba 16 -> Bool -> Ba 16 -> Bool -> List Ad -> Str -> Prop
def Vr (Q : QA) (E : bz) : Prop := ∀ (s : Str) n1 g1 g2 s1 s2 x l t, s.length <= 40000 -> Q s false E.1 n1 E.2.2.1 E.2.2.2.1 E.2.2.2.2.1 E.2.2.2.2.2 g1 g2 s1 s2 x l t
section
variable {c : Cm} {E : bz} {Q : QA} {o g os : Ad} {s : Str} {n1 : Int} {ox : Bool} {ol : List Ad} {ot : Str}
def Bi (c : Cm) : Bool := decide (c.k = 20)
def Af (c : Cm) : Bool := decide (c.k = 21)
def U4 (c : Cm) : Bool := decide (c.k = 24)
def GX (c : Cm) : Bool := decide (c.k = 25)
theorem aeE (h : Q s (!Af c || ug c.t) E.1 n1 E.2.2.1 E.2.2.2.1 E.2.2.2.2.1 E.2.2.2.2.2 c.g.1 c.g.2 os.1 os.2 ox ol ot) (hs : Sm c) :
    sD c.e c.g c.t E Q os.1 os.2 n1 ox ol ot s := by
  unfold Af at h
  refine ⟨fun q => ?_, fun q => Xb (by have := hs.t; omega) ?_⟩
  · rw [decide_eq_false (show ¬ c.k = 21 from q)] at h; exact h
  · rw [decide_eq_true (show c.k = 21 from q)] at h; exact h
def xT (c : Cm) : Str := if Af c then 32 :: c.t else []
theorem aeF (hs : Sm c) (hl : s.length <= 30000) (h : Q (s ++ xT c) (!Af c || ug c.t) E.1 n1 E.2.2.1 E.2.2.2.1 E.2.2.2.2.1 E.2.2.2.2.2 c.g.1 c.g.2 os.1 os.2 ox ol (if Af c then c.t else ot)) :
    sG c.e c.g c.t E ot Q os.1 os.2 n1 ox ol s := by
  have ht := hs.t
  refine ⟨fun q => ⟨by simp only [List.length_cons, List.length_nil]; omega, by simp only [List.length_append, List.length_cons, List.length_nil]; omega, aeE ?_ hs⟩, fun q => aeE ?_ hs⟩
  · have e : Af c = true := decide_eq_true q
    rw [PY]; unfold xT at h; rw [if_pos e, if_pos e] at h; exact h
  · have e : ¬ Af c = true := fun a => q (of_decide_eq_true a)
    unfold xT at h; rw [if_neg e, if_neg e, List.append_nil] at h; exact h
def DZ (c : Cm) : Bool := JJ c.l && (decide (c.l.length <= 64) && c.l.all fun a => a.1 == c.g.1)
def xF (c : Cm) : Str := if Bi c then 32 :: Um c.x c.l else []
theorem aj8 (hs : Sm c) (hl : s.length <= 500) (hl2 : c.l.length <= 100) (hb : Bi c = true -> DZ c = false -> Vr Q E)
    (h : (Bi c = true -> DZ c = true) -> Q ((s ++ xF c) ++ xT c) (!Af c || ug c.t) E.1 n1 E.2.2.1 E.2.2.2.1 E.2.2.2.2.1 E.2.2.2.2.2 c.g.1 c.g.2 os.1 os.2 (if Bi c then c.x else ox) (if Bi c then c.l else ol) (if Af c then c.t else ot)) :
    qU c.e c.g c.x c.l c.t E ox ol ot Q os.1 os.2 n1 s := by
  have hF := Oj c.x c.l
  refine ⟨fun q => ?_, fun q => ?_⟩
  · have e : Bi c = true := decide_eq_true q
    have bad : DZ c = false -> Q [] false E.1 n1 E.2.2.1 E.2.2.2.1 E.2.2.2.2.1 E.2.2.2.2.2 c.g.1 c.g.2 os.1 os.2 c.x c.l ot := fun a => hb e a _ _ _ _ _ _ _ _ _ (by simp)
    have ho := VP c.l
    have go : JJ c.l = true -> sF c.e c.g c.x c.l c.t E ot Q os.1 os.2 n1 s (decide (64 < (c.l.length : Int))) := by
      intro hset
      refine ⟨fun a => bad ?_, fun a => ?_⟩
      · have := of_decide_eq_true a
        unfold DZ; rw [decide_eq_false (show ¬ c.l.length <= 64 by omega)]; simp
      · have a1 := of_decide_eq_false a
        refine yS c.l.length (fun i => ((c.l.take i).all fun a => a.1 == c.g.1) = true) (by simp) fun K i hi hI hK => ?_
        show tJ c.e c.g c.x c.l c.t E ot Q os.1 os.2 n1 s K (i : Int)
        unfold tJ
        refine ⟨fun d => ⟨by omega, ?_⟩, fun d => ?_⟩
        · have i1 : i < c.l.length := by omega
          rw [iZ i1]
          refine ⟨fun f => bad ?_, fun f => ⟨by (first | omega | (unfold I64; omega) | (simp only [List.length_append, List.length_cons, List.length_nil, List.length_take, List.length_drop] at *; omega) | (unfold I64; simp only [List.length_append, List.length_cons, List.length_nil, List.length_take, List.length_drop] at *; omega)), hK (i + 1) (by omega) (by omega) ?_⟩⟩
          · have : (c.l.all fun a => a.1 == c.g.1) = false := by
              rw [List.all_eq_false]; exact ⟨_, List.getElem_mem i1, by simpa using f⟩
            unfold DZ; rw [this]; simp
          · rw [List.take_succ_eq_append_getElem i1, List.all_append, hI]; simpa using f
        · have i1 : i = c.l.length := by omega
          subst i1
          rw [List.take_length] at hI
          have hgood : DZ c = true := by unfold DZ; rw [hset, hI, decide_eq_true (by omega)]; rfl
          have h := h fun _ => hgood
          refine ⟨by simp only [List.length_cons, List.length_nil]; omega, UT hs.l ⟨by simp only [List.length_append, List.length_cons, List.length_nil]; omega, ?_⟩⟩
          unfold xF at h
          rw [if_pos e, if_pos e, if_pos e] at h
          rw [PY]
          exact aeF hs (by simp only [List.length_append, List.length_cons]; omega) h
    refine abS (by have := hs.l; omega) (Tm (by have := hs.l; omega) ⟨fun a => ⟨fun _ => bad ?_, fun b => (by cases b)⟩, fun a => go ?_⟩)
    · have : JJ c.l = false := by unfold JJ; simpa using a
      unfold DZ; rw [this]; rfl
    · unfold JJ; simpa using a
  · have e : ¬ Bi c = true := fun a => q (of_decide_eq_true a)
    have h := h fun a => absurd a e
    unfold xF at h
    rw [if_neg e, if_neg e, if_neg e, List.append_nil] at h
    exact aeF hs (by omega) h
def ND (c : Cm) : Bool := decide (0 <= c.nd /\ c.nd <= 65535)
def xN (c : Cm) : Str := if GX c then 32 :: jM c.nd else []
def Nk (c : Cm) : Bool := (!GX c || ND c) && (!Bi c || DZ c)
theorem aj7 (hs : Sm c) (hl : s.length <= 400) (hl2 : c.l.length <= 100) (hb : Nk c = false -> Vr Q E)
    (h : Nk c = true -> Q (((s ++ xN c) ++ xF c) ++ xT c) (!Af c || ug c.t) E.1 (if GX c then c.nd else E.2.1) E.2.2.1 E.2.2.2.1 E.2.2.2.2.1 E.2.2.2.2.2 c.g.1 c.g.2 os.1 os.2 (if Bi c then c.x else ox) (if Bi c then c.l else ol) (if Af c then c.t else ot)) :
    tN c.e c.g c.x c.l c.t E ox ol ot Q os.1 os.2 s := by
  have fin : ∀ n1, (GX c = true -> ND c = true) -> n1 = (if GX c then c.nd else E.2.1) -> qU c.e c.g c.x c.l c.t E ox ol ot Q os.1 os.2 n1 (s ++ xN c) := by
    intro n1 hn hn1
    subst hn1
    have hx : (xN c).length <= 22 := by
      unfold xN; split
      · rename_i q
        have := of_decide_eq_true (hn q)
        have := Q7 (n := c.nd) (by omega)
        rw [List.length_cons]; omega
      · simp
    refine aj8 hs (by rw [List.length_append]; omega) hl2 (fun a b => hb ?_) fun a => h ?_
    · unfold Nk; rw [a, b]; simp
    · unfold Nk
      cases e : GX c
      · cases f : Bi c
        · rfl
        · rw [a f]; rfl
      · rw [hn e]
        cases f : Bi c
        · rfl
        · rw [a f]; rfl
  refine ⟨fun q => ?_, fun q => ?_⟩
  · have e : GX c = true := decide_eq_true q
    have j9 : ∀ b, b = !ND c -> tK c.e c.g c.x c.l c.t E ox ol ot Q os.1 os.2 s b := by
      intro b hb'
      refine ⟨fun a => ?_, fun a => ?_⟩
      · refine hb ?_ _ _ _ _ _ _ _ _ _ (by simp)
        unfold Nk; rw [e, show ND c = false by rw [a] at hb'; simpa using hb'.symm]; rfl
      · have hn : ND c = true := by rw [a] at hb'; simpa using hb'.symm
        have hr := of_decide_eq_true hn
        have hB := Q7 (n := c.nd) (by omega)
        have f := fin c.nd (fun _ => hn) (by rw [if_pos e])
        unfold xN at f
        rw [if_pos e] at f
        refine ⟨by simp only [List.length_cons, List.length_nil]; omega, YC hr.1 (by show c.nd <= _; omega) ⟨by simp only [List.length_append, List.length_cons, List.length_nil]; show _ + ((jM c.nd).length : Int) <= _; omega, ?_⟩⟩
        rw [PY]; exact f
    refine ⟨fun a => j9 _ ?_, fun a => j9 _ ?_⟩
    · unfold ND; rw [decide_eq_false (fun r => by have : c.nd < 0 := a; omega)]; rfl
    · unfold ND
      rw [← decide_not]; exact decide_eq_decide.2 (by have : ¬ c.nd < 0 := a; show 65535 < c.nd ↔ _; omega)
  · have e : ¬ GX c = true := fun a => q (of_decide_eq_true a)
    have f := fin E.2.1 (fun a => absurd a e) (by rw [if_neg e])
    unfold xN at f
    rw [if_neg e, List.append_nil] at f
    exact f
def xS (c : Cm) : Str := if U4 c then 32 :: txt c.s else []
theorem aj6 (hs : Sm c) (hl : s.length <= 150) (hl2 : c.l.length <= 100) (hb : Nk c = false -> Vr Q E)
    (h : Nk c = true -> Q (((((s ++ 32 :: txt c.g) ++ xS c) ++ xN c) ++ xF c) ++ xT c) (!Af c || ug c.t) E.1 (if GX c then c.nd else E.2.1) E.2.2.1 E.2.2.2.1 E.2.2.2.2.1 E.2.2.2.2.2 c.g.1 c.g.2 os.1 os.2 (if Bi c then c.x else ox) (if Bi c then c.l else ol) (if Af c then c.t else ot)) :
    tV c.e c.g c.s c.x c.l c.t E ox ol ot Q os.1 os.2 s := by
  have h1 := AZ c.g
  have h2 := AZ c.s
  refine ⟨by simp only [List.length_cons, List.length_nil]; omega, Hm ⟨by simp only [List.length_append, List.length_cons, List.length_nil]; omega, fun q => ⟨by simp only [List.length_append, List.length_cons, List.length_nil]; omega, Hm ⟨by simp only [List.length_append, List.length_cons, List.length_nil]; omega, ?_⟩⟩, fun q => ?_⟩⟩
  · have e : U4 c = true := decide_eq_true q
    unfold xS at h; rw [if_pos e] at h
    rw [PY, PY]
    exact aj7 hs (by simp only [List.length_append, List.length_cons]; omega) hl2 hb h
  · have e : ¬ U4 c = true := fun a => q (of_decide_eq_true a)
    unfold xS at h; rw [if_neg e, List.append_nil] at h
    rw [PY]
    exact aj7 hs (by simp only [List.length_append, List.length_cons]; omega) hl2 hb h
def xR (c : Cm) : Str := if Af c then 32 :: txt c.s else []
def xA (c : Cm) : Str := ((((xR c ++ 32 :: txt c.g) ++ xS c) ++ xN c) ++ xF c) ++ xT c
theorem aj5 (hs : Sm c) (hl2 : c.l.length <= 100) (hb : Nk c = false -> Vr Q E)
    (h : Nk c = true -> Q (xA c) (!Af c || ug c.t) E.1 (if GX c then c.nd else E.2.1) E.2.2.1 E.2.2.2.1 E.2.2.2.2.1 E.2.2.2.2.2 c.g.1 c.g.2 os.1 os.2 (if Bi c then c.x else ox) (if Bi c then c.l else ol) (if Af c then c.t else ot)) :
    qV c.e c.g c.s c.x c.l c.t E ox ol ot Q os.1 os.2 := by
  have h2 := AZ c.s
  unfold xA xR at h
  refine ⟨fun q => Hm ⟨by simp only [List.length_cons, List.length_nil]; omega, ?_⟩, fun q => ?_⟩
  · rw [if_pos (show Af c = true from decide_eq_true q)] at h
    exact aj6 hs (by simp only [List.length_append, List.length_cons, List.length_nil]; omega) hl2 hb h
  · rw [if_neg (show ¬ Af c = true from fun a => q (of_decide_eq_true a))] at h
    exact aj6 hs (by simp) hl2 hb h
def U9 (c : Cm) : Bool := rU c.g && (gG c.g || (GX c && zZ c.g))
theorem aj3 (hs : Sm c) (hl2 : c.l.length <= 100) (hb : (U9 c && Nk c) = false -> Vr Q E)
    (h : (U9 c && Nk c) = true -> Q (xA c) (!Af c || ug c.t) E.1 (if GX c then c.nd else E.2.1) E.2.2.1 E.2.2.2.1 E.2.2.2.2.1 E.2.2.2.2.2 c.g.1 c.g.2 os.1 os.2 (if Bi c then c.x else ox) (if Bi c then c.l else ol) (if Af c then c.t else ot)) :
    tY c.e c.g c.s c.x c.l c.t E ox ol ot Q os.1 os.2 := by
  have bad : U9 c = false -> Q [] false E.1 E.2.1 E.2.2.1 E.2.2.2.1 E.2.2.2.2.1 E.2.2.2.2.2 c.g.1 c.g.2 os.1 os.2 ox ol ot := fun a => hb (by rw [a]; rfl) _ _ _ _ _ _ _ _ _ (by simp)
  have go : U9 c = true -> qV c.e c.g c.s c.x c.l c.t E ox ol ot Q os.1 os.2 := fun a =>
    aj5 hs hl2 (fun b => hb (by rw [a, b]; rfl)) fun b => h (by rw [a, b]; rfl)
  unfold U9 GX at bad go
  refine PL ⟨fun a => bad ?_, fun a => ?_⟩
  · rw [show rU c.g = false by simpa using a]; rfl
  · have a : rU c.g = true := by simpa using a
    rw [a, Bool.true_and] at bad go
    refine V6 ⟨fun b => ?_, fun b => ?_⟩
    · have b : gG c.g = false := by simpa using b
      rw [b, Bool.false_or] at bad go
      refine ⟨fun f => bad ?_, fun f => ?_⟩
      · rw [decide_eq_false (show ¬ c.k = 25 from f)]; rfl
      · rw [decide_eq_true (show c.k = 25 from f), Bool.true_and] at bad go
        refine XK ⟨fun z => bad (by simpa using z), fun z => go (by simpa using z)⟩
    · have b : gG c.g = true := by simpa using b
      rw [b, Bool.true_or] at go
      exact go rfl
def Ux (c : Cm) : Bool := rU c.s && ((c.s.1 == c.g.1) && !gG c.s)
def Jw (c : Cm) : Bool := Af c || U4 c
def Vo (c : Cm) : Bool := (!Jw c || Ux c) && (U9 c && Nk c)
theorem aj2 (hs : Sm c) (hl2 : c.l.length <= 100) (hb : Vo c = false -> Vr Q E)
    (h : Vo c = true -> Q (xA c) (!Af c || ug c.t) E.1 (if GX c then c.nd else E.2.1) E.2.2.1 E.2.2.2.1 E.2.2.2.2.1 E.2.2.2.2.2 c.g.1 c.g.2 (if Jw c then c.s else os).1 (if Jw c then c.s else os).2 (if Bi c then c.x else ox) (if Bi c then c.l else ol) (if Af c then c.t else ot)) :
    qW c.e c.g c.s c.x c.l c.t E o os ox ol ot Q (Ux c) := by
  have j4 : ∀ b, b = Jw c -> tX c.e c.g c.s c.x c.l c.t E o os ox ol ot Q (Ux c) b := by
    intro b hb'
    unfold Vo at hb h
    rw [← hb'] at hb h
    refine ⟨fun a => ⟨fun f => ?_, fun f => ?_⟩, fun a => ?_⟩
    · refine hb ?_ _ _ _ _ _ _ _ _ _ (by simp)
      rw [a, show Ux c = false by simpa using f]; rfl
    · have f : Ux c = true := by simpa using f
      rw [a, f] at hb h
      rw [if_pos rfl] at h
      exact aj3 (os := c.s) hs hl2 (fun z => hb (by rw [z]; rfl)) fun z => h (by rw [z]; rfl)
    · rw [a] at hb h
      rw [if_neg (show ¬ (false = true) by decide)] at h
      exact aj3 hs hl2 (fun z => hb (by rw [z]; rfl)) fun z => h (by rw [z]; rfl)
  unfold Jw Af U4 at j4
  refine ⟨fun q => j4 _ ?_, fun q => j4 _ ?_⟩
  · rw [decide_eq_true (show c.k = 21 from q)]; rfl
  · rw [decide_eq_false (show ¬ c.k = 21 from q)]; rfl
def Dk (c : Cm) : Bool := decide (c.k < 20 ∨ c.k = 22 ∨ c.k = 23 ∨ c.k = 26)
theorem ZC (hs : Sm c) (hl2 : c.l.length <= 100) (h0 : Dk c = true -> Q [] true E.1 E.2.1 E.2.2.1 E.2.2.2.1 E.2.2.2.2.1 E.2.2.2.2.2 o.1 o.2 os.1 os.2 ox ol ot) (hb : Dk c = false -> Vo c = false -> Vr Q E)
    (h : Dk c = false -> Vo c = true -> Q (xA c) (!Af c || ug c.t) E.1 (if GX c then c.nd else E.2.1) E.2.2.1 E.2.2.2.1 E.2.2.2.2.1 E.2.2.2.2.2 c.g.1 c.g.2 (if Jw c then c.s else os).1 (if Jw c then c.s else os).2 (if Bi c then c.x else ox) (if Bi c then c.l else ol) (if Af c then c.t else ot)) :
    yf c.e c.g c.s c.x c.l c.t E o os ox ol ot Q := by
  have j1 : ∀ b, b = Dk c -> pK c.e c.g c.s c.x c.l c.t E o os ox ol ot Q b := by
    intro b hb'
    refine ⟨fun a => h0 (by rw [← hb', a]), fun a => ?_⟩
    have z : Dk c = false := by rw [← hb', a]
    have go := aj2 (o := o) hs hl2 (hb z) (h z)
    unfold Ux at go
    refine PL ⟨fun f => ⟨fun p => V6 ?_, fun p => ?_⟩, fun f => ?_⟩
    · rw [f, p, Bool.true_and, Bool.true_and] at go; exact go
    · rw [f, p] at go; exact go
    · rw [f] at go; exact go
  unfold Dk at j1
  refine ⟨fun a => j1 _ (decide_eq_true (.inl a)).symm, fun a => ⟨fun b => j1 _ (decide_eq_true (.inr (.inl b))).symm, fun b => ⟨fun d => j1 _ (decide_eq_true (.inr (.inr (.inl d)))).symm, fun d => j1 _ (decide_eq_decide.2 ?_)⟩⟩⟩
  have a' : ¬ c.k < 20 := a
  have b' : ¬ c.k = 22 := b
  have d' : ¬ c.k = 23 := d
  show c.k = 26 ↔ _
  omega
end
end Go.Wk
