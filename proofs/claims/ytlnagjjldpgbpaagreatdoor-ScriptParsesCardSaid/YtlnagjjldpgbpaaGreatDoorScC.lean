/- Plain words: the axf way through a command's things. -/
import Derived.Test.YtlnagjjldpgbpaaGreatDoorScB
set_option linter.unusedSimpArgs false
set_option linter.unusedVariables false
set_option linter.unusedSectionVars false
namespace Go.Wk
open Go.HL
variable [DM]
theorem a7q {n : Int} (h0 : 0 <= n) (h1 : n <= 10000000) {Q : Str -> Prop} (h : Q (zo n)) : agv n Q := by
  obtain ⟨m, rfl⟩ := Int.eq_ofNat_of_zero_le h0
  exact a2d (b := 10) (by decide) (by omega) (by rw [← a0w]; exact h)
theorem ayt {n : Int} (h : 0 <= n /\ n <= 10000000) : (zo n).length <= 21 := alb ⟨by omega, by omega⟩
theorem axh (s r : Str) : (s ++ [32]) ++ r = s ++ 32 :: r := by rw [List.append_assoc]; rfl
abbrev QA : Type := Str -> Bool -> Int -> Int -> Int -> Int -> Int -> Str -> Bool -> Ba 16 -> Bool -> Ba 16 -> Bool -> List Ad -> Str -> Prop
def a2y (Q : QA) (E : ig) : Prop := ∀ (s : Str) n1 g1 g2 s1 s2 x l t, s.length <= 40000 -> Q s false E.1 n1 E.2.2.1 E.2.2.2.1 E.2.2.2.2.1 E.2.2.2.2.2 g1 g2 s1 s2 x l t
section
variable {c : Cm} {E : ig} {Q : QA} {o g os : Ad} {s : Str} {n1 : Int} {ox : Bool} {ol : List Ad} {ot : Str}
def akb (c : Cm) : Bool := decide (c.k = 20)
def ajf (c : Cm) : Bool := decide (c.k = 21)
def a2i (c : Cm) : Bool := decide (c.k = 24)
def apd (c : Cm) : Bool := decide (c.k = 25)
theorem bhn (h : Q s (!ajf c || af2 c.t) E.1 n1 E.2.2.1 E.2.2.2.1 E.2.2.2.2.1 E.2.2.2.2.2 c.g.1 c.g.2 os.1 os.2 ox ol ot) (hs : Sm c) :
    aet c.e c.g c.t E Q os.1 os.2 n1 ox ol ot s := by
  unfold ajf at h
  refine ⟨fun q => ?_, fun q => a5k (by have := hs.t; omega) ?_⟩
  · rw [decide_eq_false (show ¬ c.k = 21 from q)] at h; exact h
  · rw [decide_eq_true (show c.k = 21 from q)] at h; exact h
def xT (c : Cm) : Str := if ajf c then 32 :: c.t else []
theorem bho (hs : Sm c) (hl : s.length <= 30000) (h : Q (s ++ xT c) (!ajf c || af2 c.t) E.1 n1 E.2.2.1 E.2.2.2.1 E.2.2.2.2.1 E.2.2.2.2.2 c.g.1 c.g.2 os.1 os.2 ox ol (if ajf c then c.t else ot)) :
    aev c.e c.g c.t E ot Q os.1 os.2 n1 ox ol s := by
  have ht := hs.t
  refine ⟨fun q => ⟨by simp only [List.length_cons, List.length_nil]; omega, by simp only [List.length_append, List.length_cons, List.length_nil]; omega, bhn ?_ hs⟩, fun q => bhn ?_ hs⟩
  · have e : ajf c = true := decide_eq_true q
    rw [axh]; unfold xT at h; rw [if_pos e, if_pos e] at h; exact h
  · have e : ¬ ajf c = true := fun a => q (of_decide_eq_true a)
    unfold xT at h; rw [if_neg e, if_neg e, List.append_nil] at h; exact h
def amn (c : Cm) : Bool := arv c.l && (decide (c.l.length <= 64) && c.l.all fun a => a.1 == c.g.1)
def xF (c : Cm) : Str := if akb c then 32 :: txF c.x c.l else []
theorem aj8 (hs : Sm c) (hl : s.length <= 500) (hl2 : c.l.length <= 100) (hb : akb c = true -> amn c = false -> a2y Q E)
    (h : (akb c = true -> amn c = true) -> Q ((s ++ xF c) ++ xT c) (!ajf c || af2 c.t) E.1 n1 E.2.2.1 E.2.2.2.1 E.2.2.2.2.1 E.2.2.2.2.2 c.g.1 c.g.2 os.1 os.2 (if akb c then c.x else ox) (if akb c then c.l else ol) (if ajf c then c.t else ot)) :
    ad1 c.e c.g c.x c.l c.t E ox ol ot Q os.1 os.2 n1 s := by
  have hF := azf c.x c.l
  refine ⟨fun q => ?_, fun q => ?_⟩
  · have e : akb c = true := decide_eq_true q
    have bad : amn c = false -> Q [] false E.1 n1 E.2.2.1 E.2.2.2.1 E.2.2.2.2.1 E.2.2.2.2.2 c.g.1 c.g.2 os.1 os.2 c.x c.l ot := fun a => hb e a _ _ _ _ _ _ _ _ _ (by simp)
    have ho := a3s c.l
    have go : arv c.l = true -> aeu c.e c.g c.x c.l c.t E ot Q os.1 os.2 n1 s (decide (64 < (c.l.length : Int))) := by
      intro hset
      refine ⟨fun a => bad ?_, fun a => ?_⟩
      · have := of_decide_eq_true a
        unfold amn; rw [decide_eq_false (show ¬ c.l.length <= 64 by omega)]; simp
      · have a1 := of_decide_eq_false a
        refine ajr c.l.length (fun i => ((c.l.take i).all fun a => a.1 == c.g.1) = true) (by simp) fun K i hi hI hK => ?_
        show ae5 c.e c.g c.x c.l c.t E ot Q os.1 os.2 n1 s K (i : Int)
        unfold ae5
        refine ⟨fun d => ⟨by omega, ?_⟩, fun d => ?_⟩
        · have i1 : i < c.l.length := by omega
          rw [y7 i1]
          refine ⟨fun f => bad ?_, fun f => ⟨by (first | omega | (unfold I64; omega) | (simp only [List.length_append, List.length_cons, List.length_nil, List.length_take, List.length_drop] at *; omega) | (unfold I64; simp only [List.length_append, List.length_cons, List.length_nil, List.length_take, List.length_drop] at *; omega)), hK (i + 1) (by omega) (by omega) ?_⟩⟩
          · have : (c.l.all fun a => a.1 == c.g.1) = false := by
              rw [List.all_eq_false]; exact ⟨_, List.getElem_mem i1, by simpa using f⟩
            unfold amn; rw [this]; simp
          · rw [List.take_succ_eq_append_getElem i1, List.all_append, hI]; simpa using f
        · have i1 : i = c.l.length := by omega
          subst i1
          rw [List.take_length] at hI
          have hgood : amn c = true := by unfold amn; rw [hset, hI, decide_eq_true (by omega)]; rfl
          have h := h fun _ => hgood
          refine ⟨by simp only [List.length_cons, List.length_nil]; omega, a19 hs.l ⟨by simp only [List.length_append, List.length_cons, List.length_nil]; omega, ?_⟩⟩
          unfold xF at h
          rw [if_pos e, if_pos e, if_pos e] at h
          rw [axh]
          exact bho hs (by simp only [List.length_append, List.length_cons]; omega) h
    refine bdj (by have := hs.l; omega) (a0f (by have := hs.l; omega) ⟨fun a => ⟨fun _ => bad ?_, fun b => (by cases b)⟩, fun a => go ?_⟩)
    · have : arv c.l = false := by unfold arv; simpa using a
      unfold amn; rw [this]; rfl
    · unfold arv; simpa using a
  · have e : ¬ akb c = true := fun a => q (of_decide_eq_true a)
    have h := h fun a => absurd a e
    unfold xF at h
    rw [if_neg e, if_neg e, if_neg e, List.append_nil] at h
    exact bho hs (by omega) h
def au4 (c : Cm) : Bool := decide (0 <= c.nd /\ c.nd <= 65535)
def xN (c : Cm) : Str := if apd c then 32 :: zo c.nd else []
def au0 (c : Cm) : Bool := (!apd c || au4 c) && (!akb c || amn c)
theorem aj7 (hs : Sm c) (hl : s.length <= 400) (hl2 : c.l.length <= 100) (hb : au0 c = false -> a2y Q E)
    (h : au0 c = true -> Q (((s ++ xN c) ++ xF c) ++ xT c) (!ajf c || af2 c.t) E.1 (if apd c then c.nd else E.2.1) E.2.2.1 E.2.2.2.1 E.2.2.2.2.1 E.2.2.2.2.2 c.g.1 c.g.2 os.1 os.2 (if akb c then c.x else ox) (if akb c then c.l else ol) (if ajf c then c.t else ot)) :
    ae7 c.e c.g c.x c.l c.t E ox ol ot Q os.1 os.2 s := by
  have fin : ∀ n1, (apd c = true -> au4 c = true) -> n1 = (if apd c then c.nd else E.2.1) -> ad1 c.e c.g c.x c.l c.t E ox ol ot Q os.1 os.2 n1 (s ++ xN c) := by
    intro n1 hn hn1
    subst hn1
    have hx : (xN c).length <= 22 := by
      unfold xN; split
      · rename_i q
        have := of_decide_eq_true (hn q)
        have := ayt (n := c.nd) (by omega)
        rw [List.length_cons]; omega
      · simp
    refine aj8 hs (by rw [List.length_append]; omega) hl2 (fun a b => hb ?_) fun a => h ?_
    · unfold au0; rw [a, b]; simp
    · unfold au0
      cases e : apd c
      · cases f : akb c
        · rfl
        · rw [a f]; rfl
      · rw [hn e]
        cases f : akb c
        · rfl
        · rw [a f]; rfl
  refine ⟨fun q => ?_, fun q => ?_⟩
  · have e : apd c = true := decide_eq_true q
    have j9 : ∀ b, b = !au4 c -> ae6 c.e c.g c.x c.l c.t E ox ol ot Q os.1 os.2 s b := by
      intro b hb'
      refine ⟨fun a => ?_, fun a => ?_⟩
      · refine hb ?_ _ _ _ _ _ _ _ _ _ (by simp)
        unfold au0; rw [e, show au4 c = false by rw [a] at hb'; simpa using hb'.symm]; rfl
      · have hn : au4 c = true := by rw [a] at hb'; simpa using hb'.symm
        have hr := of_decide_eq_true hn
        have hB := ayt (n := c.nd) (by omega)
        have f := fin c.nd (fun _ => hn) (by rw [if_pos e])
        unfold xN at f
        rw [if_pos e] at f
        refine ⟨by simp only [List.length_cons, List.length_nil]; omega, a7q hr.1 (by show c.nd <= _; omega) ⟨by simp only [List.length_append, List.length_cons, List.length_nil]; show _ + ((zo c.nd).length : Int) <= _; omega, ?_⟩⟩
        rw [axh]; exact f
    refine ⟨fun a => j9 _ ?_, fun a => j9 _ ?_⟩
    · unfold au4; rw [decide_eq_false (fun r => by have : c.nd < 0 := a; omega)]; rfl
    · unfold au4
      rw [← decide_not]; exact decide_eq_decide.2 (by have : ¬ c.nd < 0 := a; show 65535 < c.nd ↔ _; omega)
  · have e : ¬ apd c = true := fun a => q (of_decide_eq_true a)
    have f := fin E.2.1 (fun a => absurd a e) (by rw [if_neg e])
    unfold xN at f
    rw [if_neg e, List.append_nil] at f
    exact f
def xS (c : Cm) : Str := if a2i c then 32 :: txt c.s else []
theorem aj6 (hs : Sm c) (hl : s.length <= 150) (hl2 : c.l.length <= 100) (hb : au0 c = false -> a2y Q E)
    (h : au0 c = true -> Q (((((s ++ 32 :: txt c.g) ++ xS c) ++ xN c) ++ xF c) ++ xT c) (!ajf c || af2 c.t) E.1 (if apd c then c.nd else E.2.1) E.2.2.1 E.2.2.2.1 E.2.2.2.2.1 E.2.2.2.2.2 c.g.1 c.g.2 os.1 os.2 (if akb c then c.x else ox) (if akb c then c.l else ol) (if ajf c then c.t else ot)) :
    ae8 c.e c.g c.s c.x c.l c.t E ox ol ot Q os.1 os.2 s := by
  have h1 := al7 c.g
  have h2 := al7 c.s
  refine ⟨by simp only [List.length_cons, List.length_nil]; omega, apj ⟨by simp only [List.length_append, List.length_cons, List.length_nil]; omega, fun q => ⟨by simp only [List.length_append, List.length_cons, List.length_nil]; omega, apj ⟨by simp only [List.length_append, List.length_cons, List.length_nil]; omega, ?_⟩⟩, fun q => ?_⟩⟩
  · have e : a2i c = true := decide_eq_true q
    unfold xS at h; rw [if_pos e] at h
    rw [axh, axh]
    exact aj7 hs (by simp only [List.length_append, List.length_cons]; omega) hl2 hb h
  · have e : ¬ a2i c = true := fun a => q (of_decide_eq_true a)
    unfold xS at h; rw [if_neg e, List.append_nil] at h
    rw [axh]
    exact aj7 hs (by simp only [List.length_append, List.length_cons]; omega) hl2 hb h
def xR (c : Cm) : Str := if ajf c then 32 :: txt c.s else []
def xA (c : Cm) : Str := ((((xR c ++ 32 :: txt c.g) ++ xS c) ++ xN c) ++ xF c) ++ xT c
theorem aj5 (hs : Sm c) (hl2 : c.l.length <= 100) (hb : au0 c = false -> a2y Q E)
    (h : au0 c = true -> Q (xA c) (!ajf c || af2 c.t) E.1 (if apd c then c.nd else E.2.1) E.2.2.1 E.2.2.2.1 E.2.2.2.2.1 E.2.2.2.2.2 c.g.1 c.g.2 os.1 os.2 (if akb c then c.x else ox) (if akb c then c.l else ol) (if ajf c then c.t else ot)) :
    ad2 c.e c.g c.s c.x c.l c.t E ox ol ot Q os.1 os.2 := by
  have h2 := al7 c.s
  unfold xA xR at h
  refine ⟨fun q => apj ⟨by simp only [List.length_cons, List.length_nil]; omega, ?_⟩, fun q => ?_⟩
  · rw [if_pos (show ajf c = true from decide_eq_true q)] at h
    exact aj6 hs (by simp only [List.length_append, List.length_cons, List.length_nil]; omega) hl2 hb h
  · rw [if_neg (show ¬ ajf c = true from fun a => q (of_decide_eq_true a))] at h
    exact aj6 hs (by simp) hl2 hb h
def a2l (c : Cm) : Bool := aen c.g && (gG c.g || (apd c && zZ c.g))
theorem aj3 (hs : Sm c) (hl2 : c.l.length <= 100) (hb : (a2l c && au0 c) = false -> a2y Q E)
    (h : (a2l c && au0 c) = true -> Q (xA c) (!ajf c || af2 c.t) E.1 (if apd c then c.nd else E.2.1) E.2.2.1 E.2.2.2.1 E.2.2.2.2.1 E.2.2.2.2.2 c.g.1 c.g.2 os.1 os.2 (if akb c then c.x else ox) (if akb c then c.l else ol) (if ajf c then c.t else ot)) :
    afa c.e c.g c.s c.x c.l c.t E ox ol ot Q os.1 os.2 := by
  have bad : a2l c = false -> Q [] false E.1 E.2.1 E.2.2.1 E.2.2.2.1 E.2.2.2.2.1 E.2.2.2.2.2 c.g.1 c.g.2 os.1 os.2 ox ol ot := fun a => hb (by rw [a]; rfl) _ _ _ _ _ _ _ _ _ (by simp)
  have go : a2l c = true -> ad2 c.e c.g c.s c.x c.l c.t E ox ol ot Q os.1 os.2 := fun a =>
    aj5 hs hl2 (fun b => hb (by rw [a, b]; rfl)) fun b => h (by rw [a, b]; rfl)
  unfold a2l apd at bad go
  refine aw6 ⟨fun a => bad ?_, fun a => ?_⟩
  · rw [show aen c.g = false by simpa using a]; rfl
  · have a : aen c.g = true := by simpa using a
    rw [a, Bool.true_and] at bad go
    refine a4e ⟨fun b => ?_, fun b => ?_⟩
    · have b : gG c.g = false := by simpa using b
      rw [b, Bool.false_or] at bad go
      refine ⟨fun f => bad ?_, fun f => ?_⟩
      · rw [decide_eq_false (show ¬ c.k = 25 from f)]; rfl
      · rw [decide_eq_true (show c.k = 25 from f), Bool.true_and] at bad go
        refine a6i ⟨fun z => bad (by simpa using z), fun z => go (by simpa using z)⟩
    · have b : gG c.g = true := by simpa using b
      rw [b, Bool.true_or] at go
      exact go rfl
def a1p (c : Cm) : Bool := aen c.s && ((c.s.1 == c.g.1) && !gG c.s)
def ark (c : Cm) : Bool := ajf c || a2i c
def a2v (c : Cm) : Bool := (!ark c || a1p c) && (a2l c && au0 c)
theorem aj2 (hs : Sm c) (hl2 : c.l.length <= 100) (hb : a2v c = false -> a2y Q E)
    (h : a2v c = true -> Q (xA c) (!ajf c || af2 c.t) E.1 (if apd c then c.nd else E.2.1) E.2.2.1 E.2.2.2.1 E.2.2.2.2.1 E.2.2.2.2.2 c.g.1 c.g.2 (if ark c then c.s else os).1 (if ark c then c.s else os).2 (if akb c then c.x else ox) (if akb c then c.l else ol) (if ajf c then c.t else ot)) :
    ad3 c.e c.g c.s c.x c.l c.t E o os ox ol ot Q (a1p c) := by
  have j4 : ∀ b, b = ark c -> ae9 c.e c.g c.s c.x c.l c.t E o os ox ol ot Q (a1p c) b := by
    intro b hb'
    unfold a2v at hb h
    rw [← hb'] at hb h
    refine ⟨fun a => ⟨fun f => ?_, fun f => ?_⟩, fun a => ?_⟩
    · refine hb ?_ _ _ _ _ _ _ _ _ _ (by simp)
      rw [a, show a1p c = false by simpa using f]; rfl
    · have f : a1p c = true := by simpa using f
      rw [a, f] at hb h
      rw [if_pos rfl] at h
      exact aj3 (os := c.s) hs hl2 (fun z => hb (by rw [z]; rfl)) fun z => h (by rw [z]; rfl)
    · rw [a] at hb h
      rw [if_neg (show ¬ (false = true) by decide)] at h
      exact aj3 hs hl2 (fun z => hb (by rw [z]; rfl)) fun z => h (by rw [z]; rfl)
  unfold ark ajf a2i at j4
  refine ⟨fun q => j4 _ ?_, fun q => j4 _ ?_⟩
  · rw [decide_eq_true (show c.k = 21 from q)]; rfl
  · rw [decide_eq_false (show ¬ c.k = 21 from q)]; rfl
def alu (c : Cm) : Bool := decide (c.k < 20 ∨ c.k = 22 ∨ c.k = 23 ∨ c.k = 26)
theorem a9y (hs : Sm c) (hl2 : c.l.length <= 100) (h0 : alu c = true -> Q [] true E.1 E.2.1 E.2.2.1 E.2.2.2.1 E.2.2.2.2.1 E.2.2.2.2.2 o.1 o.2 os.1 os.2 ox ol ot) (hb : alu c = false -> a2v c = false -> a2y Q E)
    (h : alu c = false -> a2v c = true -> Q (xA c) (!ajf c || af2 c.t) E.1 (if apd c then c.nd else E.2.1) E.2.2.1 E.2.2.2.1 E.2.2.2.2.1 E.2.2.2.2.2 c.g.1 c.g.2 (if ark c then c.s else os).1 (if ark c then c.s else os).2 (if akb c then c.x else ox) (if akb c then c.l else ol) (if ajf c then c.t else ot)) :
    ahx c.e c.g c.s c.x c.l c.t E o os ox ol ot Q := by
  have j1 : ∀ b, b = alu c -> ac5 c.e c.g c.s c.x c.l c.t E o os ox ol ot Q b := by
    intro b hb'
    refine ⟨fun a => h0 (by rw [← hb', a]), fun a => ?_⟩
    have z : alu c = false := by rw [← hb', a]
    have go := aj2 (o := o) hs hl2 (hb z) (h z)
    unfold a1p at go
    refine aw6 ⟨fun f => ⟨fun p => a4e ?_, fun p => ?_⟩, fun f => ?_⟩
    · rw [f, p, Bool.true_and, Bool.true_and] at go; exact go
    · rw [f, p] at go; exact go
    · rw [f] at go; exact go
  unfold alu at j1
  refine ⟨fun a => j1 _ (decide_eq_true (.inl a)).symm, fun a => ⟨fun b => j1 _ (decide_eq_true (.inr (.inl b))).symm, fun b => ⟨fun d => j1 _ (decide_eq_true (.inr (.inr (.inl d)))).symm, fun d => j1 _ (decide_eq_decide.2 ?_)⟩⟩⟩
  have a' : ¬ c.k < 20 := a
  have b' : ¬ c.k = 22 := b
  have d' : ¬ c.k = 23 := d
  show c.k = 26 ↔ _
  omega
end
end Go.Wk
