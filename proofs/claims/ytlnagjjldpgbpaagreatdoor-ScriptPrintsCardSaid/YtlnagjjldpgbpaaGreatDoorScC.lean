/- Plain words: the OQ way through a command's things. -/
import Derived.Test.YtlnagjjldpgbpaaGreatDoorScB
set_option linter.unusedSimpArgs false
set_option linter.unusedVariables false
set_option linter.unusedSectionVars false
namespace Go.Wk
open Go.HL
variable [DM]
theorem Yo {n : Int} (h0 : 0 <= n) (h1 : n <= 10000000) {Q : Str -> Prop} (h : Q (jK n)) : vW n Q := by
  obtain ⟨m, rfl⟩ := Int.eq_ofNat_of_zero_le h0
  exact Uy (b := 10) (by decide) (by omega) (by rw [← Sz]; exact h)
theorem Qd {n : Int} (h : 0 <= n /\ n <= 10000000) : (jK n).length <= 21 := vT ⟨by omega, by omega⟩
theorem OU (s r : Str) : (s ++ [32]) ++ r = s ++ 32 :: r := by rw [List.append_assoc]; rfl
abbrev QA : Type := Str -> Bool -> Int -> Int -> Int -> Int -> Int -> Str -> Bool -> Ba 16 -> Bool -> Ba 16 -> Bool -> List Ad -> Str -> Prop
def U2 (Q : QA) (E : aW) : Prop := ∀ (s : Str) n1 g1 g2 s1 s2 x l t, s.length <= 40000 -> Q s false E.1 n1 E.2.2.1 E.2.2.2.1 E.2.2.2.2.1 E.2.2.2.2.2 g1 g2 s1 s2 x l t
section
variable {c : Cm} {E : aW} {Q : QA} {o g os : Ad} {s : Str} {n1 : Int} {ox : Bool} {ol : List Ad} {ot : Str}
def AA (c : Cm) : Bool := decide (c.k = 20)
def zD (c : Cm) : Bool := decide (c.k = 21)
def UD (c : Cm) : Bool := decide (c.k = 24)
def Gn (c : Cm) : Bool := decide (c.k = 25)
theorem aeP (h : Q s (!zD c || vM c.t) E.1 n1 E.2.2.1 E.2.2.2.1 E.2.2.2.2.1 E.2.2.2.2.2 c.g.1 c.g.2 os.1 os.2 ox ol ot) (hs : Sm c) :
    rO c.e c.g c.t E Q os.1 os.2 n1 ox ol ot s := by
  unfold zD at h
  refine ⟨fun q => ?_, fun q => Wu (by have := hs.t; omega) ?_⟩
  · rw [decide_eq_false (show ¬ c.k = 21 from q)] at h; exact h
  · rw [decide_eq_true (show c.k = 21 from q)] at h; exact h
def xT (c : Cm) : Str := if zD c then 32 :: c.t else []
theorem aeQ (hs : Sm c) (hl : s.length <= 30000) (h : Q (s ++ xT c) (!zD c || vM c.t) E.1 n1 E.2.2.1 E.2.2.2.1 E.2.2.2.2.1 E.2.2.2.2.2 c.g.1 c.g.2 os.1 os.2 ox ol (if zD c then c.t else ot)) :
    rQ c.e c.g c.t E ot Q os.1 os.2 n1 ox ol s := by
  have ht := hs.t
  refine ⟨fun q => ⟨by simp only [List.length_cons, List.length_nil]; omega, by simp only [List.length_append, List.length_cons, List.length_nil]; omega, aeP ?_ hs⟩, fun q => aeP ?_ hs⟩
  · have e : zD c = true := decide_eq_true q
    rw [OU]; unfold xT at h; rw [if_pos e, if_pos e] at h; exact h
  · have e : ¬ zD c = true := fun a => q (of_decide_eq_true a)
    unfold xT at h; rw [if_neg e, if_neg e, List.append_nil] at h; exact h
def Dt (c : Cm) : Bool := Jj c.l && (decide (c.l.length <= 64) && c.l.all fun a => a.1 == c.g.1)
def xF (c : Cm) : Str := if AA c then 32 :: TB c.x c.l else []
theorem aj8 (hs : Sm c) (hl : s.length <= 500) (hl2 : c.l.length <= 100) (hb : AA c = true -> Dt c = false -> U2 Q E)
    (h : (AA c = true -> Dt c = true) -> Q ((s ++ xF c) ++ xT c) (!zD c || vM c.t) E.1 n1 E.2.2.1 E.2.2.2.1 E.2.2.2.2.1 E.2.2.2.2.2 c.g.1 c.g.2 os.1 os.2 (if AA c then c.x else ox) (if AA c then c.l else ol) (if zD c then c.t else ot)) :
    qx c.e c.g c.x c.l c.t E ox ol ot Q os.1 os.2 n1 s := by
  have hF := Nk c.x c.l
  refine ⟨fun q => ?_, fun q => ?_⟩
  · have e : AA c = true := decide_eq_true q
    have bad : Dt c = false -> Q [] false E.1 n1 E.2.2.1 E.2.2.2.1 E.2.2.2.2.1 E.2.2.2.2.2 c.g.1 c.g.2 os.1 os.2 c.x c.l ot := fun a => hb e a _ _ _ _ _ _ _ _ _ (by simp)
    have ho := Vq c.l
    have go : Jj c.l = true -> rP c.e c.g c.x c.l c.t E ot Q os.1 os.2 n1 s (decide (64 < (c.l.length : Int))) := by
      intro hset
      refine ⟨fun a => bad ?_, fun a => ?_⟩
      · have := of_decide_eq_true a
        unfold Dt; rw [decide_eq_false (show ¬ c.l.length <= 64 by omega)]; simp
      · have a1 := of_decide_eq_false a
        refine zX c.l.length (fun i => ((c.l.take i).all fun a => a.1 == c.g.1) = true) (by simp) fun K i hi hI hK => ?_
        show tC c.e c.g c.x c.l c.t E ot Q os.1 os.2 n1 s K (i : Int)
        unfold tC
        refine ⟨fun d => ⟨by omega, ?_⟩, fun d => ?_⟩
        · have i1 : i < c.l.length := by omega
          rw [jE i1]
          refine ⟨fun f => bad ?_, fun f => ⟨by (first | omega | (unfold I64; omega) | (simp only [List.length_append, List.length_cons, List.length_nil, List.length_take, List.length_drop] at *; omega) | (unfold I64; simp only [List.length_append, List.length_cons, List.length_nil, List.length_take, List.length_drop] at *; omega)), hK (i + 1) (by omega) (by omega) ?_⟩⟩
          · have : (c.l.all fun a => a.1 == c.g.1) = false := by
              rw [List.all_eq_false]; exact ⟨_, List.getElem_mem i1, by simpa using f⟩
            unfold Dt; rw [this]; simp
          · rw [List.take_succ_eq_append_getElem i1, List.all_append, hI]; simpa using f
        · have i1 : i = c.l.length := by omega
          subst i1
          rw [List.take_length] at hI
          have hgood : Dt c = true := by unfold Dt; rw [hset, hI, decide_eq_true (by omega)]; rfl
          have h := h fun _ => hgood
          refine ⟨by simp only [List.length_cons, List.length_nil]; omega, Ur hs.l ⟨by simp only [List.length_append, List.length_cons, List.length_nil]; omega, ?_⟩⟩
          unfold xF at h
          rw [if_pos e, if_pos e, if_pos e] at h
          rw [OU]
          exact aeQ hs (by simp only [List.length_append, List.length_cons]; omega) h
    refine abQ (by have := hs.l; omega) (RG (by have := hs.l; omega) ⟨fun a => ⟨fun _ => bad ?_, fun b => (by cases b)⟩, fun a => go ?_⟩)
    · have : Jj c.l = false := by unfold Jj; simpa using a
      unfold Dt; rw [this]; rfl
    · unfold Jj; simpa using a
  · have e : ¬ AA c = true := fun a => q (of_decide_eq_true a)
    have h := h fun a => absurd a e
    unfold xF at h
    rw [if_neg e, if_neg e, if_neg e, List.append_nil] at h
    exact aeQ hs (by omega) h
def MC (c : Cm) : Bool := decide (0 <= c.nd /\ c.nd <= 65535)
def xN (c : Cm) : Str := if Gn c then 32 :: jK c.nd else []
def L8 (c : Cm) : Bool := (!Gn c || MC c) && (!AA c || Dt c)
theorem aj7 (hs : Sm c) (hl : s.length <= 400) (hl2 : c.l.length <= 100) (hb : L8 c = false -> U2 Q E)
    (h : L8 c = true -> Q (((s ++ xN c) ++ xF c) ++ xT c) (!zD c || vM c.t) E.1 (if Gn c then c.nd else E.2.1) E.2.2.1 E.2.2.2.1 E.2.2.2.2.1 E.2.2.2.2.2 c.g.1 c.g.2 os.1 os.2 (if AA c then c.x else ox) (if AA c then c.l else ol) (if zD c then c.t else ot)) :
    tJ c.e c.g c.x c.l c.t E ox ol ot Q os.1 os.2 s := by
  have fin : ∀ n1, (Gn c = true -> MC c = true) -> n1 = (if Gn c then c.nd else E.2.1) -> qx c.e c.g c.x c.l c.t E ox ol ot Q os.1 os.2 n1 (s ++ xN c) := by
    intro n1 hn hn1
    subst hn1
    have hx : (xN c).length <= 22 := by
      unfold xN; split
      · rename_i q
        have := of_decide_eq_true (hn q)
        have := Qd (n := c.nd) (by omega)
        rw [List.length_cons]; omega
      · simp
    refine aj8 hs (by rw [List.length_append]; omega) hl2 (fun a b => hb ?_) fun a => h ?_
    · unfold L8; rw [a, b]; simp
    · unfold L8
      cases e : Gn c
      · cases f : AA c
        · rfl
        · rw [a f]; rfl
      · rw [hn e]
        cases f : AA c
        · rfl
        · rw [a f]; rfl
  refine ⟨fun q => ?_, fun q => ?_⟩
  · have e : Gn c = true := decide_eq_true q
    have j9 : ∀ b, b = !MC c -> tH c.e c.g c.x c.l c.t E ox ol ot Q os.1 os.2 s b := by
      intro b hb'
      refine ⟨fun a => ?_, fun a => ?_⟩
      · refine hb ?_ _ _ _ _ _ _ _ _ _ (by simp)
        unfold L8; rw [e, show MC c = false by rw [a] at hb'; simpa using hb'.symm]; rfl
      · have hn : MC c = true := by rw [a] at hb'; simpa using hb'.symm
        have hr := of_decide_eq_true hn
        have hB := Qd (n := c.nd) (by omega)
        have f := fin c.nd (fun _ => hn) (by rw [if_pos e])
        unfold xN at f
        rw [if_pos e] at f
        refine ⟨by simp only [List.length_cons, List.length_nil]; omega, Yo hr.1 (by show c.nd <= _; omega) ⟨by simp only [List.length_append, List.length_cons, List.length_nil]; show _ + ((jK c.nd).length : Int) <= _; omega, ?_⟩⟩
        rw [OU]; exact f
    refine ⟨fun a => j9 _ ?_, fun a => j9 _ ?_⟩
    · unfold MC; rw [decide_eq_false (fun r => by have : c.nd < 0 := a; omega)]; rfl
    · unfold MC
      rw [← decide_not]; exact decide_eq_decide.2 (by have : ¬ c.nd < 0 := a; show 65535 < c.nd ↔ _; omega)
  · have e : ¬ Gn c = true := fun a => q (of_decide_eq_true a)
    have f := fin E.2.1 (fun a => absurd a e) (by rw [if_neg e])
    unfold xN at f
    rw [if_neg e, List.append_nil] at f
    exact f
def xS (c : Cm) : Str := if UD c then 32 :: txt c.s else []
theorem aj6 (hs : Sm c) (hl : s.length <= 150) (hl2 : c.l.length <= 100) (hb : L8 c = false -> U2 Q E)
    (h : L8 c = true -> Q (((((s ++ 32 :: txt c.g) ++ xS c) ++ xN c) ++ xF c) ++ xT c) (!zD c || vM c.t) E.1 (if Gn c then c.nd else E.2.1) E.2.2.1 E.2.2.2.1 E.2.2.2.2.1 E.2.2.2.2.2 c.g.1 c.g.2 os.1 os.2 (if AA c then c.x else ox) (if AA c then c.l else ol) (if zD c then c.t else ot)) :
    tK c.e c.g c.s c.x c.l c.t E ox ol ot Q os.1 os.2 s := by
  have h1 := Ah c.g
  have h2 := Ah c.s
  refine ⟨by simp only [List.length_cons, List.length_nil]; omega, GI ⟨by simp only [List.length_append, List.length_cons, List.length_nil]; omega, fun q => ⟨by simp only [List.length_append, List.length_cons, List.length_nil]; omega, GI ⟨by simp only [List.length_append, List.length_cons, List.length_nil]; omega, ?_⟩⟩, fun q => ?_⟩⟩
  · have e : UD c = true := decide_eq_true q
    unfold xS at h; rw [if_pos e] at h
    rw [OU, OU]
    exact aj7 hs (by simp only [List.length_append, List.length_cons]; omega) hl2 hb h
  · have e : ¬ UD c = true := fun a => q (of_decide_eq_true a)
    unfold xS at h; rw [if_neg e, List.append_nil] at h
    rw [OU]
    exact aj7 hs (by simp only [List.length_append, List.length_cons]; omega) hl2 hb h
def xR (c : Cm) : Str := if zD c then 32 :: txt c.s else []
def xA (c : Cm) : Str := ((((xR c ++ 32 :: txt c.g) ++ xS c) ++ xN c) ++ xF c) ++ xT c
theorem aj5 (hs : Sm c) (hl2 : c.l.length <= 100) (hb : L8 c = false -> U2 Q E)
    (h : L8 c = true -> Q (xA c) (!zD c || vM c.t) E.1 (if Gn c then c.nd else E.2.1) E.2.2.1 E.2.2.2.1 E.2.2.2.2.1 E.2.2.2.2.2 c.g.1 c.g.2 os.1 os.2 (if AA c then c.x else ox) (if AA c then c.l else ol) (if zD c then c.t else ot)) :
    qy c.e c.g c.s c.x c.l c.t E ox ol ot Q os.1 os.2 := by
  have h2 := Ah c.s
  unfold xA xR at h
  refine ⟨fun q => GI ⟨by simp only [List.length_cons, List.length_nil]; omega, ?_⟩, fun q => ?_⟩
  · rw [if_pos (show zD c = true from decide_eq_true q)] at h
    exact aj6 hs (by simp only [List.length_append, List.length_cons, List.length_nil]; omega) hl2 hb h
  · rw [if_neg (show ¬ zD c = true from fun a => q (of_decide_eq_true a))] at h
    exact aj6 hs (by simp) hl2 hb h
def UI (c : Cm) : Bool := ru c.g && (gG c.g || (Gn c && zZ c.g))
theorem aj3 (hs : Sm c) (hl2 : c.l.length <= 100) (hb : (UI c && L8 c) = false -> U2 Q E)
    (h : (UI c && L8 c) = true -> Q (xA c) (!zD c || vM c.t) E.1 (if Gn c then c.nd else E.2.1) E.2.2.1 E.2.2.2.1 E.2.2.2.2.1 E.2.2.2.2.2 c.g.1 c.g.2 os.1 os.2 (if AA c then c.x else ox) (if AA c then c.l else ol) (if zD c then c.t else ot)) :
    tV c.e c.g c.s c.x c.l c.t E ox ol ot Q os.1 os.2 := by
  have bad : UI c = false -> Q [] false E.1 E.2.1 E.2.2.1 E.2.2.2.1 E.2.2.2.2.1 E.2.2.2.2.2 c.g.1 c.g.2 os.1 os.2 ox ol ot := fun a => hb (by rw [a]; rfl) _ _ _ _ _ _ _ _ _ (by simp)
  have go : UI c = true -> qy c.e c.g c.s c.x c.l c.t E ox ol ot Q os.1 os.2 := fun a =>
    aj5 hs hl2 (fun b => hb (by rw [a, b]; rfl)) fun b => h (by rw [a, b]; rfl)
  unfold UI Gn at bad go
  refine OC ⟨fun a => bad ?_, fun a => ?_⟩
  · rw [show ru c.g = false by simpa using a]; rfl
  · have a : ru c.g = true := by simpa using a
    rw [a, Bool.true_and] at bad go
    refine VF ⟨fun b => ?_, fun b => ?_⟩
    · have b : gG c.g = false := by simpa using b
      rw [b, Bool.false_or] at bad go
      refine ⟨fun f => bad ?_, fun f => ?_⟩
      · rw [decide_eq_false (show ¬ c.k = 25 from f)]; rfl
      · rw [decide_eq_true (show c.k = 25 from f), Bool.true_and] at bad go
        refine Xd ⟨fun z => bad (by simpa using z), fun z => go (by simpa using z)⟩
    · have b : gG c.g = true := by simpa using b
      rw [b, Bool.true_or] at go
      exact go rfl
def TF (c : Cm) : Bool := ru c.s && ((c.s.1 == c.g.1) && !gG c.s)
def I8 (c : Cm) : Bool := zD c || UD c
def UZ (c : Cm) : Bool := (!I8 c || TF c) && (UI c && L8 c)
theorem aj2 (hs : Sm c) (hl2 : c.l.length <= 100) (hb : UZ c = false -> U2 Q E)
    (h : UZ c = true -> Q (xA c) (!zD c || vM c.t) E.1 (if Gn c then c.nd else E.2.1) E.2.2.1 E.2.2.2.1 E.2.2.2.2.1 E.2.2.2.2.2 c.g.1 c.g.2 (if I8 c then c.s else os).1 (if I8 c then c.s else os).2 (if AA c then c.x else ox) (if AA c then c.l else ol) (if zD c then c.t else ot)) :
    qA c.e c.g c.s c.x c.l c.t E o os ox ol ot Q (TF c) := by
  have j4 : ∀ b, b = I8 c -> tN c.e c.g c.s c.x c.l c.t E o os ox ol ot Q (TF c) b := by
    intro b hb'
    unfold UZ at hb h
    rw [← hb'] at hb h
    refine ⟨fun a => ⟨fun f => ?_, fun f => ?_⟩, fun a => ?_⟩
    · refine hb ?_ _ _ _ _ _ _ _ _ _ (by simp)
      rw [a, show TF c = false by simpa using f]; rfl
    · have f : TF c = true := by simpa using f
      rw [a, f] at hb h
      rw [if_pos rfl] at h
      exact aj3 (os := c.s) hs hl2 (fun z => hb (by rw [z]; rfl)) fun z => h (by rw [z]; rfl)
    · rw [a] at hb h
      rw [if_neg (show ¬ (false = true) by decide)] at h
      exact aj3 hs hl2 (fun z => hb (by rw [z]; rfl)) fun z => h (by rw [z]; rfl)
  unfold I8 zD UD at j4
  refine ⟨fun q => j4 _ ?_, fun q => j4 _ ?_⟩
  · rw [decide_eq_true (show c.k = 21 from q)]; rfl
  · rw [decide_eq_false (show ¬ c.k = 21 from q)]; rfl
def Cj (c : Cm) : Bool := decide (c.k < 20 ∨ c.k = 22 ∨ c.k = 23 ∨ c.k = 26)
theorem Zt (hs : Sm c) (hl2 : c.l.length <= 100) (h0 : Cj c = true -> Q [] true E.1 E.2.1 E.2.2.1 E.2.2.2.1 E.2.2.2.2.1 E.2.2.2.2.2 o.1 o.2 os.1 os.2 ox ol ot) (hb : Cj c = false -> UZ c = false -> U2 Q E)
    (h : Cj c = false -> UZ c = true -> Q (xA c) (!zD c || vM c.t) E.1 (if Gn c then c.nd else E.2.1) E.2.2.1 E.2.2.2.1 E.2.2.2.2.1 E.2.2.2.2.2 c.g.1 c.g.2 (if I8 c then c.s else os).1 (if I8 c then c.s else os).2 (if AA c then c.x else ox) (if AA c then c.l else ol) (if zD c then c.t else ot)) :
    xP c.e c.g c.s c.x c.l c.t E o os ox ol ot Q := by
  have j1 : ∀ b, b = Cj c -> oZ c.e c.g c.s c.x c.l c.t E o os ox ol ot Q b := by
    intro b hb'
    refine ⟨fun a => h0 (by rw [← hb', a]), fun a => ?_⟩
    have z : Cj c = false := by rw [← hb', a]
    have go := aj2 (o := o) hs hl2 (hb z) (h z)
    unfold TF at go
    refine OC ⟨fun f => ⟨fun p => VF ?_, fun p => ?_⟩, fun f => ?_⟩
    · rw [f, p, Bool.true_and, Bool.true_and] at go; exact go
    · rw [f, p] at go; exact go
    · rw [f] at go; exact go
  unfold Cj at j1
  refine ⟨fun a => j1 _ (decide_eq_true (.inl a)).symm, fun a => ⟨fun b => j1 _ (decide_eq_true (.inr (.inl b))).symm, fun b => ⟨fun d => j1 _ (decide_eq_true (.inr (.inr (.inl d)))).symm, fun d => j1 _ (decide_eq_decide.2 ?_)⟩⟩⟩
  have a' : ¬ c.k < 20 := a
  have b' : ¬ c.k = 22 := b
  have d' : ¬ c.k = 23 := d
  show c.k = 26 ↔ _
  omega
end
end Go.Wk
