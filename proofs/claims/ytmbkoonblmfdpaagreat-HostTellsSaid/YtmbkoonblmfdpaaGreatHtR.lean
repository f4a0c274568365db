/- Plain words: hosts that listen: records packed into reports; what a host says of a change, and to a general query. -/
import Derived.Test.YtmbkoonblmfdpaaGreatHtP
set_option linter.unusedSimpArgs false
set_option linter.unusedVariables false
set_option linter.unusedSectionVars false
namespace Go.Wk
open Go.HL
variable [DM]
abbrev Rb := Int × Ad × List Ad
abbrev Tk := dD
abbrev Tb := Bool × Int × Int × Int × Ad × Bool × Int × Int × List Ad × List Rb
def tb (t : Tk) : Tb := (t.1, t.2.1, t.2.2.1, t.2.2.2.1, t.2.2.2.2.1, t.2.2.2.2.2.1, t.2.2.2.2.2.2.1, t.2.2.2.2.2.2.2.1, t.2.2.2.2.2.2.2.2.1.2, t.2.2.2.2.2.2.2.2.2.2.map rk)
def Ur (v6 : Bool) (r : Rb) : Int := if v6 then 20 + 16 * (r.2.2.length : Int) else 8 + 4 * (r.2.2.length : Int)
def KP (v6 : Bool) : List Rb -> Int -> List Rb -> List (List Rb)
  | c, _, [] => [c]
  | c, room, r :: l => if c.length = 64 ∨ room < Ur v6 r then c :: KP v6 [r] (1392 - Ur v6 r) l else KP v6 (c ++ [r]) (room - Ur v6 r) l
def Dl (v6 : Bool) : List Rb -> List (List Rb)
  | [] => []
  | r :: l => KP v6 [r] (1392 - Ur v6 r) l
def OG (v6 : Bool) : Int := if v6 then 2 else 3
def mkT (v6 : Bool) (l : List Rb) : Tb := (v6, OG v6, 2, 0, (false, default), false, 0, 0, [], l)
theorem QJ {v6 : Bool} {Q : Int -> Prop} (h : Q (OG v6)) : BV v6 Q := by
  refine ⟨fun c => ?_, fun c => ?_⟩ <;> (subst c; exact h)
theorem abO {v6 : Bool} {k : Int} {g : Ad} {s : List Ad} {Q : Int -> Prop} (hl : s.length <= 1000000) (h : Q (Ur v6 (k, g, s))) : KT v6 k g s Q := by
  refine ⟨fun c => ?_, fun c => ?_⟩ <;> (subst c; exact ⟨by (first | omega | (unfold I64; omega) | (simp only [List.length_append, List.length_cons, List.length_nil, List.length_take, List.length_drop] at *; omega) | (unfold I64; simp only [List.length_append, List.length_cons, List.length_nil, List.length_take, List.length_drop] at *; omega)), by (first | omega | (unfold I64; omega) | (simp only [List.length_append, List.length_cons, List.length_nil, List.length_take, List.length_drop] at *; omega) | (unfold I64; simp only [List.length_append, List.length_cons, List.length_nil, List.length_take, List.length_drop] at *; omega)), h⟩)
theorem aav {α : Type} [Inhabited α] (o : List α) (t : α) : gi (o ++ [t]) (((o ++ [t]).length : Int) - 1) = t := by
  rw [SY (by simp <;> omega) (by omega)]
  have : ((((o ++ [t]).length : Nat) : Int) - 1).toNat = o.length := by simp
  simp only [this]; simp
theorem abP {α : Type} (o : List α) (t x : α) : (o ++ [t]).set (((o ++ [t]).length : Int) - 1).toNat x = o ++ [x] := by
  have : ((((o ++ [t]).length : Nat) : Int) - 1).toNat = o.length := by simp
  rw [this, List.set_append_right _ _ (Nat.le_refl _)]; simp
def afj (t : Tk) (x : Value × List Rec) : Tk := (t.1, t.2.1, t.2.2.1, t.2.2.2.1, t.2.2.2.2.1, t.2.2.2.2.2.1, t.2.2.2.2.2.2.1, t.2.2.2.2.2.2.2.1, t.2.2.2.2.2.2.2.2.1, x)
theorem aeA {l : List Rec} {i : Nat} (hi : i < l.length) {K : List Tk -> Value -> List Rec -> Int -> Int -> Prop} {r2 room : Int} {o : List Tk} {t : Tk} {v : Value} {hot : List Rec} (ht : t.2.2.2.2.2.2.2.2.2 = (v, hot)) (hr : I64 (room - r2))
    (hn : i <= 1000000) (ho : hot.length <= i) (hol : o.length <= i) (hs : (l[i].2.2.2).length <= 100000) (h : ∀ (v5 : Value) (rec : Rec), rk rec = rk l[i] -> K (o ++ [afj t (v5, hot ++ [rec])]) v5 (hot ++ [rec]) (room - r2) ((i : Int) + 1)) :
    DT l (i : Int) K r2 (o ++ [t]) v hot room (l[i].2.2.2) := by
  unfold DT
  refine ⟨hr, MG (by omega) ?_⟩
  rw [aav, qB hi]
  refine ⟨?_, ⟨by simp <;> omega, by omega⟩, ht, fun vr => ⟨by simp only [List.length_cons, List.length_nil]; omega, fun v5 => ⟨by omega, by (first | omega | (unfold I64; omega) | (simp only [List.length_append, List.length_cons, List.length_nil, List.length_take, List.length_drop] at *; omega) | (unfold I64; simp only [List.length_append, List.length_cons, List.length_nil, List.length_take, List.length_drop] at *; omega)), ?_⟩⟩⟩
  · unfold I64; simp; omega
  · rw [abP]; exact h v5 _ rfl
structure aaS (v6 : Bool) (l : List Rec) (i : Nat) (out : List Tk) (v : Value) (hot : List Rec) (room : Int) : Prop where
  is : (i = 0 /\ out = []) ∨ ∃ (cs : List (List Rb)) (c : List Rb) (o : List Tk) (t : Tk), out = o ++ [t] /\ o.map tb = cs.map (mkT v6) /\ tb t = mkT v6 c /\ t.2.2.2.2.2.2.2.2.2 = (v, hot) /\ cs ++ KP v6 c room ((l.drop i).map rk) = Dl v6 (l.map rk)
  hl : hot.length <= i
  ol : out.length <= i
  r1 : -100000000 <= room
  r2 : room <= 1392
theorem adO {v6 : Bool} {r : Rb} (hs : r.2.2.length <= 100000) : 0 <= Ur v6 r /\ Ur v6 r <= 2000000 := by
  unfold Ur; split <;> omega
theorem Z5 {t : Tk} {x : Value × List Rec} {v6 : Bool} {c : List Rb} (h : tb t = mkT v6 c) : tb (afj t x) = mkT v6 (x.2.map rk) := by
  unfold tb mkT at h ⊢; unfold afj
  simp only [Prod.mk.injEq] at h ⊢
  obtain ⟨h1, h2, h3, h4, h5, h6, h7, h8, h9, _⟩ := h
  exact ⟨h1, h2, h3, h4, h5, h6, h7, h8, h9, trivial⟩
theorem Yp {v6 : Bool} {l : List Rec} {Q : List Tk -> Prop} (hl : l.length <= 1000000) (hs : ∀ r ∈ l, r.2.2.2.length <= 100000) (h : ∀ out, out.map tb = (Dl v6 (l.map rk)).map (mkT v6) -> Q out) : IP v6 l Q := by
  refine Iy (fun s => s.2.2.2.2) l.length (fun i s => aaS v6 l i s.1 s.2.1 s.2.2.1 s.2.2.2.1) rfl ⟨.inl ⟨rfl, rfl⟩, by simp, by simp, by simp, by simp⟩ ?_
  rintro K i ⟨out, v, hot, room, n⟩ hx hi hI hK
  replace hx : n = i := hx
  subst hx
  replace hI : aaS v6 l i out v hot room := hI
  show GI v6 l Q _ out v hot room (i : Int)
  unfold GI
  refine ⟨fun d => ⟨by (first | omega | (unfold I64; omega) | (simp only [List.length_append, List.length_cons, List.length_nil, List.length_take, List.length_drop] at *; omega) | (unfold I64; simp only [List.length_append, List.length_cons, List.length_nil, List.length_take, List.length_drop] at *; omega)), ?_⟩, fun d => ?_⟩
  · have i1 : i < l.length := by omega
    have hsi := hs _ (List.getElem_mem i1)
    have hz := adO (v6 := v6) (r := rk l[i]) hsi
    have hdr : (l.drop i).map rk = rk l[i] :: (l.drop (i + 1)).map rk := by rw [List.drop_eq_getElem_cons i1]; rfl
    rw [qB i1]
    have fresh : ∀ (cs : List (List Rb)), out.map tb = cs.map (mkT v6) -> (∀ x, out.getLast? = some x -> x.2.2.2.2.2.2.2.2.2 = (v, hot)) -> cs ++ KP v6 [rk l[i]] (1392 - Ur v6 (rk l[i])) ((l.drop (i + 1)).map rk) = Dl v6 (l.map rk) ->
        AX v6 l out room (i : Int) (fun aZ wQ wI uf fD => K (aZ, wQ, wI, uf, fD)) (Ur v6 (rk l[i])) v hot (l[i].2.2.2) true := by
      intro cs h1 h2 h3
      refine ⟨fun _ => QJ ⟨h2, by have := hI.ol; simp only [List.length_cons, List.length_nil]; omega, ?_⟩, fun c => by cases c⟩
      have hr0 : I64 (1392 - Ur v6 (rk l[i])) := by unfold I64; omega
      refine aeA i1 rfl hr0 (by omega) (by simp) hI.ol hsi fun v5 rec hr => ?_
      refine hK (i + 1) _ (by simp) (by omega) (by omega) ⟨.inr ⟨cs, [rk l[i]], out, _, rfl, h1, ?_, rfl, h3⟩, by simp, by have := hI.ol; simp; omega, by show (-100000000 : Int) <= 1392 - Ur v6 (rk l[i]); omega, by show 1392 - Ur v6 (rk l[i]) <= 1392; omega⟩
      rw [Z5 (v6 := v6) (c := []) rfl]
      simp [hr]
    refine abO (by omega) ?_
    have hk0 : Ur v6 (l[i].1, l[i].2.1, l[i].2.2.2) = Ur v6 (rk l[i]) := rfl
    rw [hk0]
    rcases hI.is with ⟨h0, h1⟩ | ⟨cs, c, o, t, ho, h1, h2, h3, h4⟩
    · subst h1
      subst h0
      refine ⟨fun _ => fresh [] rfl (by simp) ?_, fun q => absurd rfl q⟩
      have : l.map rk = rk l[0] :: (l.drop 1).map rk := by rw [← hdr]; simp
      rw [this]; rfl
    · have hpos : ¬ ((out.length : Int) = 0) := by rw [ho]; simp; omega
      have hcl : c = hot.map rk := by
        have : (tb t).2.2.2.2.2.2.2.2.2 = (mkT v6 c).2.2.2.2.2.2.2.2.2 := by rw [h2]
        have e : t.2.2.2.2.2.2.2.2.2.2 = hot := by rw [h3]
        have : t.2.2.2.2.2.2.2.2.2.2.map rk = c := this
        rw [← this, e]
      have hlast : ∀ x, out.getLast? = some x -> x.2.2.2.2.2.2.2.2.2 = (v, hot) := by
        intro x hx; rw [ho] at hx; simp at hx; subst hx; exact h3
      have hnew : (c.length = 64 ∨ room < Ur v6 (rk l[i])) -> AX v6 l out room (i : Int) (fun aZ wQ wI uf fD => K (aZ, wQ, wI, uf, fD)) (Ur v6 (rk l[i])) v hot (l[i].2.2.2) true := by
        intro hc
        refine fresh (cs ++ [c]) (by rw [ho, List.map_append, List.map_append, h1]; simp [h2]) hlast ?_
        rw [← h4, hdr, KP, if_pos hc]; simp
      refine ⟨fun q => absurd q hpos, fun _ => ⟨fun q => hnew (.inr q), fun q => ⟨?_, ⟨by omega, by omega⟩, ?_, ?_⟩⟩⟩
      · have := hI.ol; unfold I64; omega
      · rw [ho, aav]; exact h3
      · by_cases e : hot.length = 64
        · rw [show decide ((hot.length : Int) = 64) = true from decide_eq_true (by omega)]
          exact hnew (.inl (by rw [hcl, List.length_map]; exact e))
        · rw [show decide ((hot.length : Int) = 64) = false from decide_eq_false (by omega)]
          refine ⟨fun c => (by cases c), fun _ => ?_⟩
          have hh := hI.hl
          rw [ho]
          have hr1 := hI.r1; have hr2 := hI.r2
          have hr0 : I64 (room - Ur v6 (rk l[i])) := by unfold I64; omega
          refine aeA i1 h3 hr0 (by omega) hh (by have := hI.ol; rw [ho, List.length_append] at this; omega) hsi fun v5 rec hr => ?_
          refine hK (i + 1) _ (by simp) (by omega) (by omega) ⟨.inr ⟨cs, c ++ [rk l[i]], o, _, rfl, h1, ?_, rfl, ?_⟩, by simp; omega, by have := hI.ol; rw [ho] at this; simp at this ⊢; omega, by show -100000000 <= room - Ur v6 (rk l[i]); omega, by show room - Ur v6 (rk l[i]) <= 1392; omega⟩
          · rw [Z5 h2, hcl]; simp [hr]
          · rw [← h4, hdr]
            conv => rhs; rw [KP]
            rw [if_neg (by rw [hcl, List.length_map]; omega)]
  · have i1 : i = l.length := by omega
    subst i1
    rcases hI.is with ⟨h0, h1⟩ | ⟨cs, c, o, t, ho, h1, h2, h3, h4⟩
    · subst h1
      refine ⟨by simp, h _ ?_⟩
      have : l = [] := List.length_eq_zero_iff.1 h0
      subst this; rfl
    · refine ⟨?_, h _ ?_⟩
      · intro x hx; rw [ho] at hx; simp at hx; subst hx; exact h3
      · rw [← h4, List.drop_length, ho, List.map_append, h1]
        simp [KP, h2]
theorem Ru (v6 : Bool) : ∀ (l c : List Rb) (room : Int), (KP v6 c room l).length <= l.length + 1
  | [], c, room => by simp [KP]
  | r :: l, c, room => by
    rw [KP]; split
    · have := Ru v6 l [r] (1392 - Ur v6 r); simp only [List.length_cons]; omega
    · have := Ru v6 l (c ++ [r]) (room - Ur v6 r); simp only [List.length_cons]; omega
theorem Wq (v6 : Bool) (l : List Rb) : (Dl v6 l).length <= l.length := by
  cases l with
  | nil => simp [Dl]
  | cons r l => have := Ru v6 l [r] (1392 - Ur v6 r); rw [Dl]; simp only [List.length_cons]; omega
theorem adW {n : Nat} {g : Ad} {e : Bool} {s : List Ad} {e2 : Bool} {t : List Ad} (ls : s.length <= n) (lt : t.length <= n) : ∀ r ∈ LY g e s e2 t, r.2.2.length <= n := by
  have h1 : (Eb s t).length <= n := by have := UX s t; omega
  have h2 : (Eb t s).length <= n := by have := UX t s; omega
  have h3 : ∀ (k : Int) (l : List Ad), l.length <= n -> ∀ r ∈ one1 k g l, r.2.2.length <= n := by
    intro k l hl r hr
    unfold one1 at hr; split at hr
    · cases hr
    · rw [List.mem_singleton.1 hr]; exact hl
  intro r hr
  unfold LY at hr; split at hr
  · rcases List.mem_append.1 hr with q | q
    · refine h3 _ _ ?_ r q; cases e <;> simp <;> assumption
    · refine h3 _ _ ?_ r q; cases e <;> simp <;> assumption
  · rw [List.mem_singleton.1 hr]; exact lt
abbrev Wm := List (Ad × au)
theorem QK {v6 : Bool} {now one two : Int} {m : Wm} {l : List Ad} {Q : Bool -> Prop} (hl : l.length <= 1000000) (h : ∀ b, (b = true ↔ ∀ a ∈ l, a.1 = v6) -> Q b) : zV v6 now m one two l Q := by
  refine ⟨fun a => !(a.1 == v6), fun x => rfl, Xk hl (fun q => ?_) (fun i hi q r => ?_)⟩
  · refine h _ ?_
    simp only [show decide ((0 : Int) <= -1) = false from rfl, Bool.not_false, true_iff]
    intro a ha; simpa using q a ha
  · refine h _ ?_
    rw [show decide ((0 : Int) <= (i : Int)) = true from decide_eq_true (by omega)]
    simp only [Bool.not_true, Bool.false_eq_true, false_iff]
    intro q2
    have := q2 _ (List.getElem_mem hi)
    rw [this] at q; simp at q
theorem YE {v6 : Bool} {now one two : Int} {m : Wm} {Q : Int -> Prop} (h1 : one <= now) (h2 : two <= now) (h : Q (OG v6)) : xB v6 now m one two Q := by
  refine ⟨fun c => by omega, fun _ => ⟨fun c => ⟨fun d => by omega, fun _ => ?_⟩, fun c => ?_⟩⟩ <;> exact QJ h
theorem abQ {v6 : Bool} {now one two : Int} {m : Wm} {g : Ad} {e : Bool} {s : List Ad} {e2 : Bool} {t : List Ad} {Q : List Tk -> Bool -> Int -> Wm -> Int -> Int -> Prop} (h1 : one <= now) (h2 : two <= now) (hs : vJ s) (ht : vJ t) (ls : s.length <= 100) (lt : t.length <= 100)
    (h : ∀ r : List Tk, r.map tb = (Dl v6 (LY g e s e2 t)).map (mkT v6) -> Q r v6 now m one two) : DU v6 now m one two g e s e2 t Q := by
  refine YE h1 h2 (QJ ⟨fun _ => ZN hs ht ls lt fun l hl => ?_, fun c => absurd (Int.le_refl _) c⟩)
  have hlen : l.length <= 2 := by have := congrArg List.length hl; rw [List.length_map] at this; have := abV g e s e2 t; omega
  refine Yp (by omega) (fun r hr => ?_) fun out ho => h out (by rw [ho, hl])
  have : rk r ∈ LY g e s e2 t := by rw [← hl]; exact List.mem_map_of_mem hr
  have := adW ls lt _ this
  show (rk r).2.2.length <= 100000
  omega
structure VE (m : Wm) : Prop where
  all : ∀ g, vJ (jM bM m g).2.2 /\ (jM bM m g).2.2.length <= 100
def J8 (now t : Int) : Int := max now (min t 1000000000000)
theorem Z7 {v6 : Bool} {now one two t : Int} {m : Wm} {g : Ad} {e : Bool} {s : List Ad} {Q : List Tk -> Int -> Bool -> Int -> Wm -> Int -> Int -> Prop} (hg : wY g = true) (hG : Py g = true) (hL : ∀ {Q' : Bool -> Prop}, Q' false -> DZ g Q') (hv : g.1 = v6) (hs : ∀ a ∈ s, a.1 = v6)
    (hS : s.length <= 64 -> vJ s) (hl : s.length <= 100000) (hm : VE m) (h1 : one <= J8 now t) (h2 : two <= J8 now t)
    (big : 64 < s.length -> Q [] 1 v6 (J8 now t) m one two)
    (full : s.length <= 64 -> (qU m g).isSome = false -> Ej e s = false -> 64 <= m.length -> Q [] 7 v6 (J8 now t) m one two)
    (ok : s.length <= 64 -> ((qU m g).isSome = true ∨ Ej e s = true ∨ m.length < 64) -> ∀ (r : List Tk) (m' : Wm), (Ej e s = true -> m' = yA m g) -> (Ej e s = false -> ∃ v : Value, m' = zU m g (e, (v, s))) ->
      r.map tb = (Dl v6 (LY g (jM bM m g).1 (jM bM m g).2.2 e s)).map (mkT v6) -> Q r 0 v6 (J8 now t) m' one two) :
    ve v6 now m one two t g e s Q := by
  have hm' := hm.all g
  unfold ve vO
  refine Vb ?_
  rw [hg]
  refine ⟨fun c => (by cases c), fun _ => Xr ?_⟩
  rw [hG]
  refine ⟨fun c => (by cases c), fun _ => hL ⟨fun c => (by cases c), fun _ => QK (by simp) fun b hb => ?_⟩⟩
  have b1 : b = true := hb.2 (by intro a ha; simp at ha; subst ha; exact hv)
  subst b1
  refine ⟨fun c => (by cases c), fun _ => QK (by omega) fun b hb => ?_⟩
  have b1 : b = true := hb.2 hs
  subst b1
  refine ⟨fun c => (by cases c), fun _ => ⟨fun c => ⟨fun _ => big (by omega), fun c => (by cases c)⟩, fun c => ?_⟩⟩
  have h64 : s.length <= 64 := by omega
  have hset := hS h64
  have j3 : ∀ m', (Ej e s = true -> m' = yA m g) -> (Ej e s = false -> ∃ v : Value, m' = zU m g (e, (v, s))) -> ((qU m g).isSome = true ∨ Ej e s = true ∨ m.length < 64) -> zW g e s Q v6 (J8 now t) m one two m' :=
    fun m' q1 q2 q3 => abQ h1 h2 hm'.1 hset hm'.2 (by omega) fun r hr => ok h64 q3 r m' q1 q2 hr
  have j2 : ((qU m g).isSome = true ∨ Ej e s = true ∨ m.length < 64) -> xC g e s Q v6 (J8 now t) m one two := by
    intro q3
    refine UT ⟨fun c => ?_, fun c => MG (by omega) fun v => ?_⟩
    · exact j3 _ (fun _ => rfl) (fun d => by rw [c] at d; cases d) q3
    · exact j3 _ (fun d => by rw [c] at d; cases d) (fun _ => ⟨v, rfl⟩) q3
  refine adQ (by omega) fun b hb => ?_
  rw [hb.2 hset]
  refine ⟨fun c => (by cases c), fun _ => ⟨fun c => UT ⟨fun d => ⟨fun f => full h64 (by simpa using c) (by simpa using d) (by omega), fun f => j2 (.inr (.inr (by omega)))⟩, fun d => j2 (.inr (.inl (by simpa using d)))⟩, fun c => j2 (.inl (by simpa using c))⟩⟩
def Ff (m : Wm) (ks : List Ad) : List Rb := (ks.filter fun g => !Ej (jM bM m g).1 (jM bM m g).2.2).map fun g => (YO (jM bM m g).1, g, (jM bM m g).2.2)
theorem Va {v6 : Bool} {now one two : Int} {m : Wm} {Q : List Ad -> Prop} (hl : m.length <= 1000000) (h : ∀ ks, ks.Perm (m.map Prod.fst) -> ks.Pairwise (fun x y => ¬ yj y x < 0) -> Q ks) : xZ v6 now m one two Q := by
  refine ⟨yj, fun x y => XL rfl, ⟨by (first | omega | (unfold I64; omega) | (simp only [List.length_append, List.length_cons, List.length_nil, List.length_take, List.length_drop] at *; omega) | (unfold I64; simp only [List.length_append, List.length_cons, List.length_nil, List.length_take, List.length_drop] at *; omega)), fun l hp => ⟨afg, by have := hp.length_eq; rw [List.length_map] at this; omega, fun l2 hp2 hs2 => h l2 (hp2.trans hp) hs2⟩⟩⟩
theorem YQ {v6 : Bool} {now one two t : Int} {m : Wm} {tu : lY} {ver aaZ : Int} {q : Bool} {rob ev : Int} {Q : List Tk -> Bool -> Int -> Wm -> Int -> Int -> Prop} (hm : VE m) (hl : m.length <= 1000000) (h1 : one <= J8 now t) (h2 : two <= J8 now t) (hv1 : ver ≠ 1) (hv2 : ¬ (ver = 2 /\ v6 = false))
    (h : ∀ (r : List Tk) (ks : List Ad), ks.Perm (m.map Prod.fst) -> ks.Pairwise (fun x y => ¬ yj y x < 0) -> r.map tb = (Dl v6 (Ff m ks)).map (mkT v6) -> Q r v6 (J8 now t) m one two) :
    zX v6 now m one two t tu v6 ver 1 aaZ (v6, (default : Ba 16)) q rob ev [] [] Q := by
  refine ⟨fun c => absurd rfl c, fun _ => ?_⟩
  rw [show (!(v6 == v6)) = false by simp]
  refine ⟨fun c => (by cases c), fun _ => ⟨fun c => absurd c hv1, fun _ => ?_⟩⟩
  have j2 : wJ v6 ver 1 aaZ (v6, (default : Ba 16)) q rob ev [] [] Q v6 (J8 now t) m one two := by
    refine Va hl fun ks hp hsrt => ?_
    have kl : ks.length <= 1000000 := by have := hp.length_eq; rw [List.length_map] at this; omega
    refine Iy (fun s => s.2.2.2.2.2.2.2) ks.length (fun i s => s.1 = v6 /\ s.2.1 = J8 now t /\ s.2.2.1 = m /\ s.2.2.2.1 = one /\ s.2.2.2.2.1 = two /\ s.2.2.2.2.2.1 = [] /\ s.2.2.2.2.2.2.1.map rk = Ff m (ks.take i)) rfl ⟨rfl, rfl, rfl, rfl, rfl, rfl, rfl⟩ ?_
    rintro K i ⟨a, b, c, d, e, out, recs, n⟩ hx hi ⟨x1, x2, x3, x4, x5, x6, hR⟩ hK
    replace hx : n = i := hx
    replace x1 : a = v6 := x1
    replace x2 : b = J8 now t := x2
    replace x3 : c = m := x3
    replace x4 : d = one := x4
    replace x5 : e = two := x5
    replace x6 : out = [] := x6
    subst hx; subst x1; subst x2; subst x3; subst x4; subst x5; subst x6
    replace hR : recs.map rk = Ff c (ks.take i) := hR
    have hrl : recs.length <= i := by
      have e0 := congrArg List.length hR; rw [List.length_map] at e0
      rw [e0]; unfold Ff; rw [List.length_map]
      refine Nat.le_trans (List.length_filter_le _ _) ?_
      rw [List.length_take]; omega
    show y8 a ver 1 aaZ (a, (default : Ba 16)) q rob ev [] [] Q ks _ a (J8 now t) c d e [] recs (i : Int)
    unfold y8
    refine ⟨fun dd => ⟨by (first | omega | (unfold I64; omega) | (simp only [List.length_append, List.length_cons, List.length_nil, List.length_take, List.length_drop] at *; omega) | (unfold I64; simp only [List.length_append, List.length_cons, List.length_nil, List.length_take, List.length_drop] at *; omega)), ?_⟩, fun dd => ?_⟩
    · have i1 : i < ks.length := by omega
      rw [qB i1]
      have hz : decide ((((a, (default : Ba 16)) : Ad).2 : Ba 16) = NK 16 [0, 0, 0, 0, 0, 0, 0, 0, 0, 0, 0, 0, 0, 0, 0, 0]) = true := rfl
      unfold FH
      rw [hz]
      refine ⟨fun cc => (by cases cc), fun _ => ?_⟩
      have hw := hm.all ks[i]
      refine ⟨fun cc => (by cases cc), fun _ => YE h1 h2 (QJ ⟨fun cc => absurd cc (Int.lt_irrefl _), fun _ => ?_⟩)⟩
      rw [qB i1]
      unfold IC FH
      rw [hz]
      refine ⟨fun _ => ⟨fun _ => Y5 (by omega) (fun nn => ?_) (fun nn => ?_), fun cc => (by cases cc)⟩, fun cc => (by cases cc)⟩
      · refine ⟨fun cc => (by cases cc), fun _ => ⟨by (first | omega | (unfold I64; omega) | (simp only [List.length_append, List.length_cons, List.length_nil, List.length_take, List.length_drop] at *; omega) | (unfold I64; simp only [List.length_append, List.length_cons, List.length_nil, List.length_take, List.length_drop] at *; omega)), hK (i + 1) _ (by simp) (by omega) (by omega) ⟨rfl, rfl, rfl, rfl, rfl, rfl, ?_⟩⟩⟩
        show recs.map rk = _
        rw [hR, List.take_succ_eq_append_getElem i1]; unfold Ff
        rw [List.filter_append, List.filter_cons, if_neg (by rw [nn]; simp)]; simp
      · refine ⟨fun _ v => ⟨by simp only [List.length_cons, List.length_nil]; omega, by (first | omega | (unfold I64; omega) | (simp only [List.length_append, List.length_cons, List.length_nil, List.length_take, List.length_drop] at *; omega) | (unfold I64; simp only [List.length_append, List.length_cons, List.length_nil, List.length_take, List.length_drop] at *; omega)), hK (i + 1) _ (by simp) (by omega) (by omega) ⟨rfl, rfl, rfl, rfl, rfl, rfl, ?_⟩⟩, fun cc => (by cases cc)⟩
        show (recs ++ [_]).map rk = _
        rw [List.map_append, hR, List.take_succ_eq_append_getElem i1]; unfold Ff
        rw [List.filter_append, List.filter_cons, if_pos (by rw [nn]; rfl)]; simp [rk]
    · have i1 : i = ks.length := by omega
      subst i1
      rw [List.take_length] at hR
      refine Yp (by omega) (fun r hr => ?_) fun r ho => ⟨?_, h r ks hp hsrt (by rw [ho, hR])⟩
      · have : rk r ∈ Ff c ks := by rw [← hR]; exact List.mem_map_of_mem hr
        unfold Ff at this
        obtain ⟨g, _, hg⟩ := List.mem_map.1 this
        have e1 : r.2.2.2 = (jM bM c g).2.2 := by have := congrArg (fun x : Rb => x.2.2) hg; exact this.symm
        rw [e1]; have := (hm.all g).2; omega
      · have hlen : r.length = (Dl a (recs.map rk)).length := by have := congrArg List.length ho; rw [List.length_map, List.length_map] at this; exact this
        have := Wq a (recs.map rk)
        rw [List.length_map] at this
        simp only [List.length_nil]; omega
  refine ⟨fun c => ⟨fun d => absurd ⟨c, by simpa using d⟩ hv2, fun _ => j2⟩, fun c => ⟨fun d => (by cases d), fun _ => j2⟩⟩
end Go.Wk
