/- Plain words: the law ScriptPrints. -/
import Derived.Test.YtlnagjjldpgbpaaGreatDoorScH
set_option linter.unusedSimpArgs false
set_option linter.unusedVariables false
set_option linter.unusedSectionVars false
namespace Go.Wk
open Go.HL
variable [DM]
def mkC (e : aW) (g s : Ad) (x : Bool) (l : List Ad) (t : Str) : Cm := ⟨e.1, e.2.1, e.2.2.1, e.2.2.2.1, e.2.2.2.2.1, e.2.2.2.2.2, g, s, x, l, t⟩
structure Nu (c : Cm) : Prop where
  nd : I64 c.nd
  vl : I64 c.vl
  po : I64 c.po
  n : I64 c.n
def qZ (c : Cm) : Cm := { c with b := c.b.take 220, l := c.l.take 5, t := c.t.take 70 }
theorem aag (c : Cm) : qZ (qZ c) = qZ c := by
  unfold qZ; simp only [List.take_take, Nat.min_self]
theorem ab9 {c : Cm} (h : Nu c) : Sm (qZ c) :=
  ⟨h.nd, h.vl, h.po, h.n, by show (c.b.take 220).length <= 2000; rw [List.length_take]; omega, by show (c.l.take 5).length <= 1000; rw [List.length_take]; omega, by show (c.t.take 70).length <= 2000; rw [List.length_take]; omega⟩
theorem aa7 (c : Cm) : (qZ c).l.length <= 5 := by show (c.l.take 5).length <= 5; rw [List.length_take]; omega
theorem VQ {s : Str} {n : Nat} {Q : Str -> Prop} (h : Q (s.take n)) : DK s (n : Int) Q := by
  refine ⟨fun c => ⟨by omega, ?_⟩, fun c => ?_⟩
  · have : cut s 0 (n : Int) = s.take n := by unfold cut; simp
    rw [this]; exact h
  · rw [List.take_of_length_le (by omega)] at h; exact h
theorem UK {c : Cm} {Q : Int -> Int -> Int -> Int -> Int -> Str -> Bool -> Ba 16 -> Bool -> Ba 16 -> Bool -> List Ad -> Str -> Prop} (h : ap Q (qZ c)) : sQ c.e c.g c.s c.x c.l c.t Q :=
  VQ (n := 220) (VQ (n := 70) (WY 5 (by decide) h))
theorem ZT {c : Cm} (hl : c.l.length <= 1000) {Q : Str -> Int -> Prop} (h0 : mY c = false -> Q [] 2) (h1 : mY c = true -> Q (CE c) 0) : Bj c.e c.g c.s c.x c.l c.t Q :=
  Ns hl ⟨fun q => h0 (by simpa using q), fun q => VA (Q8 (by simpa using q)) (h1 (by simpa using q))⟩
theorem Yw {c : Cm} (hs : Sm c) (hb : c.b.length <= 220) (hl : c.l.length <= 5) (ht : c.t.length <= 70) : (CE c).length <= 800 := by
  have h1 := vT hs.nd
  have h2 := vT hs.vl
  have h3 := vT hs.po
  have h4 := vT hs.n
  have h5 := BQ c.b
  have h6 := Ah c.g
  have h7 := Ah c.s
  have h8 := Nk c.x c.l
  have T : ∀ t, t ≠ 4 -> t ≠ 8 -> (zo c t).length <= 100 := by
    intro t n4 n8
    unfold zo
    repeat' split
    all_goals (try simp only [List.length_cons, List.length_nil])
    all_goals (first | omega | contradiction)
  have T4 : (zo c 4).length <= 440 := by
    show (if c.b = [] then ([45] : Str) else hexL c.b).length <= 440
    split
    · simp
    · omega
  have T8 : (zo c 8).length <= 509 := by show (TB c.x c.l).length <= 509; omega
  by_cases hk : c.k ∈ kinds
  · have a0 := T 0 (by decide) (by decide)
    have a1 := T 1 (by decide) (by decide)
    have a2 := T 2 (by decide) (by decide)
    have a3 := T 3 (by decide) (by decide)
    have a5 := T 5 (by decide) (by decide)
    have a6 := T 6 (by decide) (by decide)
    have a7 := T 7 (by decide) (by decide)
    have a9 := T 9 (by decide) (by decide)
    have b0 : c.nd < 0 ∨ (zo c 0).length <= 21 := by
      by_cases z : c.nd < 0
      · exact .inl z
      · refine .inr ?_
        show (if c.nd < 0 then _ else jK c.nd).length <= 21
        rw [if_neg z]; exact h1
    have b0' : (zo c 0).length <= 21 := by
      rcases b0 with z | z
      · show (if c.nd < 0 then ([99, 111, 110, 116, 114, 111, 108, 108, 101, 114] : Str) else jK c.nd).length <= 21
        rw [if_pos z]; decide
      · exact z
    have b1 : (zo c 1).length <= 21 := h2
    have b2 : (zo c 2).length <= 21 := h3
    unfold CE
    simp only [kinds, List.mem_cons, List.not_mem_nil, or_false] at hk
    rcases hk with e | e | e | e | e | e | e | e | e | e | e | e | e | e | e | e | e | e | e | e
    all_goals (rw [e]; simp only [jo, zq]; simp; try omega)
  · unfold CE; rw [Jt hk]; simp [zq]
theorem Wq {c o : Cm} (hc : Nu c) (ho : Nu o) {Q : Bool -> Prop} (h : Q true) : uJ c.e c.g c.s c.x c.l c.t o.e o.g o.s o.x o.l o.t Q := by
  have sr := ab9 hc
  have lr := aa7 c
  have lq := aa7 o
  have again : ∀ (d : Cm) {P : Int -> Int -> Int -> Int -> Int -> Str -> Bool -> Ba 16 -> Bool -> Ba 16 -> Bool -> List Ad -> Str -> Prop}, ap P (qZ d) -> sQ (qZ d).e (qZ d).g (qZ d).s (qZ d).x (qZ d).l (qZ d).t P := fun d P hp => UK (c := qZ d) (by rw [aag]; exact hp)
  have main : ∀ (p : Str) (e : Int), (mY (qZ c) = false -> p = [] /\ e = 2) -> (mY (qZ c) = true -> p = CE (qZ c) /\ e = 0) ->
      nY Q (qZ c).k (qZ c).nd (qZ c).vl (qZ c).po (qZ c).n (qZ c).b (qZ c).g.1 (qZ c).g.2 (qZ c).s.1 (qZ c).s.2 (qZ c).x (qZ c).l (qZ c).t p e false := by
    intro p e h0 h1
    refine ⟨fun q => (by cases q), fun _ => UJ (c := qZ c) sr (by omega) ⟨fun q => ?_, fun q => ?_⟩⟩
    · obtain ⟨rfl, rfl⟩ := h0 (by simpa using q)
      exact ⟨fun _ => ⟨fun _ => Sj h, fun q => absurd rfl q⟩, fun q => absurd rfl q⟩
    · have g : mY (qZ c) = true := by simpa using q
      obtain ⟨rfl, rfl⟩ := h1 g
      refine Vm (c := qZ c) sr (by omega) fun r hr hl => ?_
      have hl := hl g
      subst hl
      have bl : (qZ c).b.length <= 220 := by show (c.b.take 220).length <= 220; rw [List.length_take]; omega
      have tl : (qZ c).t.length <= 70 := by show (c.t.take 70).length <= 70; rw [List.length_take]; omega
      refine Ym (Yw sr bl lr tl) (fun d gd ed hu => ?_) (fun hn => absurd rfl (hn _ g))
      have hu := hu _ g rfl
      subst hu
      dsimp only [apP]
      refine Vm (c := qZ c) sr (by omega) fun r hr hl => ⟨fun _ => ⟨fun _ => ?_, fun q => absurd rfl q⟩, fun q => absurd (hl g).symm q⟩
      refine NW (a := qZ c) (b := qZ c) sr.l ⟨fun _ => ⟨fun _ => Sj h, fun q => absurd rfl q⟩, fun q => ?_⟩
      rw [decide_eq_true rfl] at q; cases q
  refine UK (c := c) ?_
  dsimp only [ap]
  refine UK (c := o) ?_
  dsimp only [ap]
  refine again c ?_
  dsimp only [ap]
  have bad : ∀ b : Bool, (!(b == b)) = true -> False := by decide
  refine ZT (c := qZ c) sr.l (fun g => ?_) (fun g => ?_)
  · have m := main [] 2 (fun _ => ⟨rfl, rfl⟩) fun z => by rw [g] at z; cases z
    refine again c ?_
    dsimp only [ap]
    refine Ns (c := qZ c) sr.l (UJ (c := qZ c) sr (by omega) ⟨fun q => (bad _ q).elim, fun _ => again c ?_⟩)
    dsimp only [ap]
    refine again o ?_
    dsimp only [ap]
    refine TL (a := qZ c) (b := qZ o) sr.l (NW (a := qZ c) (b := qZ o) sr.l ⟨fun q => (bad _ q).elim, fun _ => ND (Kq (by rw [decide_eq_true rfl]; exact m))⟩)
  · have m := main _ 0 (fun z => by rw [g] at z; cases z) (fun _ => ⟨rfl, rfl⟩)
    refine again c ?_
    dsimp only [ap]
    refine Ns (c := qZ c) sr.l (UJ (c := qZ c) sr (by omega) ⟨fun q => (bad _ q).elim, fun _ => again c ?_⟩)
    dsimp only [ap]
    refine again o ?_
    dsimp only [ap]
    refine TL (a := qZ c) (b := qZ o) sr.l (NW (a := qZ c) (b := qZ o) sr.l ⟨fun q => (bad _ q).elim, fun _ => ND (Kq (by rw [decide_eq_true rfl]; exact m))⟩)
theorem MN {e e2 : aW} {g s g2 s2 : Ad} {x x2 : Bool} {l l2 : List Ad} {t t2 : Str} {A A2 B B2 : Prop} (h : A /\ I64 e.2.1 /\ I64 e.2.2.1 /\ I64 e.2.2.2.1 /\ I64 e.2.2.2.2.1 /\ B) (h2 : A2 /\ I64 e2.2.1 /\ I64 e2.2.2.1 /\ I64 e2.2.2.2.1 /\ I64 e2.2.2.2.2.1 /\ B2) :
    uJ e g s x l t e2 g2 s2 x2 l2 t2 (fun r => r = true) :=
  Wq (c := mkC e g s x l t) (o := mkC e2 g2 s2 x2 l2 t2) ⟨h.2.1, h.2.2.1, h.2.2.2.1, h.2.2.2.2.1⟩ ⟨h2.2.1, h2.2.2.1, h2.2.2.2.1, h2.2.2.2.2.1⟩ rfl
end Go.Wk
