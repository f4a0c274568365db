/- Plain words: the law HostTells. -/
import Derived.Test.YtmbkoonblmfdpaaGreatHtK
set_option linter.unusedSimpArgs false
set_option linter.unusedVariables false
set_option linter.unusedSectionVars false
namespace Go.Wk
open Go.HL
variable [DM]
structure Zf (v6 : Bool) (m : Wm) : Prop where
  nd : (m.map Prod.fst).Nodup
  all : ∀ p ∈ m, p.1.1 = v6 /\ wY p.1 = true /\ Py p.1 = true /\ loG p.1 = false /\ vJ p.2.2.2 /\ p.2.2.2.length <= 6 /\ (∀ a ∈ p.2.2.2, a.1 = v6) /\ Ej p.2.1 p.2.2.2 = false
theorem Zf.ok {v6 : Bool} {m : Wm} (h : Zf v6 m) : VE m := Rf fun p hp => by
  obtain ⟨_, _, _, _, a, b, _⟩ := h.all p hp; exact ⟨a, by omega⟩
theorem Zf.del {v6 : Bool} {m : Wm} (h : Zf v6 m) (g : Ad) : Zf v6 (yA m g) :=
  ⟨h.nd.sublist (List.filter_sublist.map _), fun p hp => h.all p (List.mem_filter.1 hp).1⟩
theorem Zf.put {v6 : Bool} {m : Wm} (h : Zf v6 m) {g : Ad} {x : au} (hx : g.1 = v6 /\ wY g = true /\ Py g = true /\ loG g = false /\ vJ x.2.2 /\ x.2.2.length <= 6 /\ (∀ a ∈ x.2.2, a.1 = v6) /\ Ej x.1 x.2.2 = false) : Zf v6 (zU m g x) := by
  have hn := Qc h.nd g x
  refine ⟨hn, fun p hp => ?_⟩
  have := (Gz hn p.1 p.2).1 hp
  rw [Wx] at this
  by_cases c : p.1 = g
  · rw [if_pos c] at this; injection this with this
    rw [c, ← this]; exact hx
  · rw [if_neg c] at this
    exact h.all p ((Gz h.nd p.1 p.2).2 this)
theorem acj {m : Wm} {g : Ad} {x : au} : (zU m g x).length <= m.length + 1 := by
  have := congrArg List.length (WA m g x)
  rw [List.length_map] at this
  rw [this]; split <;> simp
theorem ack {m : Wm} {g : Ad} : (yA m g).length <= m.length := List.length_filter_le _ _
theorem adR {v6 : Bool} {now one two t : Int} {m : Wm} {g : Ad} {e : Bool} {s : List Ad} {Q : List Tk -> Int -> Bool -> Int -> Wm -> Int -> Int -> Prop} (hs : vJ s) (hl : s.length <= 6) (hm : VE m) (h1 : one <= J8 now t) (h2 : two <= J8 now t)
    (fail : ∀ r k, Q r k v6 (J8 now t) m one two)
    (ok : g.1 = v6 -> wY g = true -> Py g = true -> loG g = false -> (∀ a ∈ s, a.1 = v6) -> ∀ r m', (Ej e s = true -> m' = yA m g) -> (Ej e s = false -> ∃ v : Value, m' = zU m g (e, (v, s))) -> Q r 0 v6 (J8 now t) m' one two) :
    ve v6 now m one two t g e s Q := by
  by_cases c : g.1 = v6 /\ wY g = true /\ Py g = true /\ loG g = false /\ (∀ a ∈ s, a.1 = v6)
  · obtain ⟨c1, c2, c3, c4, c5⟩ := c
    refine Z7 c2 c3 (fun q => Wy (by rw [c4]; exact q)) c1 c5 (fun _ => hs) (by omega) hm h1 h2 (fun _ => fail _ _) (fun _ _ _ _ => fail _ _) fun _ _ r m' q1 q2 _ => ok c1 c2 c3 c4 c5 r m' q1 q2
  · have bad : qI g e s Q v6 (J8 now t) m one two true := ⟨fun _ => fail _ _, fun q => (by cases q)⟩
    unfold ve vO
    refine Vb ⟨fun _ => bad, fun a2 => Xr ⟨fun _ => bad, fun a3 => Wy ⟨fun _ => bad, fun a4 => QK (by simp) fun b hb => ⟨fun _ => bad, fun a1 => QK (by omega) fun b' hb' => ⟨fun _ => bad, fun a5 => ?_⟩⟩⟩⟩⟩
    refine absurd ⟨?_, by simpa using a2, by simpa using a3, a4, ?_⟩ c
    · exact hb.1 (by simpa using a1) g (by simp)
    · exact hb'.1 (by simpa using a5)
theorem agO {v6 : Bool} {m : Wm} (h : Zf v6 m) {g : Ad} (hg : g ∈ m.map Prod.fst) : (g, jM bM m g) ∈ m := by
  obtain ⟨p, hp, rfl⟩ := List.mem_map.1 hg
  have := (Gz h.nd p.1 p.2).1 hp
  unfold jM; rw [this]; exact hp
theorem VA {v6 : Bool} {m : Wm} {ks : List Ad} (h : Zf v6 m) (hk : ks.Perm (m.map Prod.fst)) : (Ff m ks).map (fun r => r.2.1) = ks := by
  unfold Ff
  rw [List.map_map, List.filter_eq_self.2 ?_]
  · exact List.map_id' ks
  · intro g hg
    have := (h.all _ (agO h (hk.mem_iff.1 hg))).2.2.2.2.2.2.2
    simp only [this]; rfl
theorem aaI {m : Wm} {ks : List Ad} {r : Rb} (hr : r ∈ Ff m ks) : r.2.1 ∈ ks /\ r.1 = YO (jM bM m r.2.1).1 /\ r.2.2 = (jM bM m r.2.1).2.2 := by
  unfold Ff at hr
  obtain ⟨g, hg, rfl⟩ := List.mem_map.1 hr
  exact ⟨(List.mem_filter.1 hg).1, rfl, rfl⟩
theorem ado {v6 : Bool} {m : Wm} {ks : List Ad} (h : Zf v6 m) (hk : ks.Perm (m.map Prod.fst)) : ∀ r ∈ Ff m ks, adB v6 r := by
  intro r hr
  obtain ⟨h1, h2, h3⟩ := aaI hr
  obtain ⟨q1, q2, q3, q4, q5, q6, q7, q8⟩ := h.all _ (agO h (hk.mem_iff.1 h1))
  refine ⟨?_, fun k => ?_, q1, q2, q3, q4, by rw [h3]; exact q5, by rw [h3]; exact q6, by rw [h3]; exact q7⟩
  · rw [h2]; unfold YO; split
    · exact .inr rfl
    · exact .inl rfl
  · rw [h2] at k
    rw [h3]
    intro hn
    have he : (jM bM m r.2.1).1 = false := by
      cases e : (jM bM m r.2.1).1
      · rfl
      · rw [e] at k; cases k
    change Ej (jM bM m r.2.1).1 (jM bM m r.2.1).2.2 = false at q8
    rw [he, hn] at q8; cases q8
theorem Qb {v6 : Bool} : ∀ (l c : List Rb) (room : Int), (KP v6 c room l).flatten = c ++ l
  | [], c, room => by simp [KP]
  | r :: l, c, room => by
    rw [KP]; split
    · rw [List.flatten_cons, Qb l]; rfl
    · rw [Qb l]; simp
theorem Zo {v6 : Bool} (l : List Rb) : (Dl v6 l).flatten = l := by
  cases l with
  | nil => rfl
  | cons r l => rw [Dl, Qb]; rfl
theorem Xn {l : List Ad} {a : Ad} {Q : Bool -> Prop} (hl : l.length <= 1000) (h : Q (MK l a)) : IL l a Q := by
  refine GG l.length (fun i => ∀ x ∈ l.take i, x ≠ a) (by simp) fun K i hi hI hK => ?_
  show GH _ _ _ _ _
  unfold GH
  refine ⟨fun c => ⟨by omega, ?_⟩, fun c => ?_⟩
  · have i1 : i < l.length := by omega
    rw [qB i1]
    refine ⟨fun d => ?_, fun d => ⟨by (first | omega | (unfold I64; omega) | (simp only [List.length_append, List.length_cons, List.length_nil, List.length_take, List.length_drop] at *; omega) | (unfold I64; simp only [List.length_append, List.length_cons, List.length_nil, List.length_take, List.length_drop] at *; omega)), hK (i + 1) (by omega) (by omega) ?_⟩⟩
    · rw [show MK l a = true from decide_eq_true (by rw [← d]; exact List.getElem_mem i1)] at h; exact h
    · intro x hx
      rw [List.take_succ_eq_append_getElem i1] at hx
      rcases List.mem_append.1 hx with q | q
      · exact hI x q
      · rw [List.mem_singleton.1 q]; exact d
  · rw [List.take_of_length_le (by omega)] at hI
    rw [show MK l a = false from decide_eq_false fun q => hI a q rfl] at h; exact h
theorem Qp {v6 : Bool} {now : Int} {m : Wm} {g a : Ad} {L : List Oe} {lets : Bool} {Q : Bool -> Prop} (hm : Zf v6 m) (hml : m.length <= 60) (hL : L.length = m.length) (hlets : lets = QI ((jM bM m g).1, (jM bM m g).2.2) a) (h : Q true) : tH g a Q v6 now m 0 0 L lets := by
  have hw := hm.ok.all g
  unfold tH AY
  refine MG (by omega) (acn (by omega) ?_)
  rw [← hlets]
  refine ⟨fun _ => Va (by omega) fun ks hp _ => ⟨fun _ => aa8 h, fun c => ?_⟩, fun c => ?_⟩
  · have := hp.length_eq; rw [List.length_map] at this
    exact absurd (by omega) c
  · simp at c
theorem aep {v6 : Bool} {m : Wm} {ks : List Ad} (h : Zf v6 m) (hk : ks.Perm (m.map Prod.fst)) : (Ff m ks).length = m.length := by
  have := congrArg List.length (VA h hk)
  rw [List.length_map] at this
  rw [this, hk.length_eq, List.length_map]
theorem Xl {v6 : Bool} {l : List oI} {g a : Ad} {Q : Bool -> Prop} (h : Q true) : Cj v6 l g a Q := by
  unfold Cj AV Ic
  refine ⟨fun c => absurd c (by decide), fun _ => ⟨fun c => absurd c (by decide), fun _ => ?_⟩⟩
  have n00 : J8 0 0 = 0 := rfl
  have n01 : J8 0 1 = 1 := rfl
  refine Iy (fun s => s.2.2.2.2.2) 8 (fun i s => s.1 = v6 /\ s.2.1 = 0 /\ Zf v6 s.2.2.1 /\ s.2.2.1.length <= i /\ s.2.2.2.1 = 0 /\ s.2.2.2.2.1 = 0) rfl ⟨rfl, rfl, ⟨List.Pairwise.nil, by simp⟩, by simp, rfl, rfl⟩ ?_
  rintro K i ⟨b, now, m, one, two, n⟩ hx hi ⟨h1, h2, hm, hml, h3, h4⟩ hK
  replace hx : n = i := hx
  replace h1 : b = v6 := h1
  replace h2 : now = 0 := h2
  replace hm : Zf v6 m := hm
  replace hml : m.length <= i := hml
  replace h3 : one = 0 := h3
  replace h4 : two = 0 := h4
  subst hx h1 h2 h3 h4
  show xW b l g a Q 64 [] _ b 0 m 0 0 (i : Int)
  have go : xX b l g a Q 64 [] b 0 m 0 0 (i : Int) (fun zA fD rU tY TB aP => K (zA, fD, rU, tY, TB, aP)) false := by
    refine ⟨fun c => (by cases c), fun _ => U0 ?_⟩
    refine YQ hm.ok (by omega) (by decide) (by decide) (by unfold OG; split <;> decide) (by unfold OG; rintro ⟨q1, q2⟩; rw [q2] at q1; cases q1) ?_
    intro r ks hp hsrt hr
    rw [n01]
    have hcl := aep hm hp
    have hC := Zo (v6 := b) (Ff m ks)
    have hrl : r.length = (Dl b (Ff m ks)).length := by have := congrArg List.length hr; rw [List.length_map, List.length_map] at this; exact this
    have hpl := Wq b (Ff m ks)
    have hgood := ado hm hp
    have hnd : ((Ff m ks).map fun x => x.2.1).Nodup := by rw [VA hm hp]; exact hp.nodup_iff.2 hm.nd
    refine Iy (fun s => s.2.2.2.2.2.2.2) r.length (fun j s => (s.2.2.1 = 0 ∨ s.2.2.1 = 1) /\ s.2.1 = 64 /\ s.2.2.2.1 = false /\ s.2.2.2.2.2.1 = 0 /\ s.2.2.2.2.2.2.1 = 0 /\ Yc s.2.2.2.2.1 s.1 ((Dl b (Ff m ks)).take j).flatten) rfl ⟨.inl rfl, rfl, rfl, rfl, rfl, ⟨List.Perm.refl _, List.Pairwise.nil, by simp⟩⟩ ?_
    rintro K2 j ⟨mm, p0, p1, p2, p3, p4, p5, n⟩ hx hj ⟨q1, q2, q3, q4, q5, hP⟩ hK2
    replace hx : n = j := hx
    replace q1 : p1 = 0 ∨ p1 = 1 := q1
    replace q2 : p0 = 64 := q2
    replace q3 : p2 = false := q3
    replace q4 : p4 = 0 := q4
    replace q5 : p5 = 0 := q5
    replace hP : Yc p3 mm ((Dl b (Ff m ks)).take j).flatten := hP
    subst hx q2 q3 q4 q5
    show xU g a Q r b 1 m 0 0 _ mm 64 p1 false p3 0 0 (j : Int)
    unfold xU
    refine ⟨fun c => ⟨by omega, ?_⟩, fun c => ?_⟩
    · have j1 : j < r.length := by omega
      have j2 : j < (Dl b (Ff m ks)).length := by omega
      rw [qB j1]
      have et : tb r[j] = mkT b (Dl b (Ff m ks))[j] := by
        have := congrArg (fun z : List Tb => z[j]?) hr
        simp only [List.getElem?_map, List.getElem?_eq_getElem j1, List.getElem?_eq_getElem j2, Option.map_some, Option.some.injEq] at this
        exact this
      have e1 : r[j].1 = b := congrArg (fun z : Tb => z.1) et
      have e2 : r[j].2.1 = OG b := congrArg (fun z : Tb => z.2.1) et
      have e3 : r[j].2.2.1 = 2 := congrArg (fun z : Tb => z.2.2.1) et
      have e4 : r[j].2.2.2.2.2.2.2.2.2.2.map rk = (Dl b (Ff m ks))[j] := congrArg (fun z : Tb => z.2.2.2.2.2.2.2.2.2) et
      rw [e1, e2, e3]
      have hsucc : ((Dl b (Ff m ks)).take j).flatten ++ r[j].2.2.2.2.2.2.2.2.2.2.map rk = ((Dl b (Ff m ks)).take (j + 1)).flatten := by
        rw [e4, List.take_succ_eq_append_getElem j2, List.flatten_append]; simp
      have hpre : (((Dl b (Ff m ks)).take (j + 1)).flatten).Sublist (Ff m ks) := by
        refine (List.sublist_append_left _ ((Dl b (Ff m ks)).drop (j + 1)).flatten).trans ?_
        rw [← List.flatten_append, List.take_append_drop, hC]
        exact List.Sublist.refl _
      refine ace q1 (by rw [hsucc]; exact fun x hx => hgood x (hpre.subset hx)) (by rw [hsucc]; exact hnd.sublist (hpre.map _)) (by rw [hsucc]; have := hpre.length_le; omega) hP fun out m' L' hP' => ?_
      refine ⟨by (first | omega | (unfold I64; omega) | (simp only [List.length_append, List.length_cons, List.length_nil, List.length_take, List.length_drop] at *; omega) | (unfold I64; simp only [List.length_append, List.length_cons, List.length_nil, List.length_take, List.length_drop] at *; omega)), hK2 (j + 1) _ (by simp) (by omega) (by omega) ⟨.inr rfl, rfl, rfl, rfl, rfl, ?_⟩⟩
      rw [hsucc] at hP'; exact hP'
    · have j1 : j = (Dl b (Ff m ks)).length := by omega
      rw [List.take_of_length_le (by omega), hC] at hP
      have hLl : p3.length = m.length := by rw [hP.len, hcl]
      refine aaW (by omega) hP (fun x hxm hxg m' => ?_) (fun hno m' => ?_)
      · obtain ⟨w1, w2, w3⟩ := aaI hxm
        have hx6 := (hgood x hxm).len
        rw [hxg] at w2 w3
        refine ⟨fun c => ?_, fun c => ?_⟩
        · have k2 : x.1 = 2 := of_decide_eq_true c
          have he : (jM bM m g).1 = true := by
            cases e : (jM bM m g).1
            · rw [e] at w2; rw [w2] at k2; cases k2
            · rfl
          have ho : Nh x.1 x.2.2 = (jM bM m g).2.2 := by unfold Nh; rw [if_pos k2, w3]
          rw [ho]
          refine Xn (by rw [← w3]; omega) ⟨fun d => ?_, fun d => ?_⟩
          · refine Qp hm (by omega) hLl ?_ h
            rw [he]; unfold QI; simp at d; simp [d]
          · refine Qp hm (by omega) hLl ?_ h
            rw [he]; unfold QI; simp at d; simp [d]
        · have k2 : ¬ x.1 = 2 := of_decide_eq_false c
          have he : (jM bM m g).1 = false := by
            cases e : (jM bM m g).1
            · rfl
            · rw [e] at w2; exact absurd w2 k2
          have k1 : x.1 = 1 := by rw [w2, he]; rfl
          have ho : VH x.1 x.2.2 = (jM bM m g).2.2 := by unfold VH; rw [if_pos k1, w3]
          rw [ho]
          refine Xn (by rw [← w3]; omega) (Qp hm (by omega) hLl ?_ h)
          rw [he]; unfold QI; simp
      · have hz : jM bM m g = bM := by
          unfold jM
          cases e : qU m g with
          | none => rfl
          | some z =>
            exfalso
            have hk : g ∈ ks := hp.mem_iff.2 (List.mem_map.2 ⟨_, YK e, rfl⟩)
            rw [← VA hm hp] at hk
            obtain ⟨x, hx, hxg⟩ := List.mem_map.1 hk
            exact hno x hx hxg
        refine ⟨fun c => (by cases c), fun _ => Xn (by simp) (Qp hm (by omega) hLl ?_ h)⟩
        rw [hz]; rfl
  unfold xW
  refine ⟨fun c => ?_, fun _ => go⟩
  by_cases d : (i : Int) < 8
  · rw [decide_eq_true d]
    refine ⟨fun _ => ⟨by omega, aed ?_⟩, fun c => (by cases c)⟩
    have hs := aaj (((gi l (i : Int)).2).2.2.take 6)
    have hsl : (Xh (((gi l (i : Int)).2).2.2.take 6)).length <= 6 := by
      have := Xg (((gi l (i : Int)).2).2.2.take 6); rw [List.length_take] at this; omega
    refine adR hs hsl hm.ok (by decide) (by decide) (fun r k => ?_) (fun c1 c2 c3 c4 c5 r m' q1 q2 => ?_)
    · exact ⟨by (first | omega | (unfold I64; omega) | (simp only [List.length_append, List.length_cons, List.length_nil, List.length_take, List.length_drop] at *; omega) | (unfold I64; simp only [List.length_append, List.length_cons, List.length_nil, List.length_take, List.length_drop] at *; omega)), hK (i + 1) _ (by simp) (by omega) (by omega) ⟨rfl, n00, hm, by show m.length <= i + 1; omega, rfl, rfl⟩⟩
    · refine ⟨by (first | omega | (unfold I64; omega) | (simp only [List.length_append, List.length_cons, List.length_nil, List.length_take, List.length_drop] at *; omega) | (unfold I64; simp only [List.length_append, List.length_cons, List.length_nil, List.length_take, List.length_drop] at *; omega)), hK (i + 1) _ (by simp) (by omega) (by omega) ⟨rfl, n00, ?_, ?_, rfl, rfl⟩⟩
      · show Zf b m'
        cases e : Ej ((gi l (i : Int)).2).1 (Xh (((gi l (i : Int)).2).2.2.take 6))
        · obtain ⟨v, rfl⟩ := q2 e
          exact hm.put ⟨c1, c2, c3, c4, hs, hsl, c5, e⟩
        · rw [q1 e]; exact hm.del _
      · show m'.length <= i + 1
        cases e : Ej ((gi l (i : Int)).2).1 (Xh (((gi l (i : Int)).2).2.2.take 6))
        · obtain ⟨v, rfl⟩ := q2 e
          have := acj (m := m) (g := (gi l (i : Int)).1) (x := (((gi l (i : Int)).2).1, (v, Xh (((gi l (i : Int)).2).2.2.take 6))))
          omega
        · rw [q1 e]; have := ack (m := m) (g := (gi l (i : Int)).1); omega
  · rw [decide_eq_false d]; exact go
end Go.Wk
