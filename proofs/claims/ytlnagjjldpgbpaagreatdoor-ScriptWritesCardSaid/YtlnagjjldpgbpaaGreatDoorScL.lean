/- Plain words: the laws ScriptWrites and ScriptLong. -/
import Derived.Test.YtlnagjjldpgbpaaGreatDoorScG
set_option linter.unusedSimpArgs false
set_option linter.unusedVariables false
set_option linter.unusedSectionVars false
namespace Go.Wk
open Go.HL
variable [DM]
theorem ab8 {c : Cm} (h : kJ c = true) : c.l.length <= 64 := by
  have hk := FW h
  obtain ⟨k, nd, vl, po, n, b, g, s, x, l, t⟩ := c
  simp only [kinds, List.mem_cons, List.not_mem_nil, or_false] at hk
  rcases hk with rfl | rfl | rfl | rfl | rfl | rfl | rfl | rfl | rfl | rfl | rfl | rfl | rfl | rfl | rfl | rfl | rfl | rfl | rfl | rfl
  all_goals (simp [kJ, je, Dj, J9, Gw, zC, IY, ug] at h)
  all_goals grind
end Go.Wk
namespace Go.Wk
open Go.HL
variable [DM]
structure Nu (c : Cm) : Prop where
  nd : I64 c.nd
  vl : I64 c.vl
  po : I64 c.po
  n : I64 c.n
def TY (c : Cm) : Cm := { c with b := c.b.take 220, l := c.l.take 5, t := c.t.take 70 }
theorem Y4 {c : Cm} (h : Nu c) : Sm (TY c) :=
  ⟨h.nd, h.vl, h.po, h.n, by show (c.b.take 220).length <= 2000; rw [List.length_take]; omega, by show (c.l.take 5).length <= 1000; rw [List.length_take]; omega, by show (c.t.take 70).length <= 2000; rw [List.length_take]; omega⟩
theorem aa6 (c : Cm) : (TY c).l.length <= 5 := by show (c.l.take 5).length <= 5; rw [List.length_take]; omega
theorem Wv {s : Str} {n : Nat} {Q : Str -> Prop} (h : Q (s.take n)) : y7 s (n : Int) Q := by
  refine ⟨fun c => ⟨by omega, ?_⟩, fun c => ?_⟩
  · have : cut s 0 (n : Int) = s.take n := by unfold cut; simp
    rw [this]; exact h
  · rw [List.take_of_length_le (by omega)] at h; exact h
theorem Y3 {c : Cm} {Q : Int -> Int -> Int -> Int -> Int -> Str -> Bool -> Ba 16 -> Bool -> Ba 16 -> Bool -> List Ad -> Str -> Prop} (h : ap Q (TY c)) : Eg c.e c.g c.s c.x c.l c.t Q :=
  Wv (n := 220) (Wv (n := 70) (XF 5 (by decide) h))
theorem YJ {c : Cm} (hs : Sm c) (hb : c.b.length <= 220) (hl : c.l.length <= 5) (ht : c.t.length <= 70) : (qA c).length <= 800 := by
  have h1 := vY hs.nd
  have h2 := vY hs.vl
  have h3 := vY hs.po
  have h4 := vY hs.n
  have h5 := CQ c.b
  have h6 := AZ c.g
  have h7 := AZ c.s
  have h8 := Oj c.x c.l
  have T : ∀ t, t ≠ 4 -> t ≠ 8 -> (x9 c t).length <= 100 := by
    intro t n4 n8
    unfold x9
    repeat' split
    all_goals (try simp only [List.length_cons, List.length_nil])
    all_goals (first | omega | contradiction)
  have T4 : (x9 c 4).length <= 440 := by
    show (if c.b = [] then ([45] : Str) else hexL c.b).length <= 440
    split
    · simp
    · omega
  have T8 : (x9 c 8).length <= 509 := by show (Um c.x c.l).length <= 509; omega
  by_cases hk : c.k ∈ kinds
  · have a0 := T 0 (by decide) (by decide)
    have a1 := T 1 (by decide) (by decide)
    have a2 := T 2 (by decide) (by decide)
    have a3 := T 3 (by decide) (by decide)
    have a5 := T 5 (by decide) (by decide)
    have a6 := T 6 (by decide) (by decide)
    have a7 := T 7 (by decide) (by decide)
    have a9 := T 9 (by decide) (by decide)
    have b0 : c.nd < 0 ∨ (x9 c 0).length <= 21 := by
      by_cases z : c.nd < 0
      · exact .inl z
      · refine .inr ?_
        show (if c.nd < 0 then _ else jM c.nd).length <= 21
        rw [if_neg z]; exact h1
    have b0' : (x9 c 0).length <= 21 := by
      rcases b0 with z | z
      · show (if c.nd < 0 then ([99, 111, 110, 116, 114, 111, 108, 108, 101, 114] : Str) else jM c.nd).length <= 21
        rw [if_pos z]; decide
      · exact z
    have b1 : (x9 c 1).length <= 21 := h2
    have b2 : (x9 c 2).length <= 21 := h3
    unfold qA
    simp only [kinds, List.mem_cons, List.not_mem_nil, or_false] at hk
    rcases hk with e | e | e | e | e | e | e | e | e | e | e | e | e | e | e | e | e | e | e | e
    all_goals (rw [e]; simp only [je, yz]; simp; try omega)
  · unfold qA; rw [Iw hk]; simp [yz]
end Go.Wk
namespace Go.Wk
open Go.HL
variable [DM]
def el (p : aU) : Cm := ⟨p.1.1, p.1.2.1, p.1.2.2.1, p.1.2.2.2.1, p.1.2.2.2.2.1, p.1.2.2.2.2.2, p.2.1, p.2.2.1, p.2.2.2.1.1, p.2.2.2.1.2.2, p.2.2.2.2⟩
theorem JG : ∀ k < 16, FI k ≠ 10 := by decide
theorem QZ {b : Nat} (hb : 2 <= b /\ b <= 16) (n : Nat) : (10 : UInt8) ∉ oU b n := by
  induction n using Nat.strongRecOn with
  | _ n ih =>
    by_cases h : n < b
    · rw [DW h]; simp only [List.mem_singleton]; exact fun q => JG n (by omega) q.symm
    · rw [Fa hb.1 (by omega), List.mem_append]
      rintro (q | q)
      · exact ih _ (Nat.div_lt_self (by omega) (by omega)) q
      · simp only [List.mem_singleton] at q
        exact JG _ (by have := Nat.mod_lt n (show b > 0 by omega); omega) q.symm
theorem JX {n : Int} : (10 : UInt8) ∉ jM n := by
  intro h
  rcases PE h with h | ⟨k, hk, h⟩
  · exact absurd h (by decide)
  · exact JG k (by omega) h.symm
theorem Xt (s : Str) : (10 : UInt8) ∉ hexL s := by
  intro h
  unfold hexL at h
  rw [List.mem_flatMap] at h
  obtain ⟨c, _, q⟩ := h
  have hc := Jj c
  simp only [List.mem_cons, List.not_mem_nil, or_false] at q
  rcases q with q | q
  · exact JG _ (by omega) q.symm
  · exact JG _ (by omega) q.symm
def yc (L : List Str) : Str := L.flatMap fun x => x ++ [10]
theorem H8 (L : List Str) (x : Str) : yc (L ++ [x]) = yc L ++ (x ++ [10]) := by unfold yc; rw [List.flatMap_append]; simp
theorem Jk : ∀ L : List Str, (∀ x ∈ L, (10 : UInt8) ∉ x) -> dE (yc L) [10] = L ++ [[]]
  | [], _ => yA (by simp [yc])
  | x :: L, h => by
    have e : yc (x :: L) = x ++ 10 :: yc L := by show (x ++ [10]) ++ yc L = _; rw [List.append_assoc]; rfl
    rw [e, BO (h x (List.mem_cons_self ..)), Jk L fun y hy => h y (List.mem_cons_of_mem _ hy)]; rfl
theorem Xn {c : Cm} (h : kJ c = true) : (qA c).length <= 700000 := by
  have h1 := (JE c.k)
  have h2 := LW (Ov h) (je c.k).2
  unfold qA; rw [List.length_append]; omega
theorem XL {l : List aU} (hl : ∀ p ∈ l, (el p).l.length <= 1000) {Q : Str -> Int -> Prop} (h6 : 1000 < l.length -> Q [] 6)
    (h2 : l.length <= 1000 -> (∃ p ∈ l, kJ (el p) = false) -> Q [] 2)
    (h0 : l.length <= 1000 -> (∀ p ∈ l, kJ (el p) = true) -> (20000 < (yc (l.map fun p => qA (el p))).length -> Q [] 6) /\ ((yc (l.map fun p => qA (el p))).length <= 20000 -> Q (yc (l.map fun p => qA (el p))) 0)) : BR l Q := by
  refine ⟨fun d => h6 (by omega), fun d => ?_⟩
  refine wK l.length (fun i s => s = yc ((l.take i).map fun p => qA (el p)) /\ s.length <= i * 700001 /\ ∀ p ∈ l.take i, kJ (el p) = true) ⟨rfl, by simp, by simp⟩ ?_
  rintro K i s hi ⟨hs, hn, hg⟩ hK
  show xu l Q _ s (i : Int)
  unfold xu
  refine ⟨fun f => ⟨by omega, ?_⟩, fun f => ?_⟩
  · have i1 : i < l.length := by omega
    rw [iZ i1]
    have hm := List.getElem_mem i1
    refine V8 (c := el l[i]) (hl _ hm) ⟨fun g => h2 (by omega) ⟨_, hm, by simpa using g⟩, fun g => ?_⟩
    have g : kJ (el l[i]) = true := by simpa using g
    have hb := Xn g
    refine VY (Ov g) ⟨by simp only [List.length_cons, List.length_nil]; omega, by simp only [List.length_append, List.length_cons, List.length_nil]; omega, by (first | omega | (unfold I64; omega) | (simp only [List.length_append, List.length_cons, List.length_nil, List.length_take, List.length_drop] at *; omega) | (unfold I64; simp only [List.length_append, List.length_cons, List.length_nil, List.length_take, List.length_drop] at *; omega)), hK (i + 1) _ (by omega) (by omega) ⟨?_, ?_, ?_⟩⟩
    · rw [List.take_succ_eq_append_getElem i1, List.map_append, hs]; exact (H8 _ _).symm
    · simp only [List.length_append, List.length_cons, List.length_nil]; omega
    · rw [List.take_succ_eq_append_getElem i1]
      intro p hp
      rcases List.mem_append.1 hp with hp | hp
      · exact hg p hp
      · rw [List.mem_singleton.1 hp]; exact g
  · have i1 : i = l.length := by omega
    subst i1
    rw [List.take_length] at hs hg
    obtain ⟨a, b⟩ := h0 (by omega) hg
    refine ⟨fun q => a (by rw [← hs]; omega), fun q => ?_⟩
    have := b (by rw [← hs]; omega)
    rw [← hs] at this; exact this
def Jo (x : Str) : Bool := decide (x = []) || decide (((gi x 0).toNat : Int) = 35)
def Rd (x : Str) (o : Option Cm) : Prop := (Jo x = true /\ o = none) ∨ (Jo x = false /\ ∃ c, o = some c /\ kJ c = true /\ qA c = x)
theorem WT {c : Cm} (h : kJ c = true) : Jo (qA c) = false := by
  have hk := FW h
  have d : ∀ k ∈ kinds, ∃ a r, (je k).1 = a :: r /\ a ≠ 35 := by
    have : ∀ k ∈ kinds, (je k).1.head? ≠ none /\ (je k).1.head? ≠ some 35 := by decide
    intro k hk
    have q := this k hk
    cases e : (je k).1 with
    | nil => rw [e] at q; exact absurd rfl q.1
    | cons a r => rw [e] at q; exact ⟨a, r, rfl, fun z => q.2 (by rw [z]; rfl)⟩
  obtain ⟨a, r, e, n⟩ := d _ hk
  unfold qA
  rw [e]
  unfold Jo
  rw [decide_eq_false (by simp), Bool.false_or]
  refine decide_eq_false fun q => n ?_
  have q : (a.toNat : Int) = 35 := q
  apply UInt8.toNat_inj.1
  show a.toNat = 35
  omega
theorem ZY {c : Cm} (h : kJ c = true) : Rd (qA c) (some c) := .inr ⟨WT h, c, rfl, h, rfl⟩
theorem scan_ok {s : Str} {T : List (Str × Option Cm)} {R : List Str} (hs : s.length <= 20000) (hW : dE s [10] = T.map Prod.fst ++ R) (hT : ∀ p ∈ T, Rd p.1 p.2) (hx : ∀ p ∈ T, p.1.length <= 800) {Q : List aU -> Int -> Int -> Prop}
    (hend : R = [] -> ∀ out : List aU, out.map el = T.filterMap Prod.snd -> (1000 < out.length -> Q [] 0 6) /\ (out.length <= 1000 -> Q out 0 0))
    (hbad : ∀ x r, R = x :: r -> x.length <= 800 /\ Jo x = false /\ (∀ c, kJ c = true -> qA c ≠ x) /\ Q [] ((T.length : Int) + 1) 2) : xI s Q := by
  refine ⟨fun q => by omega, fun _ => ⟨⟨by omega, by simp⟩, ?_⟩⟩
  have hlen : (dE s [10]).length = T.length + R.length := by rw [hW, List.length_append, List.length_map]
  have hsl := LX s 10
  refine Gv (fun q => q.2.2) (dE s [10]).length (fun i q => q.2.2 = (i : Int) /\ i <= T.length /\ q.2.1.length <= i /\ q.2.1.map el = (T.take i).filterMap Prod.snd) rfl ⟨rfl, by omega, by simp, by simp⟩ ?_
  rintro K i ⟨l, out, n⟩ _ hi ⟨hn, hiT, hol, ho⟩ hK
  replace hn : n = (i : Int) := hn
  subst hn
  replace hol : out.length <= i := hol
  replace ho : out.map el = (T.take i).filterMap Prod.snd := ho
  show yH s Q _ l out (i : Int)
  unfold yH
  refine ⟨fun d => ⟨by omega, ?_⟩, fun d => ?_⟩
  · have i1 : i < (dE s [10]).length := by omega
    rw [iZ i1]
    have j1 : ∀ b, b = Jo (dE s [10])[i] -> yI s Q l out (i : Int) (fun uN bP bG => K (uN, bP, bG)) b := by
      intro b hb
      by_cases iT : i < T.length
      · have eW : (dE s [10])[i] = T[i].1 := by
          simp only [hW]
          rw [List.getElem_append_left (by rw [List.length_map]; exact iT), List.getElem_map]
        have hm := List.getElem_mem iT
        have hr := hT _ hm
        rw [eW] at hb
        refine ⟨fun q => ⟨by (first | omega | (unfold I64; omega) | (simp only [List.length_append, List.length_cons, List.length_nil, List.length_take, List.length_drop] at *; omega) | (unfold I64; simp only [List.length_append, List.length_cons, List.length_nil, List.length_take, List.length_drop] at *; omega)), hK (i + 1) (l, out, _) rfl (by omega) (by omega) ⟨rfl, by omega, by show out.length <= i + 1; omega, ?_⟩⟩, fun q => ?_⟩
        · rcases hr with hr | hr
          · show out.map el = _
            rw [List.take_succ_eq_append_getElem iT, List.filterMap_append, ho, List.filterMap_cons, hr.2]; simp
          · rw [hr.1, q] at hb; cases hb
        · rcases hr with hr | ⟨_, c, hc, gc, lc⟩
          · rw [hr.1, q] at hb; cases hb
          · rw [iZ i1, eW]
            refine O9 (hx _ hm) (fun d gd ed hu => ?_) (fun hn => absurd lc (hn _ gc))
            have hd := hu _ gc lc
            subst hd
            refine ⟨fun z => absurd rfl z, fun _ v => ⟨?_, by (first | omega | (unfold I64; omega) | (simp only [List.length_append, List.length_cons, List.length_nil, List.length_take, List.length_drop] at *; omega) | (unfold I64; simp only [List.length_append, List.length_cons, List.length_nil, List.length_take, List.length_drop] at *; omega)), hK (i + 1) (l, _, _) rfl (by omega) (by omega) ⟨rfl, by omega, ?_, ?_⟩⟩⟩
            · simp only [List.length_cons, List.length_nil]; omega
            · show (out ++ [_]).length <= i + 1
              rw [List.length_append]; simp only [List.length_cons, List.length_nil]; omega
            · show (out ++ [_]).map el = _
              rw [List.take_succ_eq_append_getElem iT, List.filterMap_append, List.map_append, ho, List.filterMap_cons, hc]; rfl
      · have iE : i = T.length := by omega
        subst iE
        obtain ⟨x, r, e⟩ := List.exists_cons_of_ne_nil (l := R) (fun q => by rw [q] at hlen; simp at hlen; omega)
        obtain ⟨b1, b2, b3, b4⟩ := hbad x r e
        have eW : (dE s [10])[T.length] = x := by
          simp only [hW, e]
          rw [List.getElem_append_right (by rw [List.length_map]; exact Nat.le_refl _)]
          simp
        rw [eW, b2] at hb
        subst hb
        refine ⟨fun q => (by cases q), fun _ => ?_⟩
        rw [iZ i1, eW]
        exact O9 b1 (fun d gd ed _ => absurd ed (b3 _ gd)) (fun _ => ⟨fun _ => ⟨by (first | omega | (unfold I64; omega) | (simp only [List.length_append, List.length_cons, List.length_nil, List.length_take, List.length_drop] at *; omega) | (unfold I64; simp only [List.length_append, List.length_cons, List.length_nil, List.length_take, List.length_drop] at *; omega)), b4⟩, fun q => absurd q (by decide)⟩)
    refine ⟨fun q => j1 _ ?_, fun q => ⟨⟨by omega, ?_⟩, j1 _ ?_⟩⟩
    · unfold Jo; rw [decide_eq_true q]; rfl
    · have := List.length_pos_iff.2 q; omega
    · unfold Jo; rw [decide_eq_false q, Bool.false_or]
  · have iE : i = (dE s [10]).length := by omega
    have hR : R = [] := List.eq_nil_of_length_eq_zero (by omega)
    have := hend hR out (by rw [ho, List.take_of_length_le (by omega)])
    exact ⟨fun q => this.1 (by omega), fun q => this.2 (by omega)⟩
def qo (l : List aU) : List Str := l.map fun p => qA (el p)
def Ez (l : List aU) : List (Str × Option Cm) := l.map fun p => (qA (el p), some (el p))
theorem O4 (l : List aU) : (Ez l).map Prod.fst = qo l := by unfold Ez qo; rw [List.map_map]; rfl
theorem O3 (l : List aU) : (Ez l).filterMap Prod.snd = l.map el := by
  unfold Ez; induction l with
  | nil => rfl
  | cons p l ih => rw [List.map_cons, List.filterMap_cons, ih]; rfl
theorem Oo {l : List aU} (h : ∀ p ∈ l, kJ (el p) = true) : ∀ q ∈ Ez l, Rd q.1 q.2 := by
  intro q hq
  unfold Ez at hq
  obtain ⟨p, hp, rfl⟩ := List.mem_map.1 hq
  exact ZY (h p hp)
theorem Yi : Rd [] none := .inl ⟨rfl, rfl⟩
end Go.Wk
namespace Go.Wk
open Go.HL
variable [DM]
theorem RG (a : Ad) (i j : Nat) : (10 : UInt8) ∉ gy (wL a i j) [58] := by
  intro h
  rcases BD h with h | ⟨x, hx, h⟩
  · simp at h
  · obtain ⟨k, _, rfl⟩ := List.mem_map.1 hx
    exact QZ (by decide) _ h
theorem OC (a : Ad) : (10 : UInt8) ∉ txt a := by
  intro h
  unfold txt at h
  split at h
  · split at h
    · exact RG _ _ _ h
    · rcases List.mem_append.1 h with h | h
      · rcases List.mem_append.1 h with h | h
        · exact RG _ _ _ h
        · simp at h
      · exact RG _ _ _ h
  · rcases BD h with h | ⟨x, hx, h⟩
    · simp at h
    · obtain ⟨k, _, rfl⟩ := List.mem_map.1 hx
      exact QZ (by decide) _ h
theorem XY (l : List Ad) : (10 : UInt8) ∉ NM l := by
  unfold NM
  split
  · decide
  · intro q
    rcases BD q with q | ⟨x, hx, q⟩
    · simp at q
    · obtain ⟨a, _, rfl⟩ := List.mem_map.1 hx
      exact OC a q
theorem Xl {c : Cm} (h : kJ c = true) : (10 : UInt8) ∉ qA c := by
  have hT : ∀ t ∈ (je c.k).2, (10 : UInt8) ∉ x9 c t := by
    intro t ht
    have hw := MV h t ht
    have hb := NH _ t ht
    unfold x9
    split
    · split
      · decide
      · exact JX
    split
    · exact JX
    split
    · exact JX
    split
    · exact JX
    split
    · split
      · decide
      · exact Xt _
    split
    · split <;> decide
    split
    · exact OC _
    split
    · exact OC _
    split
    · intro q
      unfold Um at q
      rcases List.mem_append.1 q with q | q
      · revert q; cases c.x <;> decide
      · rcases List.mem_cons.1 q with q | q
        · exact absurd q (by decide)
        · exact XY _ q
    have t9 : t = 9 := by omega
    subst t9
    intro q
    have hp : ug c.t = true := hw
    unfold ug at hp
    simp only [Bool.and_eq_true, List.all_eq_true] at hp
    exact absurd (hp.2 _ q) (by decide)
  have hF : ∀ k, (10 : UInt8) ∉ (je k).1 := by
    intro k
    by_cases hk : k ∈ kinds
    · revert k; decide
    · rw [Iw hk]; simp
  intro q
  unfold qA at q
  rcases List.mem_append.1 q with q | q
  · exact hF _ q
  · unfold yz at q
    obtain ⟨t, ht, q⟩ := List.mem_flatMap.1 q
    rcases List.mem_cons.1 q with q | q
    · exact absurd q (by decide)
    · exact hT t ht q
theorem YI {s : Str} (hl : s.length <= 1000) {Q : List Str -> Prop} (h : ∀ ls : List Str, ls ≠ [] -> (∀ x ∈ ls, (10 : UInt8) ∉ x /\ x.length <= s.length) -> Q ls) : DU s Q := by
  refine Gv (fun q => q.2.2) s.length (fun i q => q.2.2 = (i : Int) /\ ∃ n : Nat, q.2.1 = (n : Int) /\ n <= i /\ q.1.length <= n /\ (∀ x ∈ q.1, (10 : UInt8) ∉ x /\ x.length <= s.length) /\ (10 : UInt8) ∉ (s.take i).drop n) rfl ⟨rfl, 0, rfl, Nat.le_refl _, by simp, by simp, by simp⟩ ?_
  rintro K i ⟨out, n, i'⟩ _ hi ⟨hi', n, rfl, hn, hol, ho, hc⟩ hK
  replace hi' : i' = (i : Int) := hi'
  subst hi'
  replace hn : n <= i := hn
  replace hol : out.length <= n := hol
  replace ho : ∀ x ∈ out, (10 : UInt8) ∉ x /\ x.length <= s.length := ho
  show yL s Q _ out (n : Int) (i : Int)
  have ec : ∀ m : Nat, cut s (n : Int) (m : Int) = (s.take m).drop n := fun m => by unfold cut; simp
  unfold yL
  refine ⟨fun d => ⟨by omega, ?_⟩, fun d => ?_⟩
  · have i1 : i < s.length := by omega
    rw [iZ i1]
    refine ⟨fun q => ⟨⟨by omega, by omega, by omega⟩, by simp only [List.length_cons, List.length_nil]; omega, by (first | omega | (unfold I64; omega) | (simp only [List.length_append, List.length_cons, List.length_nil, List.length_take, List.length_drop] at *; omega) | (unfold I64; simp only [List.length_append, List.length_cons, List.length_nil, List.length_take, List.length_drop] at *; omega)), hK (i + 1) (_, _, _) rfl (by omega) (by omega) ⟨rfl, i + 1, rfl, Nat.le_refl _, ?_, ?_, ?_⟩⟩, fun q => ⟨by (first | omega | (unfold I64; omega) | (simp only [List.length_append, List.length_cons, List.length_nil, List.length_take, List.length_drop] at *; omega) | (unfold I64; simp only [List.length_append, List.length_cons, List.length_nil, List.length_take, List.length_drop] at *; omega)), hK (i + 1) (out, (n : Int), _) rfl (by omega) (by omega) ⟨rfl, n, rfl, by omega, hol, ho, ?_⟩⟩⟩
    · show (out ++ [_]).length <= i + 1
      rw [List.length_append]; simp only [List.length_cons, List.length_nil]; omega
    · intro x hx
      rcases List.mem_append.1 hx with hx | hx
      · exact ho x hx
      · rw [List.mem_singleton.1 hx, ec]
        exact ⟨hc, by rw [List.length_drop, List.length_take]; omega⟩
    · rw [List.drop_of_length_le (by rw [List.length_take]; omega)]; simp
    · rw [List.take_succ_eq_append_getElem i1, List.drop_append_of_le_length (by rw [List.length_take]; omega), List.mem_append]
      rintro (z | z)
      · exact hc z
      · rw [List.mem_singleton] at z
        rw [← z] at q; exact q rfl
  · have i1 : i = s.length := by omega
    subst i1
    refine ⟨⟨by omega, by omega⟩, by simp only [List.length_cons, List.length_nil]; omega, h _ (by simp) fun x hx => ?_⟩
    rcases List.mem_append.1 hx with hx | hx
    · exact ho x hx
    · rw [List.mem_singleton.1 hx, ec]
      exact ⟨hc, by rw [List.length_drop, List.length_take]; omega⟩
theorem QN {m : Nat} : ∀ L : List Str, (∀ x ∈ L, x.length <= m) -> (yc L).length <= L.length * (m + 1)
  | [], _ => by simp [yc]
  | x :: L, h => by
    have e : yc (x :: L) = (x ++ [10]) ++ yc L := rfl
    have h1 := QN L fun y hy => h y (List.mem_cons_of_mem _ hy)
    have h2 := h x (List.mem_cons_self ..)
    rw [e, List.length_append, List.length_append, List.length_cons, List.length_cons, List.length_nil, Nat.add_mul]; omega
structure Own (l : List aU) : Prop where
  len : l.length <= 8
  sm : ∀ p ∈ l, Sm (el p)
  b : ∀ p ∈ l, (el p).b.length <= 220
  l5 : ∀ p ∈ l, (el p).l.length <= 5
  t : ∀ p ∈ l, (el p).t.length <= 70
theorem Own.line {l : List aU} (h : Own l) {p : aU} (hp : p ∈ l) : (qA (el p)).length <= 800 := YJ (h.sm p hp) (h.b p hp) (h.l5 p hp) (h.t p hp)
theorem Own.lines {l : List aU} (h : Own l) : ∀ x ∈ qo l, x.length <= 800 := by
  intro x hx
  obtain ⟨p, hp, rfl⟩ := List.mem_map.1 hx
  exact h.line hp
theorem Ir {l : List aU} (h : ∀ p ∈ l, kJ (el p) = true) : ∀ x ∈ qo l, (10 : UInt8) ∉ x := by
  intro x hx
  obtain ⟨p, hp, rfl⟩ := List.mem_map.1 hx
  exact Xl (h p hp)
def insL (l : List aU) (line : Str) (pos i : Nat) : List Str := if i <= pos then qo (l.take i) else qo (l.take pos) ++ line :: qo ((l.take i).drop pos)
theorem Iq (l : List aU) (p : aU) : qo (l ++ [p]) = qo l ++ [qA (el p)] := by unfold qo; rw [List.map_append]; rfl
theorem Yh {l : List aU} {line : Str} {lJ : Int} (ho : Own l) (hg : ∀ p ∈ l, kJ (el p) = true) (hat : 0 <= lJ) (hli : (10 : UInt8) ∉ line) (hll : line.length <= 800) {Q : Bool -> Prop} (h : Q true) : D5 l line lJ Q := by
  have h8 := ho.len
  obtain ⟨pos, hpos, hpn⟩ : ∃ pos : Nat, lJ.tmod ((l.length : Int) + 1) = (pos : Int) /\ pos <= l.length := by
    refine ⟨(lJ.tmod ((l.length : Int) + 1)).toNat, ?_, ?_⟩
    · rw [Int.tmod_eq_emod_of_nonneg hat]
      have := Int.emod_nonneg lJ (b := (l.length : Int) + 1) (by omega)
      omega
    · rw [Int.tmod_eq_emod_of_nonneg hat]
      have := Int.emod_lt_of_pos lJ (b := (l.length : Int) + 1) (by omega)
      omega
  refine ⟨by (first | omega | (unfold I64; omega) | (simp only [List.length_append, List.length_cons, List.length_nil, List.length_take, List.length_drop] at *; omega) | (unfold I64; simp only [List.length_append, List.length_cons, List.length_nil, List.length_take, List.length_drop] at *; omega)), by omega, wK (l.length + 1) (fun i s => s = yc (insL l line pos i) /\ s.length <= i * 2000) ⟨by unfold insL; rw [if_pos (Nat.zero_le _)]; rfl, by simp⟩ ?_⟩
  rintro K i s hi ⟨hs, hsl⟩ hK
  show yT l line lJ Q _ s (i : Int)
  unfold yT
  rw [hpos]
  refine ⟨fun d => ?_, fun d => ?_⟩
  · have j1 : ∀ (X : List Str), (yc X).length <= i * 2000 + 801 -> (i < l.length -> ∀ p, l[i]? = some p -> X ++ [qA (el p)] = insL l line pos (i + 1)) -> (¬ i < l.length -> X = insL l line pos (i + 1)) -> yX l (i : Int) (fun lN bu => K (lN, bu)) (yc X) := by
      intro X hX h1 h2
      refine ⟨fun f => ⟨by omega, ?_⟩, fun f => ⟨by (first | omega | (unfold I64; omega) | (simp only [List.length_append, List.length_cons, List.length_nil, List.length_take, List.length_drop] at *; omega) | (unfold I64; simp only [List.length_append, List.length_cons, List.length_nil, List.length_take, List.length_drop] at *; omega)), hK (i + 1) _ (by omega) (by omega) ⟨by rw [h2 (by omega)], by omega⟩⟩⟩
      have i1 : i < l.length := by omega
      have hm := List.getElem_mem i1
      rw [iZ i1]
      have hln := ho.line hm
      refine VM (c := el l[i]) (ho.sm _ hm) (by have := ho.l5 _ hm; omega) fun r hr hq => ?_
      have hq := hq (hg _ hm)
      subst hq
      refine ⟨by omega, by simp only [List.length_append, List.length_cons, List.length_nil]; omega, by (first | omega | (unfold I64; omega) | (simp only [List.length_append, List.length_cons, List.length_nil, List.length_take, List.length_drop] at *; omega) | (unfold I64; simp only [List.length_append, List.length_cons, List.length_nil, List.length_take, List.length_drop] at *; omega)), hK (i + 1) _ (by omega) (by omega) ⟨?_, ?_⟩⟩
      · rw [← h1 i1 _ (List.getElem?_eq_getElem i1), H8, List.append_assoc]
      · simp only [List.length_append, List.length_cons, List.length_nil]; omega
    refine ⟨fun q => ⟨by omega, by simp only [List.length_append, List.length_cons, List.length_nil]; omega, ?_⟩, fun q => ?_⟩
    · have q : i = pos := by omega
      have e : (s ++ line) ++ [10] = yc (insL l line pos i ++ [line]) := by rw [H8, hs, List.append_assoc]
      rw [e]
      refine j1 _ (by rw [← e]; simp only [List.length_append, List.length_cons, List.length_nil]; omega) (fun f p hp => ?_) (fun f => ?_)
      · unfold insL
        rw [if_pos (by omega), if_neg (by omega), q]
        subst q
        have i1 : i < l.length := f
        rw [List.getElem?_eq_getElem i1] at hp
        injection hp with hp
        rw [List.take_succ_eq_append_getElem i1, List.drop_append_of_le_length (by rw [List.length_take]; omega), List.drop_of_length_le (by rw [List.length_take]; omega), hp]
        show _ = _ ++ line :: qo ([] ++ [p])
        rw [List.append_assoc]; rfl
      · unfold insL
        rw [if_pos (by omega), if_neg (by omega), q]
        rw [List.drop_of_length_le (by rw [List.length_take]; omega)]; rfl
    · have q : i ≠ pos := by omega
      rw [hs]
      refine j1 _ (by have e := congrArg List.length hs; omega) (fun f p hp => ?_) (fun f => ?_)
      · have i1 : i < l.length := f
        rw [List.getElem?_eq_getElem i1] at hp
        injection hp with hp
        unfold insL
        by_cases z : i <= pos
        · rw [if_pos z, if_pos (by omega), List.take_succ_eq_append_getElem i1, Iq, hp]
        · rw [if_neg z, if_neg (by omega), List.take_succ_eq_append_getElem i1, List.drop_append_of_le_length (by rw [List.length_take]; omega), Iq, hp, List.append_assoc]; rfl
      · unfold insL
        rw [if_neg (by omega), if_neg (by omega), List.take_of_length_le (i := i) (by omega), List.take_of_length_le (i := i + 1) (by omega)]
  · have i1 : i = l.length + 1 := by omega
    have hall : s = yc (qo (l.take pos) ++ line :: qo (l.drop pos)) := by
      rw [hs]; unfold insL; rw [if_neg (by omega), List.take_of_length_le (i := i) (by omega)]
    have g1 : ∀ p ∈ l.take pos, kJ (el p) = true := fun p hp => hg p (List.mem_of_mem_take hp)
    have g2 : ∀ p ∈ l.drop pos, kJ (el p) = true := fun p hp => hg p (List.mem_of_mem_drop hp)
    have l1 : ∀ p ∈ l.take pos, (qA (el p)).length <= 800 := fun p hp => ho.line (List.mem_of_mem_take hp)
    have l2 : ∀ p ∈ l.drop pos, (qA (el p)).length <= 800 := fun p hp => ho.line (List.mem_of_mem_drop hp)
    have hsplit : dE s [10] = (qo (l.take pos) ++ line :: qo (l.drop pos)) ++ [[]] := by
      rw [hall]
      refine Jk _ fun x hx => ?_
      rcases List.mem_append.1 hx with hx | hx
      · exact Ir g1 x hx
      · rcases List.mem_cons.1 hx with hx | hx
        · rw [hx]; exact hli
        · exact Ir g2 x hx
    have hs2 : s.length <= 20000 := by omega
    have good : ∀ o, Rd line o -> ∀ {P : List aU -> Int -> Int -> Prop}, (∀ out : List aU, out.map el = (l.take pos).map el ++ (o.toList ++ (l.drop pos).map el) -> P out 0 0) -> xI s P := by
      intro o hr P hP
      refine scan_ok (T := Ez (l.take pos) ++ ((line, o) :: Ez (l.drop pos) ++ [([], none)])) (R := []) hs2 ?_ ?_ ?_ (fun _ out ho => ?_) (fun x r e => by cases e)
      · rw [hsplit]; simp only [List.map_append, List.map_cons, List.map_nil, O4, List.append_assoc, List.cons_append, List.append_nil]
      · intro p hp
        rcases List.mem_append.1 hp with hp | hp
        · exact Oo g1 p hp
        · rcases List.mem_cons.1 hp with hp | hp
          · rw [hp]; exact hr
          · rcases List.mem_append.1 hp with hp | hp
            · exact Oo g2 p hp
            · rw [List.mem_singleton.1 hp]; exact Yi
      · intro p hp
        rcases List.mem_append.1 hp with hp | hp
        · obtain ⟨q, hq, rfl⟩ := List.mem_map.1 hp; exact l1 q hq
        · rcases List.mem_cons.1 hp with hp | hp
          · rw [hp]; exact hll
          · rcases List.mem_append.1 hp with hp | hp
            · obtain ⟨q, hq, rfl⟩ := List.mem_map.1 hp; exact l2 q hq
            · rw [List.mem_singleton.1 hp]; exact Nat.zero_le _
      · have ho2 : out.map el = (l.take pos).map el ++ (o.toList ++ (l.drop pos).map el) := by
          rw [ho, List.filterMap_append, List.cons_append, List.filterMap_cons, List.filterMap_append, O3, O3]
          cases o <;> simp
        have hlen := congrArg List.length ho2
        rw [List.length_map, List.length_append, List.length_append, List.length_map, List.length_map, List.length_take, List.length_drop] at hlen
        have : o.toList.length <= 1 := by cases o <;> simp
        exact ⟨fun q => by omega, fun _ => hP out ho2⟩
    have hlenO : ∀ (o : Option Cm) (out : List aU), out.map el = (l.take pos).map el ++ (o.toList ++ (l.drop pos).map el) -> out.length = l.length + o.toList.length := by
      intro o out ho2
      have hlen := congrArg List.length ho2
      rw [List.length_map, List.length_append, List.length_append, List.length_map, List.length_map, List.length_take, List.length_drop] at hlen
      omega
    cases hsk : Jo line
    · -- a line that says something
      have j2 : ∀ {r0 : List aU} {r1 r2 k nd vl po n : Int} {b : Str} {g1 : Bool} {g2 : Ba 16} {s1 : Bool} {s2 : Ba 16} {x : Bool} {ll : List Ad} {t : Str} {e : Int}, nP l lJ Q r0 r1 r2 k nd vl po n b g1 g2 s1 s2 x ll t e false -> (((line : Str) = [] -> nP l lJ Q r0 r1 r2 k nd vl po n b g1 g2 s1 s2 x ll t e true) /\ (¬ ((line : Str) = []) -> ((0 : Int) <= 0 /\ 0 < (line.length : Int)) /\ (nP l lJ Q r0 r1 r2 k nd vl po n b g1 g2 s1 s2 x ll t e (decide (((gi line 0).toNat : Int) = 35))))) := by
        intro r0 r1 r2 k nd vl po n b g1 g2 s1 s2 x ll t e hj
        unfold Jo at hsk
        rw [Bool.or_eq_false_iff] at hsk
        refine ⟨fun q => absurd q (of_decide_eq_false hsk.1), fun q => ⟨⟨by omega, by have := List.length_pos_iff.2 q; omega⟩, ?_⟩⟩
        rw [hsk.2]; exact hj
      by_cases hc : ∃ c, kJ c = true /\ qA c = line
      · obtain ⟨c, gc, lc⟩ := hc
        refine good (some c) (.inr ⟨hsk, c, rfl, gc, lc⟩) fun out ho2 => Sj hll (fun d gd ed hu => ?_) (fun hn => absurd lc (hn c gc))
        have hd := hu c gc lc
        subst hd
        have hlen := hlenO _ _ ho2
        refine j2 ⟨fun q => (by cases q), fun _ => ⟨fun q => absurd rfl q, fun _ => ⟨by (first | omega | (unfold I64; omega) | (simp only [List.length_append, List.length_cons, List.length_nil, List.length_take, List.length_drop] at *; omega) | (unfold I64; simp only [List.length_append, List.length_cons, List.length_nil, List.length_take, List.length_drop] at *; omega)), fun _ => ⟨fun _ => ⟨fun _ => ?_, fun q => absurd rfl q⟩, fun q => absurd rfl q⟩, fun q => ?_⟩⟩⟩
        · rw [hpos]
          have hp : pos < out.length := by rw [hlen]; show pos < l.length + 1; omega
          have ep : el out[pos] = c := by
            have q : (out.map el)[pos]? = some c := by
              rw [ho2, List.getElem?_append_right (by rw [List.length_map, List.length_take]; omega), List.length_map, List.length_take, show pos - min pos l.length = 0 by omega]; rfl
            rw [List.getElem?_map, List.getElem?_eq_getElem hp] at q
            simpa using q
          rw [iZ hp]
          have agi := ab8 gc
          refine ⟨by omega, RU (a := el out[pos]) (b := c) (by rw [ep]; omega) ?_⟩
          rw [ep, decide_eq_true rfl]; exact h
        · exfalso; apply q; rw [hlen]; show ((l.length + 1 : Nat) : Int) = _; omega
      · refine scan_ok (T := Ez (l.take pos)) (R := line :: (qo (l.drop pos) ++ [[]])) hs2 ?_ (Oo g1) (fun p hp => ?_) (fun e => by cases e) (fun x r e => ?_)
        · rw [hsplit, O4, List.append_assoc]; rfl
        · obtain ⟨q, hq, rfl⟩ := List.mem_map.1 hp; exact l1 q hq
        · injection e with e1 e2
          subst e1
          refine ⟨hll, hsk, fun c gc lc => hc ⟨c, gc, lc⟩, ?_⟩
          refine Sj hll (fun d gd ed _ => absurd ⟨d, gd, ed⟩ hc) (fun _ => j2 ⟨fun q => (by cases q), fun _ => ⟨fun _ => ⟨fun _ => ?_, fun q => absurd rfl q⟩, fun q => absurd q (by decide)⟩⟩)
          have hT : ((Ez (l.take pos)).length : Int) = pos := by
            unfold Ez; rw [List.length_map, List.length_take]; omega
          rw [hpos, hT]
          exact ⟨by (first | omega | (unfold I64; omega) | (simp only [List.length_append, List.length_cons, List.length_nil, List.length_take, List.length_drop] at *; omega) | (unfold I64; simp only [List.length_append, List.length_cons, List.length_nil, List.length_take, List.length_drop] at *; omega)), fun _ => h, fun q => absurd rfl q⟩
    · -- a line to skip
      have j2 : ∀ {r0 : List aU} {r1 r2 k nd vl po n : Int} {b : Str} {g1 : Bool} {g2 : Ba 16} {s1 : Bool} {s2 : Ba 16} {x : Bool} {ll : List Ad} {t : Str} {e : Int}, nP l lJ Q r0 r1 r2 k nd vl po n b g1 g2 s1 s2 x ll t e true -> (((line : Str) = [] -> nP l lJ Q r0 r1 r2 k nd vl po n b g1 g2 s1 s2 x ll t e true) /\ (¬ ((line : Str) = []) -> ((0 : Int) <= 0 /\ 0 < (line.length : Int)) /\ (nP l lJ Q r0 r1 r2 k nd vl po n b g1 g2 s1 s2 x ll t e (decide (((gi line 0).toNat : Int) = 35))))) := by
        intro r0 r1 r2 k nd vl po n b g1 g2 s1 s2 x ll t e hj
        unfold Jo at hsk
        rw [Bool.or_eq_true] at hsk
        refine ⟨fun _ => hj, fun q => ⟨⟨by omega, by have := List.length_pos_iff.2 q; omega⟩, ?_⟩⟩
        rcases hsk with z | z
        · exact absurd (of_decide_eq_true z) q
        · rw [z]; exact hj
      have fin : ∀ {r0 : List aU} {k nd vl po n : Int} {b : Str} {g1 : Bool} {g2 : Ba 16} {s1 : Bool} {s2 : Ba 16} {x : Bool} {ll : List Ad} {t : Str} {e : Int}, r0.length = l.length -> nP l lJ Q r0 0 0 k nd vl po n b g1 g2 s1 s2 x ll t e true := by
        intro r0 k nd vl po n b g1 g2 s1 s2 x ll t e hlen
        exact ⟨fun _ => ⟨fun _ => ⟨fun _ => h, fun q => absurd rfl q⟩, fun q => absurd (by rw [hlen]) q⟩, fun q => (by cases q)⟩
      refine good none (.inl ⟨hsk, rfl⟩) fun out ho2 => ?_
      have hlen := hlenO _ _ ho2
      exact Sj hll (fun d gd ed hu => j2 (fin hlen)) (fun hn => j2 (fin hlen))
end Go.Wk
namespace Go.Wk
open Go.HL
variable [DM]
theorem Xh {a b : List aU} (h : a.map el = b.map el) {i : Nat} (ha : i < a.length) (hb : i < b.length) : el a[i] = el b[i] := by
  have q : (a.map el)[i]? = (b.map el)[i]? := by rw [h]
  rw [List.getElem?_map, List.getElem?_map, List.getElem?_eq_getElem ha, List.getElem?_eq_getElem hb] at q
  simpa using q
theorem Uo {l own : List aU} {other : Str} {lJ i : Int} {good : Bool} {K : List aU -> Bool -> Int -> Prop} (ho : Own own) (hgd : good = own.all fun p => kJ (el p)) (hat : 0 <= lJ /\ I64 lJ) {Q : Bool -> Prop} (h : Q true) :
    qG l other lJ Q own good i K false := by
  have h8 := ho.len
  have hL := QN (m := 800) (qo own) ho.lines
  have hLn : (qo own).length = own.length := by unfold qo; rw [List.length_map]
  rw [hLn] at hL
  refine ⟨fun q => (by cases q), fun _ => XL (fun p hp => by have := ho.l5 p hp; omega) (fun q => by omega) (fun _ hx => ⟨fun _ => ⟨fun _ => ⟨fun _ => TG h, fun q => absurd rfl q⟩, fun q => absurd rfl q⟩, fun q => ?_⟩) (fun _ hg => ⟨fun q => ?_, fun _ => ⟨fun q => ?_, fun _ => ?_⟩⟩)⟩
  · obtain ⟨p, hp, gp⟩ := hx
    have : good = false := by rw [hgd, List.all_eq_false]; exact ⟨p, hp, by rw [gp]; decide⟩
    rw [this] at q; cases q
  · have q : 20000 < (yc (qo own)).length := q
    omega
  · have : good = true := by rw [hgd, List.all_eq_true]; exact hg
    rw [this] at q; cases q
  · refine wK own.length (fun i s => s = yc (qo (own.take i)) /\ s.length <= i * 801) ⟨rfl, by simp⟩ ?_
    rintro K2 i2 s hi ⟨hs, hsl⟩ hK
    show qC other lJ Q own (yc (qo own)) 0 _ s (i2 : Int)
    unfold qC
    refine ⟨fun d => ⟨by omega, ?_⟩, fun d => ?_⟩
    · have i1 : i2 < own.length := by omega
      have hm := List.getElem_mem i1
      rw [iZ i1]
      have hln := ho.line hm
      refine VM (c := el own[i2]) (ho.sm _ hm) (by have := ho.l5 _ hm; omega) fun r hr hq => ?_
      have hq := hq (hg _ hm)
      subst hq
      refine ⟨by omega, by simp only [List.length_append, List.length_cons, List.length_nil]; omega, by (first | omega | (unfold I64; omega) | (simp only [List.length_append, List.length_cons, List.length_nil, List.length_take, List.length_drop] at *; omega) | (unfold I64; simp only [List.length_append, List.length_cons, List.length_nil, List.length_take, List.length_drop] at *; omega)), hK (i2 + 1) _ (by omega) (by omega) ⟨?_, ?_⟩⟩
      · rw [List.take_succ_eq_append_getElem i1, Iq, H8, hs, List.append_assoc]
      · simp only [List.length_append, List.length_cons, List.length_nil]; omega
    · have i1 : i2 = own.length := by omega
      rw [i1, List.take_length] at hs
      have hs2 : s.length <= 20000 := by rw [hs]; omega
      refine scan_ok (T := Ez own ++ [([], none)]) (R := []) hs2 ?_ (fun p hp => ?_) (fun p hp => ?_) (fun _ out hout => ?_) (fun x r e => by cases e)
      · rw [hs, Jk _ (Ir hg), List.map_append, O4, List.append_nil]; rfl
      · rcases List.mem_append.1 hp with hp | hp
        · exact Oo hg p hp
        · rw [List.mem_singleton.1 hp]; exact Yi
      · rcases List.mem_append.1 hp with hp | hp
        · obtain ⟨q, hq, rfl⟩ := List.mem_map.1 hp; exact ho.line hq
        · rw [List.mem_singleton.1 hp]; exact Nat.zero_le _
      · have hout2 : out.map el = own.map el := by rw [hout, List.filterMap_append, O3]; simp
        have hlen : out.length = own.length := by have := congrArg List.length hout2; rwa [List.length_map, List.length_map] at this
        refine ⟨fun q => by omega, fun _ => ⟨fun q => absurd hs.symm q, fun _ => ⟨fun q => absurd rfl q, fun _ => ⟨fun q => absurd rfl q, fun _ => ⟨fun q => absurd rfl q, fun _ => ⟨fun q => ?_, fun _ => ?_⟩⟩⟩⟩⟩⟩
        · rw [hlen, decide_eq_true rfl] at q; cases q
        · refine yS out.length (fun _ => True) trivial fun K3 i3 hi3 _ hK3 => ?_
          show qB other lJ Q own out K3 (i3 : Int)
          unfold qB
          refine ⟨fun d => ⟨by omega, by omega, ?_⟩, fun _ => ?_⟩
          · have a1 : i3 < out.length := by omega
            have a2 : i3 < own.length := by omega
            rw [iZ a1, iZ a2]
            have he := Xh hout2 a1 a2
            have := ho.l5 _ (List.getElem_mem a2)
            refine RU (a := el out[i3]) (b := el own[i3]) (by rw [he]; omega) ⟨fun q => ?_, fun _ => ⟨by (first | omega | (unfold I64; omega) | (simp only [List.length_append, List.length_cons, List.length_nil, List.length_take, List.length_drop] at *; omega) | (unfold I64; simp only [List.length_append, List.length_cons, List.length_nil, List.length_take, List.length_drop] at *; omega)), hK3 (i3 + 1) (by omega) (by omega) trivial⟩⟩
            rw [he, decide_eq_true rfl] at q; cases q
          · refine Zp (n := 40) fun r hr => YI (by omega) fun ls hne hls => ?_
            obtain ⟨a, w, rfl⟩ := List.exists_cons_of_ne_nil hne
            have ha := hls a (List.mem_cons_self ..)
            refine ⟨⟨by omega, by rw [List.length_cons]; omega⟩, hat.2, ?_⟩
            rw [wM]
            exact Yh ho hg hat.1 ha.1 (by omega) ⟨fun _ => TG h, fun q => (by cases q)⟩
theorem WL {l : List aU} {other : Str} {lJ : Int} (hn : ∀ p ∈ l, Nu (el p)) (hat : 0 <= lJ /\ I64 lJ) {Q : Bool -> Prop} (h : Q true) : uQ l other lJ Q := by
  refine Gv (fun q => q.2.2) l.length (fun i q => q.2.2 = (i : Int) /\ i <= 8 /\ q.1.map el = (l.take i).map (fun p => TY (el p)) /\ q.2.1 = q.1.all fun p => kJ (el p)) rfl ⟨rfl, by omega, by simp, by simp⟩ ?_
  rintro K i ⟨own, good, i'⟩ _ hi ⟨hi', hi8, hown, hgd⟩ hK
  replace hi' : i' = (i : Int) := hi'
  subst hi'
  replace hown : own.map el = (l.take i).map (fun p => TY (el p)) := hown
  replace hgd : good = own.all fun p => kJ (el p) := hgd
  have hlen : own.length = i := by
    have := congrArg List.length hown
    rw [List.length_map, List.length_map, List.length_take] at this; omega
  have hfew : ∀ p ∈ own, ∃ q ∈ l, el p = TY (el q) := by
    intro p hp
    have : el p ∈ own.map el := List.mem_map.2 ⟨p, hp, rfl⟩
    rw [hown] at this
    obtain ⟨q, hq, e⟩ := List.mem_map.1 this
    exact ⟨q, List.mem_of_mem_take hq, e.symm⟩
  have ho : Own own := by
    refine ⟨by omega, fun p hp => ?_, fun p hp => ?_, fun p hp => ?_, fun p hp => ?_⟩
    all_goals obtain ⟨q, hq, e⟩ := hfew p hp
    all_goals rw [e]
    · exact Y4 (hn q hq)
    · show ((el q).b.take 220).length <= 220; rw [List.length_take]; omega
    · exact aa6 _
    · show ((el q).t.take 70).length <= 70; rw [List.length_take]; omega
  have fin := Uo (l := l) (other := other) (i := (i : Int)) (K := fun eF ql bu => K (eF, ql, bu)) ho hgd hat h
  show qE l other lJ Q _ own good (i : Int)
  unfold qE
  refine ⟨fun d => ?_, fun d => fin⟩
  have i1 : i < l.length := by omega
  have hm := List.getElem_mem i1
  have hNu := hn _ hm
  by_cases h8 : (i : Int) < 8
  · rw [decide_eq_true h8]
    refine ⟨fun _ => ⟨by omega, ?_⟩, fun q => (by cases q)⟩
    rw [iZ i1]
    refine Y3 (c := el l[i]) ?_
    dsimp only [ap]
    intro v
    refine ⟨by simp only [List.length_cons, List.length_nil]; omega, fun g => Y3 (c := el l[i]) ?_, fun g => ⟨by (first | omega | (unfold I64; omega) | (simp only [List.length_append, List.length_cons, List.length_nil, List.length_take, List.length_drop] at *; omega) | (unfold I64; simp only [List.length_append, List.length_cons, List.length_nil, List.length_take, List.length_drop] at *; omega)), hK (i + 1) (_, _, _) rfl (by omega) (by omega) ⟨rfl, by omega, ?_, ?_⟩⟩⟩
    · dsimp only [ap]
      refine ab9 (c := TY (el l[i])) (Y4 hNu) (by have := aa6 (el l[i]); omega) ⟨by (first | omega | (unfold I64; omega) | (simp only [List.length_append, List.length_cons, List.length_nil, List.length_take, List.length_drop] at *; omega) | (unfold I64; simp only [List.length_append, List.length_cons, List.length_nil, List.length_take, List.length_drop] at *; omega)), hK (i + 1) (_, _, _) rfl (by omega) (by omega) ⟨rfl, by omega, ?_, ?_⟩⟩
      · show (own ++ [_]).map el = _
        rw [List.take_succ_eq_append_getElem i1, List.map_append, List.map_append, hown]; rfl
      · show kJ (TY (el l[i])) = (own ++ [_]).all _
        rw [List.all_append, ← hgd, g, Bool.true_and]
        show _ = (kJ _ && true)
        rw [Bool.and_true]; rfl
    · show (own ++ [_]).map el = _
      rw [List.take_succ_eq_append_getElem i1, List.map_append, List.map_append, hown]; rfl
    · show false = (own ++ [_]).all _
      rw [List.all_append, ← hgd, g, Bool.false_and]
  · rw [decide_eq_false h8]; exact fin
theorem Vw {n : Int} (h : IntKind.u8.min <= n /\ n <= IntKind.u8.max) : 0 <= n /\ n <= 255 := by
  have h1 : IntKind.u8.min = 0 := by decide
  have h2 : IntKind.u8.max = 255 := by decide
  omega
theorem NQ {l : List aU} {other : Str} {lJ : Int} {A B : aU -> Prop} (hl : ∀ p ∈ l, A p /\ I64 p.1.2.1 /\ I64 p.1.2.2.1 /\ I64 p.1.2.2.2.1 /\ I64 p.1.2.2.2.2.1 /\ B p) (ha : IntKind.u8.min <= lJ /\ lJ <= IntKind.u8.max) :
    uQ l other lJ (fun r => r = true) :=
  WL (fun p hp => ⟨(hl p hp).2.1, (hl p hp).2.2.1, (hl p hp).2.2.2.1, (hl p hp).2.2.2.2.1⟩) ⟨(Vw ha).1, by have := Vw ha; (first | omega | (unfold I64; omega) | (simp only [List.length_append, List.length_cons, List.length_nil, List.length_take, List.length_drop] at *; omega) | (unfold I64; simp only [List.length_append, List.length_cons, List.length_nil, List.length_take, List.length_drop] at *; omega))⟩ rfl
end Go.Wk
