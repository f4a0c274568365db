/- Plain words: the laws ScriptWrites and ScriptLong. -/
import Derived.Test.YtlnagjjldpgbpaaGreatDoorScG
set_option linter.unusedSimpArgs false
set_option linter.unusedVariables false
set_option linter.unusedSectionVars false
namespace Go.Wk
open Go.HL
variable [DM]
end Go.Wk
namespace Go.Wk
open Go.HL
variable [DM]
end Go.Wk
namespace Go.Wk
open Go.HL
variable [DM]
def el (p : bg) : Cm := ⟨p.1.1, p.1.2.1, p.1.2.2.1, p.1.2.2.2.1, p.1.2.2.2.2.1, p.1.2.2.2.2.2, p.2.1, p.2.2.1, p.2.2.2.1.1, p.2.2.2.1.2.2, p.2.2.2.2⟩
theorem Hz : ∀ k < 16, Dw k ≠ 10 := by decide
theorem O1 {b : Nat} (hb : 2 <= b /\ b <= 16) (n : Nat) : (10 : UInt8) ∉ mP b n := by
  induction n using Nat.strongRecOn with
  | _ n ih =>
    by_cases h : n < b
    · rw [Bi h]; simp only [List.mem_singleton]; exact fun q => Hz n (by omega) q.symm
    · rw [Dh hb.1 (by omega), List.mem_append]
      rintro (q | q)
      · exact ih _ (Nat.div_lt_self (by omega) (by omega)) q
      · simp only [List.mem_singleton] at q
        exact Hz _ (by have := Nat.mod_lt n (show b > 0 by omega); omega) q.symm
theorem Ik {n : Int} : (10 : UInt8) ∉ jo n := by
  intro h
  rcases Ny h with h | ⟨k, hk, h⟩
  · exact absurd h (by decide)
  · exact Hz k (by omega) h.symm
theorem Vk (s : Str) : (10 : UInt8) ∉ hexL s := by
  intro h
  unfold hexL at h
  rw [List.mem_flatMap] at h
  obtain ⟨c, _, q⟩ := h
  have hc := GK c
  simp only [List.mem_cons, List.not_mem_nil, or_false] at q
  rcases q with q | q
  · exact Hz _ (by omega) q.symm
  · exact Hz _ (by omega) q.symm
def zg (L : List Str) : Str := L.flatMap fun x => x ++ [10]
theorem MG (L : List Str) (x : Str) : zg (L ++ [x]) = zg L ++ (x ++ [10]) := by unfold zg; rw [List.flatMap_append]; simp
theorem KN : ∀ L : List Str, (∀ x ∈ L, (10 : UInt8) ∉ x) -> df (zg L) [10] = L ++ [[]]
  | [], _ => vT (by simp [zg])
  | x :: L, h => by
    have e : zg (x :: L) = x ++ 10 :: zg L := by show (x ++ [10]) ++ zg L = _; rw [List.append_assoc]; rfl
    rw [e, zl (h x (List.mem_cons_self ..)), KN L fun y hy => h y (List.mem_cons_of_mem _ hy)]; rfl
theorem Ve {c : Cm} (h : jY c = true) : (lX c).length <= 700000 := by
  have h1 := (Hw c.k)
  have h2 := JP (JA h) (iq c.k).2
  unfold lX; rw [List.length_append]; omega
theorem VD {l : List bg} (hl : ∀ p ∈ l, (el p).l.length <= 1000) {Q : Str -> Int -> Prop} (h6 : 1000 < l.length -> Q [] 6)
    (h2 : l.length <= 1000 -> (∃ p ∈ l, jY (el p) = false) -> Q [] 2)
    (h0 : l.length <= 1000 -> (∀ p ∈ l, jY (el p) = true) -> (20000 < (zg (l.map fun p => lX (el p))).length -> Q [] 6) /\ ((zg (l.map fun p => lX (el p))).length <= 20000 -> Q (zg (l.map fun p => lX (el p))) 0)) : zq l Q := by
  refine ⟨fun d => h6 (by omega), fun d => ?_⟩
  refine yG l.length (fun i s => s = zg ((l.take i).map fun p => lX (el p)) /\ s.length <= i * 700001 /\ ∀ p ∈ l.take i, jY (el p) = true) ⟨rfl, by simp, by simp⟩ ?_
  rintro K i s hi ⟨hs, hn, hg⟩ hK
  show uQ l Q _ s (i : Int)
  unfold uQ
  refine ⟨fun f => ⟨by omega, ?_⟩, fun f => ?_⟩
  · have i1 : i < l.length := by omega
    rw [iP i1]
    have hm := List.getElem_mem i1
    refine Ul (c := el l[i]) (hl _ hm) ⟨fun g => h2 (by omega) ⟨_, hm, by simpa using g⟩, fun g => ?_⟩
    have g : jY (el l[i]) = true := by simpa using g
    have hb := Ve g
    refine Ue (JA g) ⟨by simp only [List.length_cons, List.length_nil]; omega, by simp only [List.length_append, List.length_cons, List.length_nil]; omega, by (first | omega | (unfold I64; omega) | (simp only [List.length_append, List.length_cons, List.length_nil, List.length_take, List.length_drop] at *; omega) | (unfold I64; simp only [List.length_append, List.length_cons, List.length_nil, List.length_take, List.length_drop] at *; omega)), hK (i + 1) _ (by omega) (by omega) ⟨?_, ?_, ?_⟩⟩
    · rw [List.take_succ_eq_append_getElem i1, List.map_append, hs]; exact (MG _ _).symm
    · simp only [List.length_append, List.length_cons, List.length_nil]; omega
    · rw [List.take_succ_eq_append_getElem i1]
      intro p hp
      rcases List.mem_append.1 hp with hp | hp
      · exact hg p hp
      · rw [List.mem_singleton.1 hp]; exact g
  · have i1 : i = l.length := by omega
    subst i1
    rw [List.take_length] at hs hg
    obtain ⟨a, b⟩ := h0 (by omega) hg
    refine ⟨fun q => a (by rw [← hs]; omega), fun q => ?_⟩
    have := b (by rw [← hs]; omega)
    rw [← hs] at this; exact this
def KQ (x : Str) : Bool := decide (x = []) || decide (((gi x 0).toNat : Int) = 35)
def Rd (x : Str) (o : Option Cm) : Prop := (KQ x = true /\ o = none) ∨ (KQ x = false /\ ∃ c, o = some c /\ jY c = true /\ lX c = x)
theorem UO {c : Cm} (h : jY c = true) : KQ (lX c) = false := by
  have hk := FP h
  have d : ∀ k ∈ kinds, ∃ a r, (iq k).1 = a :: r /\ a ≠ 35 := by
    have : ∀ k ∈ kinds, (iq k).1.head? ≠ none /\ (iq k).1.head? ≠ some 35 := by decide
    intro k hk
    have q := this k hk
    cases e : (iq k).1 with
    | nil => rw [e] at q; exact absurd rfl q.1
    | cons a r => rw [e] at q; exact ⟨a, r, rfl, fun z => q.2 (by rw [z]; rfl)⟩
  obtain ⟨a, r, e, n⟩ := d _ hk
  unfold lX
  rw [e]
  unfold KQ
  rw [decide_eq_false (by simp), Bool.false_or]
  refine decide_eq_false fun q => n ?_
  have q : (a.toNat : Int) = 35 := q
  apply UInt8.toNat_inj.1
  show a.toNat = 35
  omega
theorem X8 {c : Cm} (h : jY c = true) : Rd (lX c) (some c) := .inr ⟨UO h, c, rfl, h, rfl⟩
theorem scan_ok {s : Str} {T : List (Str × Option Cm)} {R : List Str} (hs : s.length <= 20000) (hW : df s [10] = T.map Prod.fst ++ R) (hT : ∀ p ∈ T, Rd p.1 p.2) (hx : ∀ p ∈ T, p.1.length <= 800) {Q : List bg -> Int -> Int -> Prop}
    (hend : R = [] -> ∀ out : List bg, out.map el = T.filterMap Prod.snd -> (1000 < out.length -> Q [] 0 6) /\ (out.length <= 1000 -> Q out 0 0))
    (hbad : ∀ x r, R = x :: r -> x.length <= 800 /\ KQ x = false /\ (∀ c, jY c = true -> lX c ≠ x) /\ Q [] ((T.length : Int) + 1) 2) : xW s Q := by
  refine ⟨fun q => by omega, fun _ => ⟨⟨by omega, by simp⟩, ?_⟩⟩
  have hlen : (df s [10]).length = T.length + R.length := by rw [hW, List.length_append, List.length_map]
  have hsl := JQ s 10
  refine FM (fun q => q.2.2) (df s [10]).length (fun i q => q.2.2 = (i : Int) /\ i <= T.length /\ q.2.1.length <= i /\ q.2.1.map el = (T.take i).filterMap Prod.snd) rfl ⟨rfl, by omega, by simp, by simp⟩ ?_
  rintro K i ⟨l, out, n⟩ _ hi ⟨hn, hiT, hol, ho⟩ hK
  replace hn : n = (i : Int) := hn
  subst hn
  replace hol : out.length <= i := hol
  replace ho : out.map el = (T.take i).filterMap Prod.snd := ho
  show vZ s Q _ l out (i : Int)
  unfold vZ
  refine ⟨fun d => ⟨by omega, ?_⟩, fun d => ?_⟩
  · have i1 : i < (df s [10]).length := by omega
    rw [iP i1]
    have j1 : ∀ b, b = KQ (df s [10])[i] -> wo s Q l out (i : Int) (fun oq bK bn => K (oq, bK, bn)) b := by
      intro b hb
      by_cases iT : i < T.length
      · have eW : (df s [10])[i] = T[i].1 := by
          simp only [hW]
          rw [List.getElem_append_left (by rw [List.length_map]; exact iT), List.getElem_map]
        have hm := List.getElem_mem iT
        have hr := hT _ hm
        rw [eW] at hb
        refine ⟨fun q => ⟨by (first | omega | (unfold I64; omega) | (simp only [List.length_append, List.length_cons, List.length_nil, List.length_take, List.length_drop] at *; omega) | (unfold I64; simp only [List.length_append, List.length_cons, List.length_nil, List.length_take, List.length_drop] at *; omega)), hK (i + 1) (l, out, _) rfl (by omega) (by omega) ⟨rfl, by omega, by show out.length <= i + 1; omega, ?_⟩⟩, fun q => ?_⟩
        · rcases hr with hr | hr
          · show out.map el = _
            rw [List.take_succ_eq_append_getElem iT, List.filterMap_append, ho, List.filterMap_cons, hr.2]; simp
          · rw [hr.1, q] at hb; cases hb
        · rcases hr with hr | ⟨_, c, hc, gc, lc⟩
          · rw [hr.1, q] at hb; cases hb
          · rw [iP i1, eW]
            refine Nc (hx _ hm) (fun d gd ed hu => ?_) (fun hn => absurd lc (hn _ gc))
            have hd := hu _ gc lc
            subst hd
            refine ⟨fun z => absurd rfl z, fun _ v => ⟨?_, by (first | omega | (unfold I64; omega) | (simp only [List.length_append, List.length_cons, List.length_nil, List.length_take, List.length_drop] at *; omega) | (unfold I64; simp only [List.length_append, List.length_cons, List.length_nil, List.length_take, List.length_drop] at *; omega)), hK (i + 1) (l, _, _) rfl (by omega) (by omega) ⟨rfl, by omega, ?_, ?_⟩⟩⟩
            · simp only [List.length_cons, List.length_nil]; omega
            · show (out ++ [_]).length <= i + 1
              rw [List.length_append]; simp only [List.length_cons, List.length_nil]; omega
            · show (out ++ [_]).map el = _
              rw [List.take_succ_eq_append_getElem iT, List.filterMap_append, List.map_append, ho, List.filterMap_cons, hc]; rfl
      · have iE : i = T.length := by omega
        subst iE
        obtain ⟨x, r, e⟩ := List.exists_cons_of_ne_nil (l := R) (fun q => by rw [q] at hlen; simp at hlen; omega)
        obtain ⟨b1, b2, b3, b4⟩ := hbad x r e
        have eW : (df s [10])[T.length] = x := by
          simp only [hW, e]
          rw [List.getElem_append_right (by rw [List.length_map]; exact Nat.le_refl _)]
          simp
        rw [eW, b2] at hb
        subst hb
        refine ⟨fun q => (by cases q), fun _ => ?_⟩
        rw [iP i1, eW]
        exact Nc b1 (fun d gd ed _ => absurd ed (b3 _ gd)) (fun _ => ⟨fun _ => ⟨by (first | omega | (unfold I64; omega) | (simp only [List.length_append, List.length_cons, List.length_nil, List.length_take, List.length_drop] at *; omega) | (unfold I64; simp only [List.length_append, List.length_cons, List.length_nil, List.length_take, List.length_drop] at *; omega)), b4⟩, fun q => absurd q (by decide)⟩)
    refine ⟨fun q => j1 _ ?_, fun q => ⟨⟨by omega, ?_⟩, j1 _ ?_⟩⟩
    · unfold KQ; rw [decide_eq_true q]; rfl
    · have := List.length_pos_iff.2 q; omega
    · unfold KQ; rw [decide_eq_false q, Bool.false_or]
  · have iE : i = (df s [10]).length := by omega
    have hR : R = [] := List.eq_nil_of_length_eq_zero (by omega)
    have := hend hR out (by rw [ho, List.take_of_length_le (by omega)])
    exact ⟨fun q => this.1 (by omega), fun q => this.2 (by omega)⟩
def FN (l : List bg) : List Str := l.map fun p => lX (el p)
def IM (l : List bg) : List (Str × Option Cm) := l.map fun p => (lX (el p), some (el p))
theorem V9 (l : List bg) : (IM l).map Prod.fst = FN l := by unfold IM FN; rw [List.map_map]; rfl
theorem V8 (l : List bg) : (IM l).filterMap Prod.snd = l.map el := by
  unfold IM; induction l with
  | nil => rfl
  | cons p l ih => rw [List.map_cons, List.filterMap_cons, ih]; rfl
theorem X6 {l : List bg} (h : ∀ p ∈ l, jY (el p) = true) : ∀ q ∈ IM l, Rd q.1 q.2 := by
  intro q hq
  unfold IM at hq
  obtain ⟨p, hp, rfl⟩ := List.mem_map.1 hq
  exact X8 (h p hp)
theorem ZH : Rd [] none := .inl ⟨rfl, rfl⟩
end Go.Wk
namespace Go.Wk
open Go.HL
variable [DM]
theorem PI (a : Ad) (i j : Nat) : (10 : UInt8) ∉ fA (wL a i j) [58] := by
  intro h
  rcases yY h with h | ⟨x, hx, h⟩
  · simp at h
  · obtain ⟨k, _, rfl⟩ := List.mem_map.1 hx
    exact O1 (by decide) _ h
theorem L9 (a : Ad) : (10 : UInt8) ∉ txt a := by
  intro h
  unfold txt at h
  split at h
  · split at h
    · exact PI _ _ _ h
    · rcases List.mem_append.1 h with h | h
      · rcases List.mem_append.1 h with h | h
        · exact PI _ _ _ h
        · simp at h
      · exact PI _ _ _ h
  · rcases yY h with h | ⟨x, hx, h⟩
    · simp at h
    · obtain ⟨k, _, rfl⟩ := List.mem_map.1 hx
      exact O1 (by decide) _ h
theorem VQ (l : List Ad) : (10 : UInt8) ∉ Ld l := by
  unfold Ld
  split
  · decide
  · intro q
    rcases yY q with q | ⟨x, hx, q⟩
    · simp at q
    · obtain ⟨a, _, rfl⟩ := List.mem_map.1 hx
      exact L9 a q
theorem Vb {c : Cm} (h : jY c = true) : (10 : UInt8) ∉ lX c := by
  have hT : ∀ t ∈ (iq c.k).2, (10 : UInt8) ∉ CP c t := by
    intro t ht
    have hw := Kv h t ht
    have hb := KW _ t ht
    unfold CP
    split
    · split
      · decide
      · exact Ik
    split
    · exact Ik
    split
    · exact Ik
    split
    · exact Ik
    split
    · split
      · decide
      · exact Vk _
    split
    · split <;> decide
    split
    · exact L9 _
    split
    · exact L9 _
    split
    · intro q
      unfold Rw at q
      rcases List.mem_append.1 q with q | q
      · revert q; cases c.x <;> decide
      · rcases List.mem_cons.1 q with q | q
        · exact absurd q (by decide)
        · exact VQ _ q
    have t9 : t = 9 := by omega
    subst t9
    intro q
    have hp : rE c.t = true := hw
    unfold rE at hp
    simp only [Bool.and_eq_true, List.all_eq_true] at hp
    exact absurd (hp.2 _ q) (by decide)
  have hF : ∀ k, (10 : UInt8) ∉ (iq k).1 := by
    intro k
    by_cases hk : k ∈ kinds
    · revert k; decide
    · rw [Il hk]; simp
  intro q
  unfold lX at q
  rcases List.mem_append.1 q with q | q
  · exact hF _ q
  · unfold xO at q
    obtain ⟨t, ht, q⟩ := List.mem_flatMap.1 q
    rcases List.mem_cons.1 q with q | q
    · exact absurd q (by decide)
    · exact hT t ht q
theorem Qa {l : List bg} (h : ∀ p ∈ l, jY (el p) = true) : ∀ x ∈ FN l, (10 : UInt8) ∉ x := by
  intro x hx
  obtain ⟨p, hp, rfl⟩ := List.mem_map.1 hx
  exact Vb (h p hp)
end Go.Wk
namespace Go.Wk
open Go.HL
variable [DM]
def WC (k0 : Int) (b : Str) : Cm := ⟨k0, 0, 0, 0, 0, b, (false, d16), (false, d16), false, [], []⟩
theorem ZG {l : List bg} {c : Cm} (h : l.map el = List.replicate l.length c) : ∀ p ∈ l, el p = c := by
  intro p hp
  have : el p ∈ l.map el := List.mem_map.2 ⟨p, hp, rfl⟩
  rw [h] at this
  exact (List.mem_replicate.1 this).2
theorem Va {l : List bg} {c : Cm} (h : l.map el = List.replicate l.length c) : FN l = List.replicate l.length (lX c) := by
  have : FN l = (l.map el).map lX := by unfold FN; rw [List.map_map]; rfl
  rw [this, h, List.map_replicate]
theorem TG (n : Nat) (x : Str) : (zg (List.replicate n x)).length = n * (x.length + 1) := by
  induction n with
  | zero => simp [zg]
  | succ n ih =>
    rw [List.replicate_succ]
    show ((x ++ [10]) ++ zg (List.replicate n x)).length = _
    rw [List.length_append, List.length_append, ih, List.length_cons, List.length_nil, Nat.add_mul]; omega
theorem Ud {k : Nat} {c : Cm} {k0 : Int} {b : Str} {most : Nat} (hc : c = WC k0 b) (hg : jY c = true) (hk : k <= 2000) (hll : (lX c).length <= 800) (O7 : most < k ↔ (1000 < k ∨ 20000 < k * ((lX c).length + 1))) {Q : Bool -> Prop} (h : Q true) :
    qy Q (k : Int) (lX c ++ [10]) k0 b (most : Int) := by
  refine FM (fun q => q.2.2) k (fun i q => q.2.2 = (i : Int) /\ q.1.length = i /\ q.1.map el = List.replicate i c /\ q.2.1 = zg (List.replicate i (lX c))) rfl ⟨rfl, rfl, rfl, rfl⟩ ?_
  rintro K i ⟨l, s, i'⟩ _ hi ⟨hi', hl, hel, hs⟩ hK
  replace hi' : i' = (i : Int) := hi'
  subst hi'
  replace hl : l.length = i := hl
  replace hel : l.map el = List.replicate i c := hel
  replace hs : s = zg (List.replicate i (lX c)) := hs
  show qx Q (k : Int) (lX c ++ [10]) k0 b (most : Int) _ l s (i : Int)
  have hsl : s.length = i * ((lX c).length + 1) := by rw [hs, TG]
  have hbound : i * ((lX c).length + 1) <= 2000 * 801 := Nat.mul_le_mul (by omega) (by omega)
  unfold qx
  refine ⟨fun d => ⟨by simp only [List.length_cons, List.length_nil]; omega, by simp only [List.length_append, List.length_cons, List.length_nil]; omega, by (first | omega | (unfold I64; omega) | (simp only [List.length_append, List.length_cons, List.length_nil, List.length_take, List.length_drop] at *; omega) | (unfold I64; simp only [List.length_append, List.length_cons, List.length_nil, List.length_take, List.length_drop] at *; omega)), hK (i + 1) (_, _, _) rfl (by omega) (by omega) ⟨rfl, ?_, ?_, ?_⟩⟩, fun d => ?_⟩
  · show (l ++ [_]).length = i + 1; rw [List.length_append, hl]; rfl
  · show (l ++ [_]).map el = _
    rw [List.map_append, hel, List.replicate_succ', hc]; rfl
  · show s ++ _ = _
    rw [List.replicate_succ', MG, hs]
  · have ik : i = k := by omega
    subst ik
    have abl : l.map el = List.replicate l.length c := by rw [hl]; exact hel
    have hp := ZG abl
    have hgl : ∀ p ∈ l, jY (el p) = true := fun p q => by rw [hp p q]; exact hg
    have SG := Va abl
    rw [hl] at SG
    have hT : (zg (l.map fun p => lX (el p))).length = i * ((lX c).length + 1) := by
      show (zg (FN l)).length = _
      rw [SG, TG]
    have fin : ∀ (r1 r2 : Int) (out : List bg), (most < i -> r1 = 6 /\ r2 = 6) -> (¬ most < i -> r1 = 0 /\ r2 = 0 /\ out.length = i) ->
        (((most : Int) < (i : Int) -> kN Q (i : Int) r1 out r2 6) /\ (¬ ((most : Int) < (i : Int)) -> kN Q (i : Int) r1 out r2 0)) := by
      intro r1 r2 out a b
      refine ⟨fun q => ?_, fun q => ?_⟩
      · obtain ⟨rfl, rfl⟩ := a (by omega)
        exact ⟨fun _ => ⟨fun _ => ⟨fun _ => QL h, fun q => absurd q (by decide)⟩, fun q => absurd rfl q⟩, fun q => absurd rfl q⟩
      · obtain ⟨rfl, rfl, e⟩ := b (by omega)
        exact ⟨fun _ => ⟨fun _ => ⟨fun q => absurd rfl q, fun _ => ⟨fun _ => QL h, fun q => absurd (by rw [e]) q⟩⟩, fun q => absurd rfl q⟩, fun q => absurd rfl q⟩
    have rd : ∀ r1, (most < i -> r1 = 6) -> (¬ most < i -> r1 = 0) -> xW s (fun dh dO yL => (((most : Int) < (i : Int) -> kN Q (i : Int) r1 dh yL 6) /\ (¬ ((most : Int) < (i : Int)) -> kN Q (i : Int) r1 dh yL 0))) := by
      intro r1 a b
      by_cases big : 20000 < s.length
      · exact ⟨fun _ => fin _ _ _ (fun q => ⟨a q, rfl⟩) (fun q => absurd (O7.2 (.inr (by rw [← hsl]; exact big))) q), fun q => absurd (by omega) q⟩
      · refine scan_ok (T := IM l ++ [([], none)]) (R := []) (by omega) ?_ (fun p hp => ?_) (fun p hq => ?_) (fun _ out hout => ?_) (fun x r e => by cases e)
        · rw [hs, ← SG, KN _ (Qa hgl), List.map_append, V9, List.append_nil]; rfl
        · rcases List.mem_append.1 hp with hp | hp
          · exact X6 hgl p hp
          · rw [List.mem_singleton.1 hp]; exact ZH
        · rcases List.mem_append.1 hq with hq | hq
          · obtain ⟨q, hq2, rfl⟩ := List.mem_map.1 hq
            show (lX (el q)).length <= 800
            rw [hp q hq2]; exact hll
          · rw [List.mem_singleton.1 hq]; exact Nat.zero_le _
        · have hout2 : out.map el = l.map el := by rw [hout, List.filterMap_append, V8]; simp
          have hlen : out.length = i := by have := congrArg List.length hout2; rw [List.length_map, List.length_map] at this; omega
          refine ⟨fun q => fin _ _ _ (fun z => ⟨a z, rfl⟩) (fun z => absurd (O7.2 (.inl (by omega))) z), fun q => fin _ _ _ (fun z => ?_) (fun z => ⟨b z, rfl, hlen⟩)⟩
          exfalso
          rcases O7.1 z with z | z
          · omega
          · rw [← hsl] at z; omega
    refine VD (fun p q => by rw [hp p q, hc]; exact Nat.zero_le _) (fun q => rd 6 (fun _ => rfl) (fun z => absurd (O7.2 (.inl (by omega))) z)) (fun _ ⟨p, q, e⟩ => ?_) (fun hle _ => ⟨fun q => rd 6 (fun _ => rfl) (fun z => absurd (O7.2 (.inr (by rw [← hT]; exact q))) z), fun q => rd 0 (fun z => ?_) (fun _ => rfl)⟩)
    · rw [hgl p q] at e; cases e
    · exfalso
      rcases O7.1 z with z | z
      · omega
      · rw [← hT] at z; omega
def L6 : Cm := WC 1 (List.replicate (92 : Int).toNat (default : UInt8) ++ [120])
theorem Ic : jY L6 = true := by kernel_rfl
theorem VH : (lX L6).length = 198 := by kernel_rfl
def Tv : Cm := WC 26 []
theorem UR : jY Tv = true := by kernel_rfl
theorem OT : lX Tv = [115, 104, 111, 119] := by kernel_rfl
theorem WB {n : Int} {wide : Bool} (hn : 0 <= n) {Q : Bool -> Prop} (h : Q true) : rf n wide Q := by
  have m10 : n.tmod 10 = n % 10 := Int.tmod_eq_emod_of_nonneg hn
  have m12 : n.tmod 12 = n % 12 := Int.tmod_eq_emod_of_nonneg hn
  have b10 := jJ (n % 10)
  have b12 := jJ (n % 12)
  unfold rf
  rw [m10, m12]
  refine ⟨by omega, by (first | omega | (unfold I64; omega) | (simp only [List.length_append, List.length_cons, List.length_nil, List.length_take, List.length_drop] at *; omega) | (unfold I64; simp only [List.length_append, List.length_cons, List.length_nil, List.length_take, List.length_drop] at *; omega)), by (first | omega | (unfold I64; omega) | (simp only [List.length_append, List.length_cons, List.length_nil, List.length_take, List.length_drop] at *; omega) | (unfold I64; simp only [List.length_append, List.length_cons, List.length_nil, List.length_take, List.length_drop] at *; omega)), fun hw => ?_, fun hw => ?_⟩
  · have hS : Sm L6 := JA Ic
    have hlen := VH
    refine ⟨by omega, by decide, by omega, by (first | omega | (unfold I64; omega) | (simp only [List.length_append, List.length_cons, List.length_nil, List.length_take, List.length_drop] at *; omega) | (unfold I64; simp only [List.length_append, List.length_cons, List.length_nil, List.length_take, List.length_drop] at *; omega)), by (first | omega | (unfold I64; omega) | (simp only [List.length_append, List.length_cons, List.length_nil, List.length_take, List.length_drop] at *; omega) | (unfold I64; simp only [List.length_append, List.length_cons, List.length_nil, List.length_take, List.length_drop] at *; omega)), TP (c := L6) hS (by decide) fun r hr hq => ?_⟩
    have hq := hq Ic
    subst hq
    refine ⟨by simp only [List.length_cons, List.length_nil]; omega, TP (c := L6) hS (by decide) fun r hr hq => ?_⟩
    have hq := hq Ic
    subst hq
    have hl2 : (((lX L6 ++ ([10] : Str)).length : Nat) : Int) = 199 := by rw [List.length_append, hlen]; rfl
    refine ⟨by simp only [List.length_cons, List.length_nil]; omega, by omega, by rw [hl2]; decide, ?_⟩
    rw [hl2]
    obtain ⟨k, hk⟩ : ∃ k : Nat, 95 + ((jh (n % 12)).toNat : Int) = (k : Int) := ⟨95 + (jh (n % 12)).toNat, by omega⟩
    rw [hk]
    have e : (20000 : Int).tdiv 199 = ((100 : Nat) : Int) := by decide
    rw [e]
    exact Ud (c := L6) rfl Ic (by omega) (by omega) (by rw [hlen]; omega) h
  · obtain ⟨k, hk⟩ : ∃ k : Nat, 995 + ((jh (n % 10)).toNat : Int) = (k : Int) := ⟨995 + (jh (n % 10)).toNat, by omega⟩
    rw [hk]
    have hl : (lX Tv).length = 4 := by rw [OT]; rfl
    have := Ud (k := k) (c := Tv) (most := 1000) rfl UR (by omega) (by omega) (by rw [hl]; omega) h
    rw [OT] at this
    exact this
theorem XU {n : Int} (h : IntKind.u8.min <= n /\ n <= IntKind.u8.max) : 0 <= n /\ n <= 255 := by
  have h1 : IntKind.u8.min = 0 := by decide
  have h2 : IntKind.u8.max = 255 := by decide
  omega
theorem Ov {n : Int} {wide : Bool} (ha : IntKind.u8.min <= n /\ n <= IntKind.u8.max) : rf n wide (fun r => r = true) := WB (XU ha).1 rfl
end Go.Wk
