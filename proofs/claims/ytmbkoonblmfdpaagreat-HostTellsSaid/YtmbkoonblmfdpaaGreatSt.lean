/- The memory of a walk: things owned, each apart from the others, and blocks that stay as they are. -/
import Derived.Test.YtmbkoonblmfdpaaGreatOps3
set_option linter.unusedSimpArgs false
set_option linter.unusedVariables false
set_option linter.unusedSectionVars false
namespace Go.Wk
open Go.HL
variable [DM]
abbrev Fz := Nat -> Prop
structure Kp (F : Fz) (h : Heap) (F' : Fz) (h' : Heap) : Prop where
  size : h.size <= h'.size
  sub : ∀ b, F b -> F' b
  old : ∀ b, F b -> h'[b]? = h[b]?
theorem Kp.refl (F : Fz) (h : Heap) : Kp F h F h := ⟨Nat.le_refl _, fun _ h => h, fun _ _ => rfl⟩
theorem Kp.trans {F F' F'' : Fz} {h h' h'' : Heap} (k : Kp F h F' h') (k' : Kp F' h' F'' h'') : Kp F h F'' h'' :=
  ⟨Nat.le_trans k.size k'.size, fun b hb => k'.sub b (k.sub b hb), fun b hb => (k'.old b (k.sub b hb)).trans (k.old b hb)⟩
structure Ow where
  foot : Nat -> Prop
  inv : Heap -> Prop
  lt : ∀ h b, inv h -> foot b -> b < h.size
  loc : ∀ h h', inv h -> (∀ b, foot b -> h'[b]? = h[b]?) -> inv h'
structure St (F : Fz) (os : List Ow) (h : Heap) : Prop where
  fz : ∀ b, F b -> b < h.size
  inv : ∀ (j : Nat) (o : Ow), os[j]? = some o -> o.inv h
  off : ∀ (j : Nat) (o : Ow), os[j]? = some o -> ∀ b, o.foot b -> ¬ F b
  apart : ∀ (i j : Nat) (o o' : Ow), i ≠ j -> os[i]? = some o -> os[j]? = some o' -> ∀ b, o.foot b -> ¬ o'.foot b
section
variable {F F' : Fz} {os : List Ow} {h h' : Heap} {o o' : Ow}
theorem St.get (hS : St F os h) (i : Nat) (hi : os[i]? = some o) : o.inv h := hS.inv i o hi
theorem St.turn (hS : St F os h) (i : Nat) (hi : os[i]? = some o) (o' : Ow) (hinv : o'.inv h') (QL : ∀ b, o'.foot b -> o.foot b ∨ h.size <= b)
    (hsz : h.size <= h'.size) (hold : ∀ b, b < h.size -> ¬ o.foot b -> h'[b]? = h[b]?) : St F (os.set i o') h' /\ Kp F h F h' := by
  have hF : ∀ b, F b -> h'[b]? = h[b]? := fun b hb => hold b (hS.fz b hb) fun hf => hS.off i o hi b hf hb
  have hget : ∀ (j : Nat) (q : Ow), (os.set i o')[j]? = some q -> (j = i /\ q = o') ∨ (j ≠ i /\ os[j]? = some q) := by
    intro j q hq
    rw [List.getElem?_set] at hq
    by_cases e : i = j
    · subst e; rw [if_pos rfl] at hq
      split at hq
      · left; exact ⟨rfl, by injection hq with hq; exact hq.symm⟩
      · cases hq
    · rw [if_neg e] at hq; exact .inr ⟨fun e' => e e'.symm, hq⟩
  refine ⟨⟨fun b hb => Nat.lt_of_lt_of_le (hS.fz b hb) hsz, ?_, ?_, ?_⟩, ⟨hsz, fun _ h => h, hF⟩⟩
  · intro j q hq
    rcases hget j q hq with ⟨_, rfl⟩ | ⟨hne, hq⟩
    · exact hinv
    · exact q.loc h h' (hS.inv j q hq) fun b hb => hold b (q.lt h b (hS.inv j q hq) hb) fun hf => hS.apart j i q o hne hq hi b hb hf
  · intro j q hq b hb hF'
    rcases hget j q hq with ⟨_, rfl⟩ | ⟨_, hq⟩
    · rcases QL b hb with h1 | h1
      · exact hS.off i o hi b h1 hF'
      · have := hS.fz b hF'; omega
    · exact hS.off j q hq b hb hF'
  · intro j k q r hjk hq hr b hb hb'
    rcases hget j q hq with ⟨rfl, rfl⟩ | ⟨hj, hq1⟩ <;> rcases hget k r hr with ⟨rfl, rfl⟩ | ⟨hk, hr1⟩
    · exact hjk rfl
    · rcases QL b hb with h1 | h1
      · exact hS.apart j k o r (Ne.symm hk) hi hr1 b h1 hb'
      · have := r.lt h b (hS.inv k r hr1) hb'; omega
    · rcases QL b hb' with h1 | h1
      · exact hS.apart j k q o hj hq1 hi b hb h1
      · have := q.lt h b (hS.inv j q hq1) hb; omega
    · exact hS.apart j k q r hjk hq1 hr1 b hb hb'
theorem St.cons (hS : St F os h) (o : Ow) (hinv : o.inv h') (QL : ∀ b, o.foot b -> h.size <= b) (e : Ext h h') : St F (o :: os) h' /\ Kp F h F h' := by
  have hF : ∀ b, F b -> h'[b]? = h[b]? := fun b hb => e.old b (hS.fz b hb)
  refine ⟨⟨fun b hb => Nat.lt_of_lt_of_le (hS.fz b hb) e.size, ?_, ?_, ?_⟩, ⟨e.size, fun _ h => h, hF⟩⟩
  · intro j q hq
    cases j with
    | zero => simp only [List.getElem?_cons_zero, Option.some.injEq] at hq; subst hq; exact hinv
    | succ j =>
      simp only [List.getElem?_cons_succ] at hq
      exact q.loc h h' (hS.inv j q hq) fun b hb => e.old b (q.lt h b (hS.inv j q hq) hb)
  · intro j q hq b hb hF'
    cases j with
    | zero => simp only [List.getElem?_cons_zero, Option.some.injEq] at hq; subst hq; have := QL b hb; have := hS.fz b hF'; omega
    | succ j => simp only [List.getElem?_cons_succ] at hq; exact hS.off j q hq b hb hF'
  · intro i j q r hij hq hr b hb hb'
    cases i with
    | zero =>
      simp only [List.getElem?_cons_zero, Option.some.injEq] at hq; subst hq
      cases j with
      | zero => exact hij rfl
      | succ j => simp only [List.getElem?_cons_succ] at hr; have := QL b hb; have := r.lt h b (hS.inv j r hr) hb'; omega
    | succ i =>
      simp only [List.getElem?_cons_succ] at hq
      cases j with
      | zero => simp only [List.getElem?_cons_zero, Option.some.injEq] at hr; subst hr; have := QL b hb'; have := q.lt h b (hS.inv i q hq) hb; omega
      | succ j => simp only [List.getElem?_cons_succ] at hr; exact hS.apart i j q r (by omega) hq hr b hb hb'
theorem St.bare (hS : St F os h) (o : Ow) (hinv : o.inv h) (QL : ∀ b, ¬ o.foot b) : St F (o :: os) h :=
  (hS.cons o hinv (fun b hb => absurd hb (QL b)) (Ext.refl h)).1
theorem St.tail (hS : St F (o :: os) h) : St F os h :=
  ⟨hS.fz, fun j q hq => hS.inv (j + 1) q (by simpa using hq), fun j q hq => hS.off (j + 1) q (by simpa using hq),
    fun i j q r hij hq hr => hS.apart (i + 1) (j + 1) q r (by omega) (by simpa using hq) (by simpa using hr)⟩
theorem St.freeze (hS : St F (o :: os) h) : St (fun b => F b ∨ o.foot b) os h /\ Kp F h (fun b => F b ∨ o.foot b) h := by
  have ht := hS.tail
  refine ⟨⟨?_, ht.inv, ?_, ht.apart⟩, ⟨Nat.le_refl _, fun _ h => .inl h, fun _ _ => rfl⟩⟩
  · rintro b (hb | hb)
    · exact hS.fz b hb
    · exact o.lt h b (hS.inv 0 o rfl) hb
  · rintro j q hq b hb (hF | hF)
    · exact ht.off j q hq b hb hF
    · exact hS.apart (j + 1) 0 q o (by omega) (by simpa using hq) rfl b hb hF
theorem St.back {F'' : Fz} {os' : List Ow} (hS0 : St F (o :: os) h) (hk : Kp (fun b => F b ∨ o.foot b) h F'' h') (hS : St F'' os' h') :
    St (fun b => F'' b /\ ¬ o.foot b) (o :: os') h' /\ Kp F h (fun b => F'' b /\ ¬ o.foot b) h' := by
  have hoff : ∀ b, o.foot b -> ¬ F b := hS0.off 0 o rfl
  refine ⟨⟨fun b hb => hS.fz b hb.1, ?_, ?_, ?_⟩, ⟨hk.size, fun b hb => ⟨hk.sub b (.inl hb), fun hf => hoff b hf hb⟩, fun b hb => hk.old b (.inl hb)⟩⟩
  · intro j q hq
    cases j with
    | zero => simp only [List.getElem?_cons_zero, Option.some.injEq] at hq; subst hq; exact o.loc h h' (hS0.inv 0 o rfl) fun b hb => hk.old b (.inr hb)
    | succ j => simp only [List.getElem?_cons_succ] at hq; exact hS.inv j q hq
  · intro j q hq b hb hF
    cases j with
    | zero => simp only [List.getElem?_cons_zero, Option.some.injEq] at hq; subst hq; exact hF.2 hb
    | succ j => simp only [List.getElem?_cons_succ] at hq; exact hS.off j q hq b hb hF.1
  · intro i j q r hij hq hr b hb hb'
    cases i with
    | zero =>
      simp only [List.getElem?_cons_zero, Option.some.injEq] at hq; subst hq
      cases j with
      | zero => exact hij rfl
      | succ j => simp only [List.getElem?_cons_succ] at hr; exact hS.off j r hr b hb' (hk.sub b (.inr hb))
    | succ i =>
      simp only [List.getElem?_cons_succ] at hq
      cases j with
      | zero => simp only [List.getElem?_cons_zero, Option.some.injEq] at hr; subst hr; exact hS.off i q hq b hb (hk.sub b (.inr hb'))
      | succ j => simp only [List.getElem?_cons_succ] at hr; exact hS.apart i j q r (by omega) hq hr b hb hb'
theorem St.Ou (hS : St F os h) (n : Nat) (idx : List Nat) (os' : List Ow) (hos : ∀ (j : Nat) (q : Ow), os'[j]? = some q -> (∃ i, idx[j]? = some i /\ i < n /\ os[i]? = some q) ∨ (idx.length <= j /\ os[n + (j - idx.length)]? = some q)) (hnd : idx.Nodup) : St F os' h := by
  have key : ∀ (j : Nat) (q : Ow), os'[j]? = some q -> ∃ i, os[i]? = some q /\ ((j < idx.length /\ idx[j]? = some i /\ i < n) ∨ (idx.length <= j /\ i = n + (j - idx.length))) := by
    intro j q hq
    rcases hos j q hq with ⟨i, h1, h2, h3⟩ | ⟨h1, h2⟩
    · exact ⟨i, h3, .inl ⟨(List.getElem?_eq_some_iff.1 h1).1, h1, h2⟩⟩
    · exact ⟨_, h2, .inr ⟨h1, rfl⟩⟩
  refine ⟨hS.fz, ?_, ?_, ?_⟩
  · intro j q hq; obtain ⟨i, hi, _⟩ := key j q hq; exact hS.inv i q hi
  · intro j q hq; obtain ⟨i, hi, _⟩ := key j q hq; exact hS.off i q hi
  · intro j k q r hjk hq hr
    obtain ⟨a, ha, ha'⟩ := key j q hq
    obtain ⟨c, hc, hc'⟩ := key k r hr
    refine hS.apart a c q r ?_ ha hc
    rintro rfl
    rcases ha' with ⟨a1, a2, a3⟩ | ⟨a1, a2⟩ <;> rcases hc' with ⟨c1, c2, c3⟩ | ⟨c1, c2⟩
    · have e1 := (List.getElem?_eq_some_iff.1 a2).2
      have e2 := (List.getElem?_eq_some_iff.1 c2).2
      exact hjk ((List.getElem_inj hnd).1 (e1.trans e2.symm))
    · omega
    · omega
    · omega
end
def adS (idx : List Nat) (n : Nat) : Bool := idx.all (fun i => Nat.blt i n) && decide idx.Nodup
theorem St.perm {F : Fz} {fr : List Ow} {h : Heap} {front : List Ow} (hS : St F (front ++ fr) h) (idx : List Nat) (n : Nat) (hn : front.length = n) (hB : adS idx n = true) (XE : List Ow) (hf : idx.map (fun i => front[i]?) = XE.map some) : St F (XE ++ fr) h := by
  subst hn
  unfold adS at hB
  simp only [Bool.and_eq_true, List.all_eq_true, decide_eq_true_eq] at hB
  have hlen : idx.length = XE.length := by have := congrArg List.length hf; simpa using this
  refine hS.Ou front.length idx _ ?_ hB.2
  intro j q hq
  rcases Nat.lt_or_ge j XE.length with hj | hj
  · left
    have hj' : j < idx.length := by omega
    rw [List.getElem?_append_left hj] at hq
    refine ⟨idx[j], List.getElem?_eq_getElem hj', by have := hB.1 _ (List.getElem_mem hj'); simpa [Nat.blt_eq] using this, ?_⟩
    have hlt : idx[j] < front.length := by have := hB.1 _ (List.getElem_mem hj'); simpa [Nat.blt_eq] using this
    rw [List.getElem?_append_left hlt]
    have := congrArg (fun l => l[j]?) hf
    simp only [List.getElem?_map, List.getElem?_eq_getElem hj', Option.map_some, hq] at this
    injection this
  · right
    rw [List.getElem?_append_right hj] at hq
    refine ⟨by omega, ?_⟩
    rw [List.getElem?_append_right (by omega), hlen, Nat.add_sub_cancel_left]; exact hq
section kinds
variable {α κ ν : Type}
def Ow.box (b : Nat) (T : TypeId) (c : Array Value) : Ow where
  foot x := x = b
  inv h := dW h b (.cells c T (0, 0))
  lt h x hi hx := by subst hx; exact hi.lt
  loc h h' hi hk := (hk b rfl).trans hi
def Ow.own (E k : Nat) (enc : α -> List Value) (v : Value) (l : List α) : Ow where
  foot x := lC v = some x
  inv h := kL h 0 E k enc v l
  lt h x hi hx := hi.lt hx
  loc h h' hi hk := hi.keep fun b hb => hk b hb
def Ow.map (r : Nat) (ek : κ -> Value) (en : ν -> Value) (m : List (κ × ν)) : Ow where
  foot x := x = r
  inv h := qV h r ek en m
  lt h x hi hx := by subst hx; exact hi.lt
  loc h h' hi hk := let ⟨es, c, hb, he⟩ := hi; ⟨es, c, (hk r rfl).trans hb, he⟩
def Ow.iter [DecidableEq κ] (it r : Nat) (ek : κ -> Value) (en : ν -> Value) (m rem : List (κ × ν)) : Ow where
  foot x := x = it ∨ x = r
  inv h := Cc h it r ek en m rem
  lt h x hi hx := by
    obtain ⟨es, c, s, k⟩ := hi
    rcases hx with rfl | rfl
    · exact k.iter.lt
    · exact k.map.lt
  loc h h' hi hk := let ⟨es, c, s, k⟩ := hi; ⟨es, c, s, (hk r (.inr rfl)).trans k.map, k.TG, (hk it (.inl rfl)).trans k.iter, k.rem⟩
def Ow.cur [DecidableEq κ] (it r : Nat) (ek : κ -> Value) (en : ν -> Value) (m rem : List (κ × ν)) (p : κ × ν) : Ow where
  foot x := x = it ∨ x = r
  inv h := D5 h it r ek en m rem p
  lt h x hi hx := by
    obtain ⟨es, c, s, e, k, _⟩ := hi
    rcases hx with rfl | rfl
    · exact k.iter.lt
    · exact k.map.lt
  loc h h' hi hk := let ⟨es, c, s, e, k, q⟩ := hi; ⟨es, c, s, e, ⟨(hk r (.inr rfl)).trans k.map, k.TG, (hk it (.inl rfl)).trans k.iter, k.rem⟩, q⟩
end kinds
section stays
variable {α κ ν : Type} {F F' : Fz} {h h' : Heap} {k : Nat} {enc : α -> List Value} {v : Value} {l : List α}
structure az (F : Fz) (h : Heap) (k : Nat) (enc : α -> List Value) (v : Value) (l : List α) : Prop where
  is : gY h k enc v l
  fz : l ≠ [] -> ∀ b, lC v = some b -> F b
theorem az.kp (s : az F h k enc v l) (q : Kp F h F' h') : az F' h' k enc v l := by
  obtain ⟨⟨⟨a, cap, hv, h1, h2, h3⟩, h4⟩, hf⟩ := s
  refine ⟨⟨⟨a, cap, hv, h1, h2, ?_⟩, h4⟩, fun hl b hb => q.sub b (hf hl b hb)⟩
  rcases h3 with h3 | ⟨b, off, ha, hb, hr⟩
  · exact .inl h3
  · by_cases hl : l = []
    · exact .inl hl
    · exact .inr ⟨b, off, ha, Nat.lt_of_lt_of_le hb q.size, hr.aeq (q.old b (hf hl b (by rw [hv, ha]; rfl)))⟩
theorem az.nil (F : Fz) (h : Heap) (k : Nat) (enc : α -> List Value) : az F h k enc (.slice none 0 0) ([] : List α) := ⟨gY.nil h k enc, fun h => absurd rfl h⟩
structure agI (F : Fz) (h : Heap) (b : Nat) (o : Obj) : Prop where
  is : dW h b o
  fz : F b
theorem agI.kp {b : Nat} {o : Obj} (s : agI F h b o) (q : Kp F h F' h') : agI F' h' b o := ⟨(q.old b s.fz).trans s.is, q.sub b s.fz⟩
def Q5 (h : Heap) : Fz := fun b => b < h.size
theorem St.init (h : Heap) : St (Q5 h) [] h := ⟨fun _ h => h, by simp, by simp, by simp⟩
theorem az.init (s : gY h k enc v l) : az (Q5 h) h k enc v l := ⟨s, fun hl b hb => s.lt hl hb⟩
theorem Kp.ext (q : Kp (Q5 h) h F' h') : Ext h h' := ⟨q.size, fun b hb => q.old b hb⟩
theorem St.nC {E : Nat} {os : List Ow} (hS : St F (Ow.own E k enc v l :: os) h) : ∃ F', St F' os h /\ Kp F h F' h /\ az F' h k enc v l :=
  ⟨_, hS.freeze.1, hS.freeze.2, (hS.get 0 rfl : kL h 0 E k enc v l).slice, fun _ b hb => .inr hb⟩
theorem St.vN {os : List Ow} (hS : St F os h) (E k : Nat) (enc : α -> List Value) : St F (Ow.own E k enc (.slice none 0 0) ([] : List α) :: os) h :=
  hS.bare _ (kL.nil h 0 E k enc) (fun b hb => by cases hb)
end stays
section ops
variable {P : Program} {f : kT} {h : Heap} {ty : TypeId} {α κ ν : Type} {E k bytes T : Nat} {enc : α -> List Value} {v : Value} {l xs : List α} {F : Fz} {os : List Ow} {i : Nat}
theorem EV.imp {op : Op} {R R' : Value -> Heap -> Prop} (hr : EV P op ty f h R) (H : ∀ v h', R v h' -> R' v h') : EV P op ty f h R' :=
  fun dst pos after guard w hw => let ⟨v, w', h1, h2, h3⟩ := hr dst pos after guard w hw; ⟨v, w', h1, h2, H _ _ h3⟩
theorem ES.imp {op : Op} {R R' : Heap -> Prop} (hr : ES P op ty f h R) (H : ∀ h', R h' -> R' h') : ES P op ty f h R' :=
  fun dst pos after guard w hw => let ⟨w', h1, h2, h3⟩ := hr dst pos after guard w hw; ⟨w', h1, h2, H _ h3⟩
theorem St.grown {h' : Heap} {v' : Value} {l' : List α} (hS : St F os h) (hi : os[i]? = some (Ow.own E k enc v l)) (ho : kL h' 0 E k enc v' l') (g : Grown h h' v v') : St F (os.set i (Ow.own E k enc v' l')) h' /\ Kp F h F h' :=
  hS.turn i hi _ ho (fun b hb => g.now b hb) g.size (fun b hb hne => g.block b hb hne)
theorem jV {x y : Operand} {vx : Value} {ts : Array TypeId} (hT : ML P T E k bytes) (hS : St F os h) (hi : os[i]? = some (Ow.own E k enc v l)) (hX : gY h k enc vx xs)
    (hx : ev f x = v) (hy : ev f y = vx) (ht : ts = #[T, T]) (hone : ∀ a ∈ xs, ∀ u ∈ enc a, u.oneCell' = true)
    (hsz : (l.length + xs.length) * bytes <= 140737488355328) (h63 : l.length + xs.length <= 9223372036854775807) :
    EV P (.call ⟨.builtin .append, #[x, y], ts⟩) ty f h (fun v' h' => St F (os.set i (Ow.own E k enc v' (l ++ xs))) h' /\ Kp F h F h') :=
  EV.imp (Vz hT (hS.get i hi : kL h 0 E k enc v l) hX hx hy ht hone hsz h63 (Nat.zero_le _)) fun v' h' ⟨ho, g⟩ => hS.grown hi ho g
theorem WU {x y : Operand} {vx : Value} {ts : Array TypeId} (hT : ML P T E k bytes) (hS : St F os h) (hX : gY h k enc vx xs)
    (hx : ev f x = .slice none 0 0) (hy : ev f y = vx) (ht : ts = #[T, T]) (hone : ∀ a ∈ xs, ∀ u ∈ enc a, u.oneCell' = true)
    (hsz : xs.length * bytes <= 140737488355328) (h63 : xs.length <= 9223372036854775807) :
    EV P (.call ⟨.builtin .append, #[x, y], ts⟩) ty f h (fun v' h' => St F (Ow.own E k enc v' xs :: os) h' /\ Kp F h F h') :=
  EV.imp (Vz hT (kL.nil h 0 E k enc) hX hx hy ht hone (by simpa using hsz) (by simpa using h63) (Nat.zero_le _)) fun v' h' ⟨ho, g⟩ =>
    (hS.vN E k enc).grown (i := 0) rfl (by simpa using ho) g
theorem jO {E k' : Nat} {x : Operand} {c : Array Value} (hS : St F os h) (hx : (ev f x).cells = c) (hk : c.size = k') :
    EV P (.box E x) ty f h (fun v h' => ∃ b, v = .pointer (some ⟨b, 0, none⟩) /\ St F (Ow.box b E c :: os) h' /\ Kp F h F h') :=
  EV.imp (ae2 hx hk) fun v h' ⟨b, hv, hn⟩ => ⟨b, hv, hS.cons _ hn.blk (fun x hx => by cases hx; exact Nat.le_of_eq hn.at_.symm) hn.ext⟩
theorem kG {E : Nat} {z : Value} {c : Array Value} (hS : St F os h) (hz : Eu P E z) (hc : z.cells = c) :
    EV P (.alloc E) ty f h (fun v h' => ∃ b, v = .pointer (some ⟨b, 0, none⟩) /\ St F (Ow.box b E c :: os) h' /\ Kp F h F h') :=
  EV.imp (XJ hz hc) fun v h' ⟨b, hv, hn⟩ => ⟨b, hv, hS.cons _ hn.blk (fun x hx => by cases hx; exact Nat.le_of_eq hn.at_.symm) hn.ext⟩
theorem rH {len : Nat} {zc : Array Value} {lp : List (Nat × Operand)} {cells : Array Value} (aaT : Array Value) (l : List α) (hS : St F os h) (hT : Ql P T E k zc) (hle : len * k <= 16777216) (hpos : 0 < len * k)
    (hzr : ((Array.range (len * k)).map (zc[· % zc.size]!)) = aaT) (hf : Instr.fill (fun i => some (i * k, k)) aaT (lp.map fun x => (x.1, ev f x.2)) = some cells)
    (hl : l.length = len) (he : ∀ x ∈ l, (enc x).length = k) (hc : cells.toList = l.flatMap enc) :
    EV P (.buildSlice T len lp.toArray) ty f h (fun v h' => ∃ b, v = .slice (some ⟨b, 0, none⟩) len len /\ St F (Ow.own E k enc (.slice (some ⟨b, 0, none⟩) len len) l :: os) h' /\ Kp F h F h') := by
  subst hl
  refine EV.imp (ae1 aaT hT hle hpos hzr hf) fun v h' ⟨b, hv, hn⟩ => ⟨b, hv, hS.cons _ ?_ ?_ hn.ext⟩
  · have hk : 0 < k := Nat.pos_of_ne_zero (by rintro rfl; simp at hpos)
    have : l.length <= l.length * k := Nat.le_mul_of_pos_right _ hk
    exact kL.lit hn.blk (Nat.zero_le _) (by unfold maxLen; omega) he hc
  · intro x hx; have : b = x := Option.some.inj hx
    exact Nat.le_of_eq (this ▸ hn.at_.symm)
theorem sH {zc : Array Value} (enc : α -> List Value) (hS : St F os h) (hT : Ql P T E k zc) :
    EV P (.buildSlice T 0 #[]) ty f h (fun v h' => ∃ b, v = .slice (some ⟨b, 0, none⟩) 0 0 /\ St F (Ow.own E k enc (.slice (some ⟨b, 0, none⟩) 0 0) ([] : List α) :: os) h' /\ Kp F h F h') := by
  refine EV.imp (ZM hT) fun v h' ⟨b, hv, hn⟩ => ⟨b, hv, hS.cons _ ?_ ?_ hn.ext⟩
  · exact kL.lit (l := ([] : List α)) hn.blk (Nat.zero_le _) (by simp [maxLen]) (by simp) rfl
  · intro x hx; have : b = x := Option.some.inj hx
    exact Nat.le_of_eq (this ▸ hn.at_.symm)
theorem nY {T' : TypeId} {x y : Operand} {b o : Nat} {c : Array Value} {u : Value} {c' : Array Value} (hS : St F os h) (hi : os[i]? = some (Ow.box b E c)) (hT : Ji P T')
    (hx : ev f x = .pointer (some ⟨b, o, none⟩)) (hy : ev f y = u) (hv : u.cells = #[u]) (h1 : u.oneCell' = true) (ho : o < c.size) (hc : c.setIfInBounds o u = c') :
    ES P (.store T' x y) ty f h (fun h' => St F (os.set i (Ow.box b E c')) h' /\ Kp F h F h') :=
  ES.imp (Xb hT (hS.get i hi : dW h b (.cells c E (0, 0))) hx hy hv h1 ho hc) fun h' hu => hS.turn i hi _ hu.get (fun b hb => .inl hb) (Nat.le_of_eq hu.size.symm) (fun b hb hne => hu.keep hne)
theorem ed {T' k' : TypeId} {x y : Operand} {b o : Nat} {c vs c' : Array Value} (hS : St F os h) (hi : os[i]? = some (Ow.box b E c)) (hT : KF P T' k')
    (hx : ev f x = .pointer (some ⟨b, o, none⟩)) (hy : ev f y = .agg vs) (hk : vs.size = k') (h1 : ∀ v ∈ vs.toList, v.oneCell' = true) (hle : o + vs.size <= c.size) (hc : (c.toList.take o ++ vs.toList ++ c.toList.drop (o + vs.size)).toArray = c') :
    ES P (.store T' x y) ty f h (fun h' => St F (os.set i (Ow.box b E c')) h' /\ Kp F h F h') :=
  ES.imp (MV hT (hS.get i hi : dW h b (.cells c E (0, 0))) hx hy hk h1 hle hc) fun h' hu => hS.turn i hi _ hu.get (fun b hb => .inl hb) (Nat.le_of_eq hu.size.symm) (fun b hb hne => hu.keep hne)
theorem PI {T' : TypeId} {x y : Operand} {u : Value} {a : α} {n j : Nat} (hS : St F os h) (hi : os[i]? = some (Ow.own E k enc v l)) (hT : Ji P T') (hx : ev f x = nD k v n j) (hn : n < l.length) (hj : j < k)
    (hy : ev f y = u) (ha : enc a = (enc l[n]).set j u) (hc : u.cells = #[u]) (h1 : u.oneCell' = true) :
    ES P (.store T' x y) ty f h (fun h' => St F (os.set i (Ow.own E k enc v (l.set n a))) h' /\ Kp F h F h') :=
  ES.imp (Xa hT (hS.get i hi : kL h 0 E k enc v l) hx hn hj hy ha hc h1) fun h' ⟨ho, g⟩ => hS.grown hi ho g
section maps
variable [DecidableEq κ] {ek : κ -> Value} {en : ν -> Value} {m rem : List (κ × ν)} {r it : Nat}
theorem Zk {T : Nat} (ek : κ -> Value) (en : ν -> Value) (hS : St F os h) : EV P (.makeMap T none) ty f h (fun v h' => ∃ r, v = .map (some r) /\ St F (Ow.map r ek en ([] : List (κ × ν)) :: os) h' /\ Kp F h F h') :=
  EV.imp abj fun v h' ⟨r, hv, hn⟩ => ⟨r, hv, hS.cons _ (qV.empty hn) (fun x hx => by cases hx; exact Nat.le_of_eq hn.at_.symm) hn.ext⟩
end maps
end ops
end Go.Wk
namespace Go.Wk
open Go.HL
variable [DM]
section
variable {F : Fz} {os : List Ow} {h : Heap} {α κ ν : Type} {E k : Nat} {enc : α -> List Value} {v : Value} {l : List α}
theorem St.own (hS : St F os h) (i : Nat) (hi : os[i]? = some (Ow.own E k enc v l)) : kL h 0 E k enc v l := hS.inv i _ hi
theorem St.sl (hS : St F os h) (i : Nat) (hi : os[i]? = some (Ow.own E k enc v l)) : gY h k enc v l := (hS.own i hi).slice
theorem St.box {b T : Nat} {c : Array Value} (hS : St F os h) (i : Nat) (hi : os[i]? = some (Ow.box b T c)) : dW h b (.cells c T (0, 0)) := hS.inv i _ hi
theorem St.mp {r : Nat} {ek : κ -> Value} {en : ν -> Value} {m : List (κ × ν)} (hS : St F os h) (i : Nat) (hi : os[i]? = some (Ow.map r ek en m)) : qV h r ek en m := hS.inv i _ hi
theorem St.it [DecidableEq κ] {it r : Nat} {ek : κ -> Value} {en : ν -> Value} {m rem : List (κ × ν)} (hS : St F os h) (i : Nat) (hi : os[i]? = some (Ow.iter it r ek en m rem)) : Cc h it r ek en m rem := hS.inv i _ hi
end
end Go.Wk
