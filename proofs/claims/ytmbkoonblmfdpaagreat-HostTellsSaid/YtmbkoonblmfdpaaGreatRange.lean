/- Going through a map: one entry after the other, in whatever order, none twice. -/
import Derived.Test.YtmbkoonblmfdpaaGreatMaps
set_option linter.unusedSimpArgs false
set_option linter.unusedVariables false
set_option linter.unusedSectionVars false
namespace Go.HL
variable [DM]
section
variable {κ ν : Type} [DecidableEq κ] {ek : κ -> Value} {en : ν -> Value}
def leftOf (es : Array MapEntry) (m : List (κ × ν)) (seen : Array Nat) : List (MapEntry × (κ × ν)) :=
  (es.toList.zip m).filter fun x => !seen.contains x.1.born
structure Ij (h : Heap) (it r : Nat) (ek : κ -> Value) (en : ν -> Value) (m rem : List (κ × ν)) (es : Array MapEntry) (clock : Nat) (seen : Array Nat) : Prop where
  map : dW h r (.map es clock)
  TG : OZ ek en es clock m
  iter : dW h it (.mapIter (some r) clock seen clock)
  rem : (leftOf es m seen).map (·.2) = rem
def Cc (h : Heap) (it r : Nat) (ek : κ -> Value) (en : ν -> Value) (m rem : List (κ × ν)) : Prop := ∃ es clock seen, Ij h it r ek en m rem es clock seen
def D5 (h : Heap) (it r : Nat) (ek : κ -> Value) (en : ν -> Value) (m rem : List (κ × ν)) (p : κ × ν) : Prop :=
  ∃ es clock seen e, Ij h it r ek en m rem es clock seen /\ seen.back? = some e /\ ∃ x, es.find? (·.born == e) = some x /\ x.key = ek p.1 /\ x.val = en p.2
theorem Ij.ext {h h' : Heap} {it r : Nat} {m rem : List (κ × ν)} {es : Array MapEntry} {clock : Nat} {seen : Array Nat} (i : Ij h it r ek en m rem es clock seen) (e : Ext h h') :
    Ij h' it r ek en m rem es clock seen := ⟨i.map.ext e, i.TG, i.iter.ext e, i.rem⟩
theorem Cc.ext {h h' : Heap} {it r : Nat} {m rem : List (κ × ν)} (i : Cc h it r ek en m rem) (e : Ext h h') : Cc h' it r ek en m rem :=
  let ⟨es, c, s, k⟩ := i; ⟨es, c, s, k.ext e⟩
theorem D5.ext {h h' : Heap} {it r : Nat} {m rem : List (κ × ν)} {p : κ × ν} (i : D5 h it r ek en m rem p) (e : Ext h h') : D5 h' it r ek en m rem p :=
  let ⟨es, c, s, x, k, h1, h2⟩ := i; ⟨es, c, s, x, k.ext e, h1, h2⟩
theorem D5.is {h : Heap} {it r : Nat} {m rem : List (κ × ν)} {p : κ × ν} (i : D5 h it r ek en m rem p) : Cc h it r ek en m rem :=
  let ⟨es, c, s, _, k, _⟩ := i; ⟨es, c, s, k⟩
theorem Cc.aan {h : Heap} {it r : Nat} {m rem : List (κ × ν)} (i : Cc h it r ek en m rem) : qV h r ek en m :=
  let ⟨es, c, _, k⟩ := i; ⟨es, c, k.map, k.TG⟩
theorem Ij.upd {h h' : Heap} {it r b : Nat} {o : Obj} {m rem : List (κ × ν)} {es : Array MapEntry} {clock : Nat} {seen : Array Nat} (i : Ij h it r ek en m rem es clock seen) (u : N9 h b o h') (h1 : r ≠ b) (h2 : it ≠ b) :
    Ij h' it r ek en m rem es clock seen := ⟨i.map.upd u h1, i.TG, i.iter.upd u h2, i.rem⟩
theorem Cc.upd {h h' : Heap} {it r b : Nat} {o : Obj} {m rem : List (κ × ν)} (i : Cc h it r ek en m rem) (u : N9 h b o h') (h1 : r ≠ b) (h2 : it ≠ b) : Cc h' it r ek en m rem :=
  let ⟨es, c, s, k⟩ := i; ⟨es, c, s, k.upd u h1 h2⟩
theorem abv {es : Array MapEntry} {clock : Nat} {m : List (κ × ν)} (he : OZ ek en es clock m) : ∀ x ∈ es.toList.zip m, x.1 ∈ es.toList /\ x.1.key = ek x.2.1 /\ x.1.val = en x.2.2 := by
  have key : ∀ (l : List MapEntry) (m : List (κ × ν)), l.map (fun e => (e.key, e.val)) = m.map (fun p => (ek p.1, en p.2)) -> ∀ x ∈ l.zip m, x.1 ∈ l /\ x.1.key = ek x.2.1 /\ x.1.val = en x.2.2 := by
    intro l
    induction l with
    | nil => intro m _ x hx; simp at hx
    | cons e l ih =>
      intro m hm x hx
      match m, hm with
      | p :: r, hm =>
        simp only [List.map_cons, List.cons.injEq, Prod.mk.injEq] at hm
        rw [List.zip_cons_cons, List.mem_cons] at hx
        rcases hx with rfl | hx
        · exact ⟨by simp, hm.1.1, hm.1.2⟩
        · obtain ⟨h1, h2⟩ := ih r hm.2 x hx; exact ⟨List.mem_cons_of_mem _ h1, h2⟩
  exact key _ _ he.is
theorem adH {es : Array MapEntry} {clock : Nat} {m : List (κ × ν)} (he : OZ ek en es clock m) : (es.toList.zip m).map (·.2) = m :=
  List.map_snd_zip (by have := congrArg List.length he.is; simp at this; simp; omega)
variable {P : Program} {f : kT} {h : Heap} {ty : TypeId}
theorem ZL {T K E r : Nat} {x : Operand} {m : List (κ × ν)} (hT : P.underlying T = some (.map K E)) (hM : qV h r ek en m) (hx : ev f x = .map (some r)) :
    EV P (.range T x) ty f h (fun v h' => ∃ it o, v = .pointer (some ⟨it, 0, none⟩) /\ New h o it h' /\ Cc h' it r ek en m m) := by
  obtain ⟨es, clock, hb, he⟩ := hM
  intro dst pos after guard w hw
  subst hw
  have hnc : ∀ c t f, Obj.map es clock ≠ .cells c t f := fun _ _ _ e => by cases e
  have hn : New w.heap (.mapIter (some r) clock #[] clock) w.heap.size (w.heap.push (.mapIter (some r) clock #[] clock)) := ⟨rfl, rfl⟩
  refine ⟨.pointer (some ⟨w.heap.size, 0, none⟩), w.alloc (.mapIter (some r) clock #[] clock), ?_, ⟨rfl, rfl, rfl, fun _ => Nat.le_refl _⟩, w.heap.size, _, rfl, hn, es, clock, #[], hb.ext hn.ext, he, hn.blk, ?_⟩
  · simp only [execOp, hx, Instr.range, Sem.run_bind, run_underlying hT, Result.andThen_ok, uw hb hnc]
    simp [newObj, pure, Sem.run]
  · have h0 : leftOf es m #[] = es.toList.zip m := by unfold leftOf; rw [List.filter_eq_self]; intro a _; simp
    rw [h0]; exact adH he
theorem filter_push {α : Type} (g : α -> Nat) : ∀ (l : List α) (s : Array Nat) (b : Nat), (l.filter fun x => !(s.push b).contains (g x)) = (l.filter fun x => !s.contains (g x)).filter fun x => !(g x == b)
  | l, s, b => by
    rw [List.filter_filter]; congr 1; funext x; rw [Bool.eq_iff_iff]; simp [and_comm]
theorem Wp {α : Type} (g : α -> Nat) : ∀ (l : List α), (l.map g).Nodup -> ∀ x ∈ l, l.Perm (x :: l.filter fun y => !(g y == g x))
  | [], _, x, hx => by simp at hx
  | a :: l, hn, x, hx => by
    simp only [List.map_cons, List.nodup_cons] at hn
    rw [List.filter_cons]
    rcases List.mem_cons.1 hx with rfl | hx'
    · simp only [BEq.rfl, Bool.not_true, Bool.false_eq_true, if_false]
      rw [List.filter_eq_self.2]
      intro y hy; simp; intro e; exact hn.1 (e ▸ List.mem_map.2 ⟨y, hy, rfl⟩)
    · have hne : g a ≠ g x := fun e => hn.1 (e ▸ List.mem_map.2 ⟨x, hx', rfl⟩)
      simp only [beq_iff_eq, hne, Bool.not_eq_true', beq_eq_false_iff_ne, ne_eq, not_false_eq_true, if_true]
      exact ((Wp g l hn.2 x hx').cons a).trans (List.Perm.swap _ _ _)
theorem Vq {α β : Type} (p : α -> Bool) : ∀ (l : List α) (m : List β), l.length <= m.length -> ((l.zip m).filter fun x => p x.1).map (·.1) = l.filter p
  | [], m, _ => by simp
  | a :: l, b :: m, hl => by
    have ih := Vq p l m (by simpa using hl)
    simp only [List.zip_cons_cons, List.filter_cons]
    split <;> simp [ih]
theorem agf {it r : Nat} {x : Operand} {m rem : List (κ × ν)} (hI : Cc h it r ek en m rem) (hx : ev f x = .pointer (some ⟨it, 0, none⟩)) :
    EV P (.next x false) ty f h (fun v h' => (rem = [] /\ v = .tuple #[.bool false] /\ h' = h) ∨
      (∃ p adU, rem.Perm (p :: adU) /\ v = .tuple #[.bool true, ek p.1, en p.2] /\ ∃ o, N9 h it o h' /\ D5 h' it r ek en m adU p)) := by
  obtain ⟨es, clock, seen, hmap, he, hit, acs⟩ := hI
  intro dst pos after guard w hw
  subst hw
  have hnc : ∀ c t f, Obj.map es clock ≠ .cells c t f := fun _ _ _ e => by cases e
  have hnc' : ∀ c t f, Obj.mapIter (some r) clock seen clock ≠ .cells c t f := fun _ _ _ e => by cases e
  have hlen : es.toList.length <= m.length := by have := congrArg List.length he.is; simp at this; simp; omega
  have hleft : (es.filter fun e => !seen.contains e.born).toList = (leftOf es m seen).map (·.1) := by
    rw [Array.toList_filter]; exact (Vq (fun e => !seen.contains e.born) es.toList m hlen).symm
  have hold : ((es.filter fun e => !seen.contains e.born).filter fun e : MapEntry => decide (e.born < clock)) = es.filter fun e => !seen.contains e.born := by
    rw [Array.filter_eq_self]; intro e h; have := he.born e (by simpa using (Array.mem_filter.1 h).1); simpa using this
  have hnew : ((es.filter fun e => !seen.contains e.born).filter fun e : MapEntry => decide (e.born ≥ clock)) = #[] := by
    rw [Array.filter_eq_empty_iff]; intro e h; have := he.born e (by simpa using (Array.mem_filter.1 h).1); simp; omega
  have hall : (!seen.isEmpty && !es.isEmpty && es.all fun e : MapEntry => decide (e.born ≥ clock)) = false := by
    rcases Bool.eq_false_or_eq_true es.isEmpty with h | h
    · simp [h]
    · have h0 : 0 < es.size := by rw [Array.isEmpty_eq_false_iff] at h; exact Array.size_pos_iff.2 h
      have := he.born es[0] (by simp)
      have : (es.all fun e : MapEntry => decide (e.born ≥ clock)) = false := by
        rw [← Bool.not_eq_true, Array.all_eq_true]; intro hh; have := hh 0 h0; simp at this; omega
      simp [this]
  generalize hL : (es.filter fun e => !seen.contains e.born) = L at *
  have hmap' : (getObj r).run P w = .ok (.map es clock) w := uw hmap hnc
  have ahq : (getObj it).run P w = .ok (.mapIter (some r) clock seen clock) w := uw hit hnc'
  by_cases hem : L = #[]
  · -- nothing is left
    have ahp : rem = [] := by
      rw [← acs]; rw [hem] at hleft; simpa using hleft.symm
    refine ⟨.tuple #[.bool false], w, ?_, Kept.refl w, .inl ⟨ahp, rfl, rfl⟩⟩
    simp only [execOp, hx, Instr.next, Sem.run_bind, ahq, Result.andThen_ok, hmap', hall, Bool.false_eq_true, if_false, hL, hold, hnew, hem]
    simp [choose, Sem.run, Question.forced, pure]
  · have hsz : 0 < L.size := Array.size_pos_iff.2 hem
    have ahs : ((if L.isEmpty then #[none] else #[]) ++ (L ++ (#[] : Array MapEntry)).map some) = L.map some := by
      rw [if_neg (by simpa using hem)]; simp
    obtain ⟨j, hj, w1, hw1, hk1, hch⟩ : ∃ j, j < L.size /\ ∃ w1 : World, w1.heap = w.heap /\ Kept w w1 /\ (choose (.mapNext (L.map some).size)).run P w = .ok j w1 := by
      by_cases h1 : L.size <= 1
      · exact ⟨0, hsz, w, rfl, Kept.refl w, by simp [choose, Sem.run, Question.forced, h1]⟩
      · exact ⟨w.tape w.drawn (.mapNext L.size) % L.size, Nat.mod_lt _ hsz, w.drew, rfl, ⟨rfl, rfl, rfl, fun _ => Nat.le_succ _⟩, by simp [choose, Sem.run, Question.forced, Question.cut, h1]⟩
    have hLl : L[j] ∈ (leftOf es m seen).map (·.1) := by rw [← hleft]; simp
    obtain ⟨x, hxm, hxe⟩ := List.mem_map.1 hLl
    have hxz := abv he x (List.mem_filter.1 hxm).1
    have afz : ((leftOf es m seen).map fun x => x.1.born).Nodup := by
      have : ((leftOf es m seen).map fun x => x.1.born) = ((leftOf es m seen).map (·.1)).map (·.born) := by simp
      rw [this]
      refine List.Nodup.sublist (List.Sublist.map _ ?_) he.apart
      rw [← hleft, ← hL, Array.toList_filter]; exact List.filter_sublist
    have hperm := Wp (fun x : MapEntry × (κ × ν) => x.1.born) _ afz x hxm
    have aiU : dW w1.heap it (.mapIter (some r) clock seen clock) := by rw [hw1]; exact hit
    have hu : N9 w.heap it (.mapIter (some r) clock (seen.push L[j].born) clock) (w.heap.setIfInBounds it (.mapIter (some r) clock (seen.push L[j].born) clock)) := ⟨hit.lt, rfl⟩
    have hir : it ≠ r := by rintro rfl; have := hit.symm.trans hmap; cases this
    refine ⟨.tuple #[.bool true, L[j].key, L[j].val], { w1 with heap := w1.heap.setIfInBounds it (.mapIter (some r) clock (seen.push L[j].born) clock) }, ?_, ⟨hk1.os, hk1.tape, hk1.output, hk1.drawn⟩, .inr ⟨x.2, (leftOf es m (seen.push L[j].born)).map (·.2), ?_, ?_, _, (by rw [hw1]; exact hu), es, clock, seen.push L[j].born, L[j].born, ⟨?_, he, ?_, rfl⟩, by simp, L[j], ?_, ?_, ?_⟩⟩
    · simp only [execOp, hx, Instr.next, Sem.run_bind, ahq, Result.andThen_ok, hmap', hall, Bool.false_eq_true, if_false, hL, hold, hnew, ahs, hch]
      simp [hj, Az aiU hnc', Sem.run, pure]
    · rw [← acs]
      have := hperm.map (·.2)
      rw [List.map_cons] at this
      refine this.trans (List.Perm.of_eq ?_)
      unfold leftOf; rw [filter_push (fun x : MapEntry × (κ × ν) => x.1.born), ← hxe]
    · rw [← hxz.2.1, ← hxz.2.2, hxe]
    · rw [hw1]; exact hmap.upd hu (Ne.symm hir)
    · rw [hw1]; exact hu.blk rfl
    · have hmem : L[j] ∈ es.toList := hxe ▸ hxz.1
      have : ∀ (l : List MapEntry), (l.map (·.born)).Nodup -> ∀ e ∈ l, l.find? (·.born == e.born) = some e := by
        intro l
        induction l with
        | nil => intro _ e h; simp at h
        | cons a l ih =>
          intro hn e h
          simp only [List.map_cons, List.nodup_cons] at hn
          rw [List.find?_cons]
          rcases List.mem_cons.1 h with rfl | h
          · simp
          · have : a.born ≠ e.born := fun e' => hn.1 (e' ▸ List.mem_map.2 ⟨e, h, rfl⟩)
            have hb : (a.born == e.born) = false := by simpa using this
            rw [hb]; exact ih hn.2 e h
      rw [← Array.find?_toList]; exact this _ he.apart _ hmem
    · rw [← hxe]; exact hxz.2.1
    · rw [← hxe]; exact hxz.2.2
theorem adX {it r : Nat} {x : Operand} {m rem : List (κ × ν)} {p : κ × ν} (hI : D5 h it r ek en m rem p) (hx : ev f x = .pointer (some ⟨it, 0, none⟩)) :
    QV P (.entry x) ty f h (.tuple #[ek p.1, en p.2]) := by
  obtain ⟨es, clock, seen, e, ⟨hmap, he, hit, acs⟩, hback, y, hy, hk, hv⟩ := hI
  intro dst pos after guard w hw
  subst hw
  have hnc : ∀ c t f, Obj.map es clock ≠ .cells c t f := fun _ _ _ e => by cases e
  have hnc' : ∀ c t f, Obj.mapIter (some r) clock seen clock ≠ .cells c t f := fun _ _ _ e => by cases e
  simp only [execOp, hx, Instr.entry, Sem.run_bind, uw hit hnc', Result.andThen_ok, hback, uw hmap hnc]
  simp [hy, hk, hv, pure, Sem.run]
end
end Go.HL
