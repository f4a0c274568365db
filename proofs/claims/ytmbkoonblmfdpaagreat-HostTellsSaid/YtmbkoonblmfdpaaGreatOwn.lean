/- Slices that a call made itself: made, appended to, written into. -/
import Derived.Test.YtmbkoonblmfdpaaGreatRange
set_option linter.unusedSimpArgs false
set_option linter.unusedVariables false
set_option linter.unusedSectionVars false
namespace Go.HL
variable [DM]
def ajr (h : Heap) (base : Nat) (E : TypeId) (k : Nat) (v : Value) (n : Nat) (xs : List Value) : Prop :=
  xs.length = n * k /\
  ((v = .slice none 0 0 /\ n = 0) ∨
   ∃ g cap cur, v = .slice (some ⟨g, 0, none⟩) n cap /\ base <= g /\ h[g]? = some (.cells cur E (0, 0)) /\ n <= cap /\ cap <= maxLen /\ cur.size = cap * k /\ cur.toList.take (n * k) = xs)
structure Grown (h h' : Heap) (v v' : Value) : Prop where
  size : h.size <= h'.size
  block : ∀ b, b < h.size -> lC v ≠ some b -> h'[b]? = h[b]?
  now : ∀ b, lC v' = some b -> lC v = some b ∨ h.size <= b
structure kL {α : Type} (h : Heap) (base : Nat) (E k : Nat) (enc : α -> List Value) (v : Value) (l : List α) : Prop where
  row : ajr h base E k v l.length (l.flatMap enc)
  yx : ∀ x ∈ l, (enc x).length = k
section
variable {α : Type} {h h' : Heap} {base E k : Nat} {enc : α -> List Value} {v v' : Value} {l : List α}
theorem flat_get (enc : α -> List Value) (k : Nat) : ∀ (l : List α), (∀ x ∈ l, (enc x).length = k) -> ∀ i (hi : i < l.length) j, j < k -> (l.flatMap enc)[i * k + j]? = (enc l[i])[j]?
  | [], _, i, hi, _, _ => by simp at hi
  | a :: l, he, 0, hi, j, hj => by
    rw [List.flatMap_cons, Nat.zero_mul, Nat.zero_add, List.getElem?_append_left (by rw [he a (by simp)]; exact hj)]; rfl
  | a :: l, he, i + 1, hi, j, hj => by
    have ha := he a (by simp)
    rw [List.flatMap_cons, List.getElem?_append_right (by rw [ha, Nat.succ_mul]; omega), ha,
      show (i + 1) * k + j - k = i * k + j from by rw [Nat.succ_mul]; omega]
    exact flat_get enc k l (fun x hx => he x (by simp [hx])) i (by simpa using hi) j hj
theorem x9 (enc : α -> List Value) (k : Nat) : ∀ (l : List α), (∀ x ∈ l, (enc x).length = k) -> (l.flatMap enc).length = l.length * k
  | [], _ => by simp
  | a :: l, he => by
    rw [List.flatMap_cons, List.length_append, he a (by simp), x9 enc k l (fun x hx => he x (by simp [hx])), List.length_cons, Nat.succ_mul]; omega
theorem kL.nil (h : Heap) (base E k : Nat) (enc : α -> List Value) : kL h base E k enc (.slice none 0 0) ([] : List α) :=
  ⟨⟨by simp, .inl ⟨rfl, rfl⟩⟩, by simp⟩
theorem kL.ge (o : kL h base E k enc v l) {b : Nat} (hb : lC v = some b) : base <= b := by
  rcases o.row.2 with ⟨rfl, _⟩ | ⟨g, cap, cur, rfl, hg, _⟩
  · cases hb
  · simp only [lC, Option.some.injEq] at hb; omega
theorem kL.lt (o : kL h base E k enc v l) {b : Nat} (hb : lC v = some b) : b < h.size := by
  rcases o.row.2 with ⟨rfl, _⟩ | ⟨g, cap, cur, rfl, _, hc, _⟩
  · cases hb
  · simp only [lC, Option.some.injEq] at hb; subst hb; exact yK hc
theorem kL.acg (o : kL h base E k enc v l) {b : Nat} (hb : b < base) : lC v ≠ some b := fun e => by have := o.ge e; omega
theorem kL.mono (o : kL h base E k enc v l) {base' : Nat} (hb : base' <= base) : kL h base' E k enc v l := by
  refine ⟨⟨o.row.1, ?_⟩, o.yx⟩
  rcases o.row.2 with h1 | ⟨g, cap, cur, h1, h2, h3⟩
  · exact .inl h1
  · exact .inr ⟨g, cap, cur, h1, by omega, h3⟩
theorem kL.keep (o : kL h base E k enc v l) (hk : ∀ b, lC v = some b -> h'[b]? = h[b]?) : kL h' base E k enc v l := by
  refine ⟨⟨o.row.1, ?_⟩, o.yx⟩
  rcases o.row.2 with h1 | ⟨g, cap, cur, h1, h2, h3, h4⟩
  · exact .inl h1
  · exact .inr ⟨g, cap, cur, h1, h2, by rw [hk g (by rw [h1]; rfl)]; exact h3, h4⟩
theorem kL.ext (o : kL h base E k enc v l) (e : Ext h h') : kL h' base E k enc v l := o.keep fun _ hb => e.old _ (o.lt hb)
theorem kL.upd {c : Nat} {x : Obj} (o : kL h base E k enc v l) (u : N9 h c x h') (hne : lC v ≠ some c) : kL h' base E k enc v l :=
  o.keep fun b hb => u.keep (by rintro rfl; exact hne hb)
theorem kL.grown {w w' : Value} (o : kL h base E k enc v l) (g : Grown h h' w w') (hne : ∀ b, lC v = some b -> lC w ≠ some b) : kL h' base E k enc v l :=
  o.keep fun b hb => g.block b (o.lt hb) (hne b hb)
theorem Grown.apart {u : Value} (g : Grown h h' v v') (hu : ∀ b, lC u = some b -> b < h.size) (hne : ∀ b, lC u = some b -> lC v ≠ some b) : ∀ b, lC u = some b -> lC v' ≠ some b := by
  intro b hb e
  rcases g.now b e with h1 | h1
  · exact hne b hb h1
  · have := hu b hb; omega
theorem dW.grown {b : Nat} {o : Obj} (hb : dW h b o) (g : Grown h h' v v') (hne : lC v ≠ some b) : dW h' b o := (g.block b hb.lt hne).trans hb
theorem gY.grown {β : Type} {k' : Nat} {enc' : β -> List Value} {w : Value} {m : List β} (s : gY h k' enc' w m) (g : Grown h h' v v') (hne : ∀ b, lC w = some b -> lC v ≠ some b) : gY h' k' enc' w m := by
  obtain ⟨⟨a, cap, hv, h1, h2, h3⟩, h4⟩ := s
  refine ⟨⟨a, cap, hv, h1, h2, ?_⟩, h4⟩
  rcases h3 with h3 | ⟨b, off, ha, hb, hr⟩
  · exact .inl h3
  · exact .inr ⟨b, off, ha, Nat.lt_of_lt_of_le hb g.size, hr.aeq (g.block b hb (hne b (by rw [hv, ha]; rfl)))⟩
theorem Ext.grown {h₀ : Heap} (e : Ext h₀ h) (g : Grown h h' v v') (o : kL h base E k enc v l) (hB : h₀.size <= base) : Ext h₀ h' :=
  ⟨Nat.le_trans e.size g.size, fun b hb => (g.block b (Nat.lt_of_lt_of_le hb e.size) (o.acg (by omega))).trans (e.old b hb)⟩
theorem Ext.upd {h₀ : Heap} {c : Nat} {x : Obj} (e : Ext h₀ h) (u : N9 h c x h') (hc : h₀.size <= c) : Ext h₀ h' :=
  ⟨by rw [u.size]; exact e.size, fun b hb => (u.keep (by omega)).trans (e.old b hb)⟩
theorem gY.lt (s : gY h k enc v l) (hl : l ≠ []) {b : Nat} (hb : lC v = some b) : b < h.size := by
  obtain ⟨⟨a, cap, hv, h1, h2, h3⟩, h4⟩ := s
  rcases h3 with h3 | ⟨b', off, ha, hb', hr⟩
  · exact absurd h3 hl
  · rw [hv, ha] at hb; simp only [lC, Option.some.injEq] at hb; omega
theorem kL.slice (o : kL h base E k enc v l) : gY h k enc v l := by
  refine ⟨?_, o.yx⟩
  rcases o.row.2 with ⟨h1, h2⟩ | ⟨g, cap, cur, h1, h2, h3, h4, h5, h6, h7⟩
  · exact ⟨none, 0, by rw [h1, h2], by omega, by omega, .inl (List.length_eq_zero_iff.1 h2)⟩
  · refine ⟨some ⟨g, 0, none⟩, cap, h1, h4, by simpa [maxLen] using h5, .inr ⟨g, 0, rfl, yK h3, ?_⟩⟩
    intro i hi j hj
    rw [QM h3, Nat.zero_add]
    have hk := o.yx _ (List.getElem_mem hi)
    have hg := flat_get enc k l o.yx i hi j (by rw [← hk]; exact hj)
    rw [List.getElem?_eq_getElem hj] at hg
    rw [← h7] at hg
    rw [List.getElem?_take] at hg
    split at hg
    · rw [← Array.getElem?_toList]; exact hg
    · cases hg
theorem kL.lit {c : Array Value} {b : Nat} (hb : dW h b (.cells c E (0, 0))) (hbase : base <= b) (hl : l.length <= maxLen) (he : ∀ x ∈ l, (enc x).length = k) (hc : c.toList = l.flatMap enc) :
    kL h base E k enc (.slice (some ⟨b, 0, none⟩) l.length l.length) l := by
  have hs : c.size = l.length * k := by have := congrArg List.length hc; rw [x9 enc k l he] at this; simpa using this
  exact ⟨⟨x9 enc k l he, .inr ⟨b, l.length, c, rfl, hbase, hb, Nat.le_refl _, hl, hs, by rw [← hc]; exact List.take_of_length_le (by simp [hs])⟩⟩, he⟩
end
structure ML (P : Program) (T E k bytes : Nat) : Prop where
  und : P.underlying T = some (.slice E)
  info : ∃ i z, P.info? E = some i /\ i.zero = some z /\ i.size = k /\ i.bytes = bytes /\ z.cells.size = k
  pos : 0 < k
section
variable {P : Program} {f : kT} {h : Heap} {ty : TypeId} {α : Type} {base E k bytes T : Nat} {enc : α -> List Value} {v : Value} {l xs : List α}
theorem Vz {x y : Operand} {vx : Value} {ts : Array TypeId} (hT : ML P T E k bytes) (hown : kL h base E k enc v l) (hS : gY h k enc vx xs)
    (hx : ev f x = v) (hy : ev f y = vx) (ht : ts = #[T, T]) (hone : ∀ a ∈ xs, ∀ u ∈ enc a, u.oneCell' = true)
    (hsz : (l.length + xs.length) * bytes <= 140737488355328) (h63 : l.length + xs.length <= 9223372036854775807) (hbase : base <= h.size) :
    EV P (.call ⟨.builtin .append, #[x, y], ts⟩) ty f h (fun v' h' => kL h' base E k enc v' (l ++ xs) /\ Grown h h' v v') := by
  intro dst pos after guard w hw
  subst hw; subst ht
  obtain ⟨i, z, hi, hz, hik, hib, hzk⟩ := hT.info
  have hargs : (#[x, y].map (ev f)) = #[v, vx] := by simp [hx, hy]
  have hrun : ∀ {r : Value} {w' : World}, (Builtin.append_ #[T, T] ty #[v, vx]).run P w = .ok r w' ->
      (execOp (ev f) (Oper.mk dst (.call ⟨.builtin .append, #[x, y], #[T, T]⟩) ty pos after guard)).run P w = .ok (.value r) w' := by
    intro r w' hr
    simp only [execOp, resolve, invoke, builtin, hargs, Sem.run_bind, pure, Sem.run, Result.andThen_ok, hr]
  have henc : ∀ a ∈ l ++ xs, (enc a).length = k := by
    intro a ha; rcases List.mem_append.1 ha with h | h
    · exact hown.yx a h
    · exact hS.yx a h
  obtain ⟨⟨ad, cap, hv, h1, h2, h3⟩, h4⟩ := hS
  have hgr : ∀ (v' : Value) (w' : World), (DM.on = true -> w.drawn <= w'.drawn) -> w.grownBy w' v.ownBlock -> w'.ownsRow base E k v' (l.length + xs.length) (l.flatMap enc ++ xs.flatMap enc) -> ((lC v' = lC v) ∨ (∃ g cap, v' = .slice (some ⟨g, 0, none⟩) (l.length + xs.length) cap /\ (w.heap.size <= g ∨ v.ownBlock = some g))) ->
      Kept w w' /\ kL w'.heap base E k enc v' (l ++ xs) /\ Grown w.heap w'.heap v v' := by
    intro v' w' hdr g o hv'
    refine ⟨⟨g.os, g.tape, g.output, hdr⟩, ⟨?_, henc⟩, g.size, ?_, ?_⟩
    · rw [List.length_append, List.flatMap_append]; exact o
    · intro b hb hne
      refine g.block b hb ?_
      intro e; apply hne
      rcases hown.row.2 with ⟨e1, _⟩ | ⟨g', cap', cur, e1, _⟩
      · rw [e1] at e; cases e
      · rw [e1] at e ⊢; simpa [Value.ownBlock, lC] using e.symm
    · intro b hb
      rcases hv' with h5 | ⟨g', cap', rfl, h5 | h5⟩
      · exact .inl (h5 ▸ hb)
      · simp only [lC, Option.some.injEq] at hb; right; omega
      · left; simp only [lC, Option.some.injEq] at hb; subst hb
        rcases hown.row.2 with ⟨e1, _⟩ | ⟨g2, cap2, cur, e1, _⟩
        · rw [e1] at h5; cases h5
        · rw [e1] at h5 ⊢; simpa [Value.ownBlock, lC] using h5
  have hcells : ∀ (a : Addr) (c : Nat), vx = .slice (some a) xs.length c -> xs ≠ [] -> ∀ j u, (xs.flatMap enc)[j]? = some u -> w.cell? (a.add j) = some u := by
    intro a c hvx hne j u hju
    rcases h3 with h3 | ⟨b, off, ha, hb, hr⟩
    · exact absurd h3 hne
    · have : a = ⟨b, off, none⟩ := by rw [hvx, ha] at hv; injection hv with q _ _; injection q
      subst this
      rw [Dx, Pj]
      have hjl : j < (xs.flatMap enc).length := (List.getElem?_eq_some_iff.1 hju).1
      rw [x9 enc k xs h4] at hjl
      have hpos := hT.pos
      have hq : j / k < xs.length := by rw [Nat.div_lt_iff_lt_mul hpos]; exact hjl
      have hm : j % k < k := Nat.mod_lt _ hpos
      have hf := flat_get enc k xs h4 (j / k) hq (j % k) hm
      rw [Nat.mul_comm (j / k) k, Nat.div_add_mod, hju] at hf
      have he := h4 _ (List.getElem_mem hq)
      have hr' := hr (j / k) hq (j % k) (by rw [he]; exact hm)
      rw [show off + j / k * k + j % k = off + j from by rw [Nat.mul_comm (j / k) k, Nat.add_assoc, Nat.div_add_mod]] at hr'
      rw [hr', ← List.getElem?_eq_getElem (by rw [he]; exact hm), ← hf]
  by_cases hx0 : xs = []
  · -- nothing is appended
    subst hx0
    refine ⟨v, w, hrun ?_, Kept.refl w, by simpa using hown, Nat.le_refl _, fun _ _ _ => rfl, fun _ hb => .inl hb⟩
    rw [hv]
    have hfc : ∀ n w, (Builtin.firstCells n 0 (.slice ad 0 cap)).run P w = .ok #[] w := by
      intro n w; cases ad <;> simp [Builtin.firstCells, loadCells, loadCellsFrom]
    rcases hown.row.2 with ⟨e1, e2⟩ | ⟨g, cap', cur, e1, e2, e3, e4, _⟩
    · rw [e1]
      simp [Builtin.append_, run_underlying hT.und, sizeOf, typeInfo, hi, Builtin.lenOf, hfc]
    · rw [e1]
      simp [Builtin.append_, run_underlying hT.und, sizeOf, typeInfo, hi, Builtin.lenOf, hfc, e4, storeCells]
  · obtain ⟨a, ha⟩ : ∃ a, ad = some a := by
      rcases h3 with h3 | ⟨b, off, ha, _⟩
      · exact absurd h3 hx0
      · exact ⟨_, ha⟩
    subst ha
    have hc := hcells a cap hv hx0
    have hne : 0 < xs.length := List.length_pos_iff.2 hx0
    have hfl := x9 enc k xs h4
    have h1c : ∀ u ∈ xs.flatMap enc, u.oneCell' = true := by intro u hu; obtain ⟨b, hb, hub⟩ := List.mem_flatMap.1 hu; exact hone b hb u hub
    obtain ⟨v', w', hr, ho, hg, _⟩ := run_append_own (P := P) w base T ty E i z k bytes hT.und hi hz hik hib hzk hT.pos v l.length (l.flatMap enc) hown.row a xs.length cap (xs.flatMap enc)
      hfl hc h1c (by simpa [maxLen] using h63) hsz hbase
    refine ⟨v', w', hrun (by rw [hv]; exact hr), ?_⟩
    rcases hown.row.2 with ⟨f1, f2⟩ | ⟨g2, cap2, ajj, f1, f2, f3, f4, f5, f6, f7⟩
    · have hr' := run_append_nil (P := P) w T ty E i z hT.und hi hz a xs.length cap (xs.flatMap enc) (by rw [hik]; exact hfl) hc hne (by omega) (by rw [hib]; rw [f2, Nat.zero_add] at hsz; omega)
      rw [f1] at hr; rw [hr] at hr'
      injection hr' with q qw
      refine hgr v' w' (fun _ => by rw [qw]; exact Nat.le_succ _) hg ho ?_
      right; refine ⟨w.heap.size, grownCap w xs.length 0 E, ?_, .inl (Nat.le_refl _)⟩
      rw [q, f2, Nat.zero_add]
    · have holds : ∀ j u, (l.flatMap enc)[j]? = some u -> w.cell? ((⟨g2, 0, none⟩ : Addr).add j) = some u := by
        have := hown.row
        exact World.ownsRow.cells (w := w) (base := base) (e := E) (size := k) (v := v) (n := l.length) (xs := l.flatMap enc) this (by rw [f1]; rfl)
      by_cases hroom : l.length + xs.length <= cap2
      · have hr' := run_append_room (P := P) w T ty E i hT.und hi g2 l.length cap2 ajj f3 a xs.length cap (xs.flatMap enc) (by rw [hik]; exact hfl) hc h1c hroom
          (by rw [hik, hfl, f6, ← Nat.add_mul]; exact Nat.mul_le_mul_right _ hroom)
        rw [f1] at hr; rw [hr] at hr'
        injection hr' with q qw
        refine hgr v' w' (fun _ => by rw [qw]; exact Nat.le_refl _) hg ho ?_
        left; rw [q, f1]; rfl
      · have hr' := run_append_grow (P := P) w T ty E i z hT.und hi hz ⟨g2, 0, none⟩ l.length cap2 (l.flatMap enc) (by rw [hik]; exact hown.row.1) holds a xs.length cap (xs.flatMap enc) (by rw [hik]; exact hfl) hc
          (by omega) (by omega) (by rw [hib]; exact growslice_fits (by omega) hsz)
        rw [f1] at hr; rw [hr] at hr'
        injection hr' with q qw
        refine hgr v' w' (fun _ => by rw [qw]; exact Nat.le_succ _) hg ho ?_
        right; exact ⟨w.heap.size, grownCap w (l.length + xs.length) cap2 E, q, .inl (Nat.le_refl _)⟩
end
end Go.HL
