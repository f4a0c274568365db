/- slices.Insert at an own list of numbers. -/
import Derived.Test.YtjliljlmgepmpaaGreatRo
import Derived.Shelf.Spec.SlicesInsert
import Derived.Shelf.Spec.SlicesInsertGrow
set_option linter.unusedSimpArgs false
set_option linter.unusedVariables false
set_option linter.unusedSectionVars false
namespace Go.Wk
open Go.HL
open Go.Proofs Go.Shelf
variable [DM]
def setM (c : Array Value) (o : Nat) (vs : List Value) : Array Value := (c.toList.take o ++ vs ++ c.toList.drop (o + vs.length)).toArray
theorem setM_size {c : Array Value} {o : Nat} {vs : List Value} (h : o + vs.length ≤ c.size) : (setM c o vs).size = c.size := by
  unfold setM; simp; omega
theorem setM_nil (c : Array Value) (o : Nat) : setM c o [] = c := by
  unfold setM; simp
theorem setM_cons {c : Array Value} {o : Nat} {v : Value} {vs : List Value} (h : o + (v :: vs).length ≤ c.size) : setM (c.setIfInBounds o v) (o + 1) vs = setM c o (v :: vs) := by
  unfold setM
  simp only [List.length_cons] at h ⊢
  congr 1
  apply List.ext_getElem?
  intro k
  simp only [Array.toList_setIfInBounds, List.getElem?_append, List.length_append, List.length_take, List.length_set, List.getElem?_take, List.getElem?_set, List.getElem?_drop, List.getElem?_cons, Array.length_toList, List.length_cons]
  by_cases h1 : k < o
  · have : ¬ o = k := by omega
    simp [show k < min (o + 1) c.size by omega, show k < min (o + 1) c.size + vs.length by omega, show k < min o c.size by omega, show k < min o c.size + (vs.length + 1) by omega, show k < o + 1 by omega, h1, this]
  · by_cases h2 : k = o
    · subst h2
      simp [show k < min (k + 1) c.size by omega, show k < min (k + 1) c.size + vs.length by omega, show ¬ k < min k c.size by omega, show k < min k c.size + (vs.length + 1) by omega, show k < c.size by omega, show k - min k c.size = 0 by omega]
    · by_cases h3 : k < o + 1 + vs.length
      · simp [show ¬ k < min (o + 1) c.size by omega, show k < min (o + 1) c.size + vs.length by omega, show ¬ k < min o c.size by omega, show k < min o c.size + (vs.length + 1) by omega, show ¬ k - min o c.size = 0 by omega]
        congr 1; omega
      · simp [show ¬ k < min (o + 1) c.size by omega, show ¬ k < min (o + 1) c.size + vs.length by omega, show ¬ k < min o c.size by omega, show ¬ k < min o c.size + (vs.length + 1) by omega, show ¬ o = o + 1 + vs.length + (k - (min (o + 1) c.size + vs.length)) by omega]
        congr 1; omega
theorem heap_setCell {w : World} {b o : Nat} {c : Array Value} {E : TypeId} (v : Value) (hb : Blk w.heap b (.cells c E (0, 0))) : (w.setCell ⟨b, o, none⟩ v).heap = w.heap.setIfInBounds b (.cells (c.setIfInBounds o v) E (0, 0)) := by
  have hlt := hb.lt
  have hbe : w.heap[b] = .cells c E (0, 0) := by have := hb; unfold Blk at this; rw [Array.getElem?_eq_getElem hlt] at this; injection this
  unfold World.setCell
  apply Array.ext
  · simp
  · intro i h1 h2
    simp only [Array.size_modify] at h1
    rw [Array.getElem_modify, Array.getElem_setIfInBounds]
    by_cases e : b = i
    · subst e; simp only [if_true]; rw [hbe]; rfl
    · simp only [e, if_false]
    · exact h1
theorem heap_setCells (b : Nat) (E : TypeId) : ∀ (vs : List Value) (o : Nat) (w : World) (c : Array Value), Blk w.heap b (.cells c E (0, 0)) → o + vs.length ≤ c.size →
    Upd w.heap b (.cells (setM c o vs) E (0, 0)) (w.setCells b o vs).heap ∧ Kept w (w.setCells b o vs)
  | [], o, w, c, hb, _ => by
    refine ⟨⟨hb.lt, ?_⟩, Kept.refl _⟩
    rw [setM_nil]
    show w.heap = _
    apply Array.ext
    · simp
    · intro i h1 h2
      rw [Array.getElem_setIfInBounds]
      by_cases e : b = i
      · subst e; simp only [if_true]
        have := hb; unfold Blk at this; rw [Array.getElem?_eq_getElem h1] at this; injection this
      · simp only [e, if_false]
      · exact h1
  | v :: vs, o, w, c, hb, h => by
    have h1 := heap_setCell (o := o) v hb
    have hb1 : Blk (w.setCell ⟨b, o, none⟩ v).heap b (.cells (c.setIfInBounds o v) E (0, 0)) := by
      unfold Blk; rw [h1]; simp [hb.lt]
    have ih := heap_setCells b E vs (o + 1) (w.setCell ⟨b, o, none⟩ v) (c.setIfInBounds o v) hb1 (by simp only [List.length_cons] at h; simp; omega)
    rw [setM_cons h] at ih
    have k1 : Kept w (w.setCell ⟨b, o, none⟩ v) := ⟨rfl, rfl, rfl, fun _ => Nat.le_refl _⟩
    refine ⟨⟨hb.lt, ?_⟩, k1.trans ih.2⟩
    show ((w.setCell ⟨b, o, none⟩ v).setCells b (o + 1) vs).heap = _
    rw [ih.1.eq, h1]
    simp
theorem setM_toList (c : Array Value) (o : Nat) (vs : List Value) : (setM c o vs).toList = c.toList.take o ++ vs ++ c.toList.drop (o + vs.length) := rfl
theorem encI_map (l : List Int) : l.flatMap encI = l.map (fun n => Value.int .i64 n) := by
  induction l with
  | nil => rfl
  | cons a l ih => rw [List.flatMap_cons, List.map_cons, ih]; rfl
theorem insL (l : List Int) (i : Nat) (x : Int) : (l.take i ++ [x] ++ l.drop i).flatMap encI = (l.flatMap encI).take i ++ [.int .i64 x] ++ (l.flatMap encI).drop i := by
  rw [encI_map, encI_map, List.map_append, List.map_append, List.map_take, List.map_drop]; rfl
theorem setM_shift {c : Array Value} {i : Nat} {a : Value} {tl : List Value} (h : i + 1 + tl.length ≤ c.size) : ((setM (setM c (i + 1) tl) i [a]).toList).take (i + 1 + tl.length) = c.toList.take i ++ [a] ++ tl := by
  rw [setM_toList, setM_toList]
  have e1 : (List.take (i + 1) c.toList).length = i + 1 := by simp; omega
  rw [List.take_append_of_le_length (l₁ := List.take (i + 1) c.toList ++ tl) (by simp; omega), List.take_append_of_le_length (l₁ := List.take (i + 1) c.toList) (by simp; omega), List.take_take, Nat.min_eq_left (by omega)]
  have e2 : List.drop (i + [a].length) (List.take (i + 1) c.toList ++ tl ++ List.drop (i + 1 + tl.length) c.toList) = tl ++ List.drop (i + 1 + tl.length) c.toList := by
    rw [List.append_assoc]; exact List.drop_left' (by simp; omega)
  rw [e2, ← List.append_assoc]
  exact List.take_left' (by simp; omega)
theorem setM_grow {c : Array Value} {i : Nat} {a : Value} {tl : List Value} (h : i + 1 + tl.length ≤ c.size) : ((setM (setM c i [a]) (i + 1) tl).toList).take (i + 1 + tl.length) = c.toList.take i ++ [a] ++ tl := by
  rw [setM_toList, setM_toList]
  have e1 : List.take (i + 1) (List.take i c.toList ++ [a] ++ List.drop (i + [a].length) c.toList) = List.take i c.toList ++ [a] := List.take_left' (by simp; omega)
  rw [e1]
  exact List.take_left' (by simp; omega)
theorem cellO {w : World} {b : Nat} {T : TypeId} {c : Array Value} (hb : w.heap[b]? = some (.cells c T (0, 0))) (j : Nat) : w.cell? ⟨b, j, none⟩ = c[j]? := by
  simp [World.cell?, hb]
theorem frzO {w : World} {b : Nat} {T : TypeId} {c : Array Value} (hb : w.heap[b]? = some (.cells c T (0, 0))) (j : Nat) : w.frozen? ⟨b, j, none⟩ = false := by
  simp [World.frozen?, hb]
theorem allO {w : World} (o : Obj) {b : Nat} (hb : b < w.heap.size) : (w.alloc o).heap[b]? = w.heap[b]? := _root_.Go.heap_alloc_old w o hb
theorem shape_o {w : World} {b : Nat} {T : TypeId} {c : Array Value} (hb : w.heap[b]? = some (.cells c T (0, 0))) : w.shape? b = some (T, c.size) := by
  simp [World.shape?, hb]
variable {P : Program} {ρ : Ren} {F : Fz} {os : List Ow} {h : Heap} {v : Value} {l : List Int} {vb : Nat} {x : Int} {i : Nat}
theorem insert_hc (hD : DM.on = false) (L : Lays2.n21 P ρ) (hS : St F (Ow.own (ρ.t 3) 1 encI v l :: Ow.own (ρ.t 3) 1 encI (.slice (some ⟨vb, 0, none⟩) 1 1) ([x] : List Int) :: os) h) (hi : i ≤ l.length) (hb : (l.length + 1) * 8 ≤ 140737488355328) :
    HC P (ρ.f 21) #[v, .int .i64 (i : Int), .slice (some ⟨vb, 0, none⟩) 1 1] h fun u h' => St F (Ow.own (ρ.t 3) 1 encI u (l.take i ++ [x] ++ l.drop i) :: os) h' ∧ Kp F h F h' := by
  have ho : OwnIs h 0 (ρ.t 3) 1 encI v l := hS.get 0 rfl
  have hx : OwnIs h 0 (ρ.t 3) 1 encI (.slice (some ⟨vb, 0, none⟩) 1 1) ([x] : List Int) := hS.get 1 rfl
  have hvb : blockOf v ≠ some vb := fun e => hS.apart 0 1 _ _ (by omega) rfl rfl vb e rfl
  have hlen : (l.flatMap encI).length = l.length := by rw [encI_map, List.length_map]
  have hll : (l.take i ++ [x] ++ l.drop i).length = l.length + 1 := by simp; omega
  obtain ⟨curx, hgx, hszx, htx⟩ : ∃ curx, h[vb]? = some (.cells curx (ρ.t 3) (0, 0)) ∧ curx.size = 1 ∧ curx.toList = [.int .i64 x] := by
    rcases hx.row.2 with ⟨e1, _⟩ | ⟨g, cap, cur, e1, e2, e3, e4, e5, e6, e7⟩
    · cases e1
    · injection e1 with q1 q2 q3
      injection q1 with q1; injection q1 with q1 _ _
      subst q1; subst q3
      refine ⟨cur, e3, by omega, ?_⟩
      rw [← List.take_of_length_le (l := cur.toList) (i := 1) (by simp; omega)]
      exact e7
  have hdone : ∀ (u : Value) (h' : Heap), OwnIs h' 0 (ρ.t 3) 1 encI u (l.take i ++ [x] ++ l.drop i) → (∀ b, blockOf u = some b → blockOf v = some b ∨ h.size ≤ b) → h.size ≤ h'.size → (∀ b, b < h.size → blockOf v ≠ some b → h'[b]? = h[b]?) →
      St F (Ow.own (ρ.t 3) 1 encI u (l.take i ++ [x] ++ l.drop i) :: os) h' ∧ Kp F h F h' := by
    intro u h' h1 h2 h3 h4
    have := hS.turn 0 rfl (Ow.own (ρ.t 3) 1 encI u (l.take i ++ [x] ++ l.drop i)) h1 h2 h3 h4
    refine ⟨?_, this.2⟩
    exact St.perm (front := [Ow.own (ρ.t 3) 1 encI u (l.take i ++ [x] ++ l.drop i), Ow.own (ρ.t 3) 1 encI (.slice (some ⟨vb, 0, none⟩) 1 1) ([x] : List Int)]) (fr := os) this.1 [0] 2 rfl (by decide) [Ow.own (ρ.t 3) 1 encI u (l.take i ++ [x] ++ l.drop i)] rfl
  have hrow : ∀ (w' : World) (g cap : Nat) (cur : Array Value), w'.heap[g]? = some (.cells cur (ρ.t 3) (0, 0)) → l.length + 1 ≤ cap → cap ≤ maxLen → cur.size = cap → cur.toList.take (l.length + 1) = (l.flatMap encI).take i ++ [.int .i64 x] ++ (l.flatMap encI).drop i →
      OwnIs w'.heap 0 (ρ.t 3) 1 encI (.slice (some ⟨g, 0, none⟩) (l.length + 1) cap) (l.take i ++ [x] ++ l.drop i) := by
    intro w' g cap cur h1 h2 h3 h4 h5
    refine ⟨⟨?_, .inr ⟨g, cap, cur, ?_, Nat.zero_le _, h1, ?_, h3, by omega, ?_⟩⟩, fun _ _ => rfl⟩
    · rw [encI_map, List.length_map]; omega
    · rw [hll]
    · rw [hll]; exact h2
    · rw [hll, Nat.mul_one, h5, insL]
  intro w hw
  subst hw
  have hcx : ∀ j u, ([.int .i64 x] : List Value)[j]? = some u → w.cell? ⟨vb, 0 + j, none⟩ = some u := by
    intro j u hj
    rw [Nat.zero_add, cellO hgx, ← Array.getElem?_toList, htx]; exact hj
  have h1v : ∀ u ∈ ([.int .i64 x] : List Value), u.oneCell' = true := by intro u hu; simp at hu; subst hu; rfl
  have h1c : ∀ u ∈ l.flatMap encI, u.oneCell' = true := by
    intro u hu; rw [encI_map] at hu; obtain ⟨n, _, rfl⟩ := List.mem_map.1 hu; rfl
  have kd : ∀ o : Obj, Kept w (w.drew.alloc o) := fun o => ⟨rfl, rfl, rfl, fun q => by rw [hD] at q; cases q⟩
  have hg1 := grownCap_ge w (l.length + 1)
  have endGrow : ∀ (base : Option Addr) (cap : Nat), v = .slice base l.length cap → l.length ≤ cap → cap < l.length + 1 → i = l.length → (base = none → l.length = 0) → (∀ a, base = some a → ∀ j u, (l.flatMap encI)[j]? = some u → w.cell? (a.add j) = some u) →
      Calls P (ρ.f 21) #[v, .int .i64 (i : Int), .slice (some ⟨vb, 0, none⟩) 1 1] w fun e w' => Kept w w' ∧ ∃ u, e = .returned u ∧ St F (Ow.own (ρ.t 3) 1 encI u (l.take i ++ [x] ++ l.drop i) :: os) w'.heap ∧ Kp F w.heap F w'.heap := by
    intro base cap hv h1 h2 hie hn hc
    subst hie
    rw [hv]
    refine (Any2.slices_Insert_int_end_grow L base l.length cap vb 0 1 1 (l.flatMap encI) [.int .i64 x] w (by omega) h1 h2 hb hlen rfl hn hc hcx h1v).mono ?_
    rintro e w' ⟨rfl, rfl⟩
    have hge := hg1 cap (ρ.t 3)
    have hle := grownCap_le_maxLen w (l.length + 1) cap (ρ.t 3) (by unfold maxLen; omega)
    have hz : (Value.int .i64 0).cells.size = 1 := rfl
    refine ⟨kd _, _, rfl, hdone _ _ (hrow _ w.heap.size _ _ (heap_alloc_new w.drew _) hge hle ?_ ?_) ?_ (by simp) fun b hb' _ => allO (w := w.drew) _ hb'⟩
    · simp only [Array.size_append, List.size_toArray, size_zeroCells, hz, List.length_append, hlen, List.length_cons, List.length_nil]; omega
    · simp only [Array.toList_append]
      rw [List.take_left' (by simp [hlen]), List.take_of_length_le (by omega), List.drop_of_length_le (by omega), List.append_nil]
    · intro b hb'; right; simp only [blockOf, Option.some.injEq] at hb'; omega
  rcases ho.row.2 with ⟨f1, f2⟩ | ⟨g, cap, cur, f1, f2, f3, f4, f5, f6, f7⟩
  · exact endGrow none 0 (by rw [f1, f2]) (by omega) (by omega) (by omega) (fun _ => f2) (fun a ha => by cases ha)
  · have hcs : ∀ j u, (l.flatMap encI)[j]? = some u → w.cell? ⟨g, 0 + j, none⟩ = some u := by
      intro j u hj
      have := World.ownsRow.cells (w := w) (base := 0) (e := ρ.t 3) (size := 1) (v := v) (n := l.length) (xs := l.flatMap encI) ho.row (g := g) (by rw [f1]; rfl) j u hj
      rwa [Addr.add_lit] at this
    have hgb : vb ≠ g := fun e => hvb (by rw [f1, e]; rfl)
    have hcap1 : cur.size = cap := by omega
    have hb3 : Blk w.heap g (.cells cur (ρ.t 3) (0, 0)) := f3
    have hglt := hb3.lt
    have hsome : ∀ j, j < cap → (w.cell? ⟨g, 0 + j, none⟩).isSome = true := by
      intro j hj; rw [Nat.zero_add, cellO f3, Array.getElem?_eq_getElem (by omega)]; rfl
    have hcur : cur.toList.take l.length = l.flatMap encI := by rw [← f7, Nat.mul_one]
    by_cases hroom : l.length + 1 ≤ cap
    · have hblk : ∀ b, blockOf (Value.slice (some ⟨g, 0, none⟩) (l.length + 1) cap) = some b → blockOf v = some b := fun b hb' => by rw [f1]; exact hb'
      by_cases hie : i = l.length
      · subst hie
        rw [f1]
        refine (Any2.slices_Insert_int_end_room L g 0 l.length cap vb 0 1 1 [.int .i64 x] w (by omega) hroom (by unfold maxLen at f5; omega) rfl (fun j hj => by have := hsome (l.length + j) (by omega); rwa [← Nat.add_assoc] at this) (fun j hj => frzO f3 _) hcx h1v).mono ?_
        rintro e w' ⟨rfl, rfl⟩
        obtain ⟨hu, hk⟩ := heap_setCells g (ρ.t 3) [.int .i64 x] (0 + l.length) w cur hb3 (by simp; omega)
        refine ⟨hk, _, rfl, hdone _ _ (hrow _ g cap _ hu.get hroom f5 (by rw [setM_size (by simp; omega)]; exact hcap1) ?_) (fun b hb' => .inl (hblk b hb')) (Nat.le_of_eq hu.size.symm) fun b _ hne => hu.keep fun e => hne (by rw [f1, e]; rfl)⟩
        rw [setM_toList, Nat.zero_add, hcur, List.take_left' (by simp [hlen]), List.take_of_length_le (by omega), List.drop_of_length_le (by omega), List.append_nil]
      · have hdl : (List.drop i (l.flatMap encI)).length = l.length - i := by rw [List.length_drop, hlen]
        rw [f1]
        refine (Any2.slices_Insert_int_shift L g 0 l.length cap i vb 0 1 1 (l.flatMap encI) [.int .i64 x] w (by omega) (by omega) hroom (by unfold maxLen at f5; omega) hgb hlen rfl hcs (fun j hj => hsome j (by omega)) (fun j hj => frzO f3 _) hcx h1c h1v (ρ.t 3) (ρ.t 3) curx.size cur.size (shape_o hgx) (shape_o f3) (by omega) (frzO hgx _) (frzO hgx _)).mono ?_
        rintro e w' ⟨rfl, rfl⟩
        obtain ⟨hu1, hk1⟩ := heap_setCells g (ρ.t 3) (List.drop i (l.flatMap encI)) (0 + (i + 1)) w.drew cur hb3 (by rw [hdl]; omega)
        obtain ⟨hu2, hk2⟩ := heap_setCells g (ρ.t 3) [.int .i64 x] (0 + i) (w.drew.setCells g (0 + (i + 1)) (List.drop i (l.flatMap encI))) _ hu1.get (by rw [setM_size (by rw [hdl]; omega)]; simp; omega)
        have kd0 : Kept w w.drew := ⟨rfl, rfl, rfl, fun q => by rw [hD] at q; cases q⟩
        refine ⟨(kd0.trans hk1).trans hk2, _, rfl, hdone _ _ (hrow _ g cap _ hu2.get hroom f5 (by rw [setM_size (by rw [setM_size (by rw [hdl]; omega)]; simp; omega), setM_size (by rw [hdl]; omega)]; exact hcap1) ?_) (fun b hb' => .inl (hblk b hb')) (by rw [hu2.size, hu1.size]; exact Nat.le_refl _) fun b _ hne => ?_⟩
        · have := setM_shift (c := cur) (i := i) (a := .int .i64 x) (tl := List.drop i (l.flatMap encI)) (by rw [hdl]; omega)
          rw [hdl, show i + 1 + (l.length - i) = l.length + 1 by omega] at this
          rw [Nat.zero_add, Nat.zero_add, this]
          congr 2
          rw [← hcur, List.take_take, Nat.min_eq_left (by omega)]
        · have hne' : b ≠ g := fun e => hne (by rw [f1, e]; rfl)
          rw [hu2.keep hne', hu1.keep hne']; rfl
    · by_cases hie : i = l.length
      · exact endGrow (some ⟨g, 0, none⟩) cap f1 f4 (by omega) hie (fun e => by cases e) (fun a ha j u hj => by injection ha with ha; subst ha; rw [Addr.add_lit]; exact hcs j u hj)
      · have hdl : (List.drop i (l.flatMap encI)).length = l.length - i := by rw [List.length_drop, hlen]
        rw [f1]
        refine (Any2.slices_Insert_int_grow L g 0 l.length cap i vb 0 1 1 (l.flatMap encI) [.int .i64 x] w (by omega) (by omega) f4 (by omega) hb hlen rfl hcs hcx h1c h1v).mono ?_
        rintro e w' ⟨rfl, rfl⟩
        have hge := hg1 cap (ρ.t 3)
        have hle := grownCap_le_maxLen w (l.length + 1) cap (ρ.t 3) (by unfold maxLen; omega)
        have hz : (Value.int .i64 0).cells.size = 1 := rfl
        generalize hX : (((l.flatMap encI).take i).toArray ++ Builtin.zeroCells (Value.int .i64 0).cells (l.length + 1 - i) ++ Builtin.zeroCells (Value.int .i64 0).cells (grownCap w (l.length + 1) cap (ρ.t 3) - (l.length + 1))) = X
        have hXs : X.size = grownCap w (l.length + 1) cap (ρ.t 3) := by
          rw [← hX]; simp only [Array.size_append, List.size_toArray, size_zeroCells, hz, List.length_take, hlen]; omega
        have hXt : X.toList.take i = (l.flatMap encI).take i := by
          rw [← hX]; simp only [Array.toList_append, List.append_assoc]
          exact List.take_left' (by simp [hlen]; omega)
        have hb4 : Blk (w.alloc (.cells X (ρ.t 3))).drew.heap w.heap.size (.cells X (ρ.t 3) (0, 0)) := heap_alloc_new w _
        obtain ⟨hu1, hk1⟩ := heap_setCells w.heap.size (ρ.t 3) [.int .i64 x] i (w.alloc (.cells X (ρ.t 3))).drew X hb4 (by simp; omega)
        obtain ⟨hu2, hk2⟩ := heap_setCells w.heap.size (ρ.t 3) (List.drop i (l.flatMap encI)) (i + 1) (((w.alloc (.cells X (ρ.t 3))).drew.setCells w.heap.size i [.int .i64 x]).drew) _ hu1.get (by rw [setM_size (by simp; omega), hdl]; omega)
        have ka : Kept w (w.alloc (.cells X (ρ.t 3))).drew := ⟨rfl, rfl, rfl, fun q => by rw [hD] at q; cases q⟩
        have kb : Kept ((w.alloc (.cells X (ρ.t 3))).drew.setCells w.heap.size i [.int .i64 x]) ((w.alloc (.cells X (ρ.t 3))).drew.setCells w.heap.size i [.int .i64 x]).drew := ⟨rfl, rfl, rfl, fun q => by rw [hD] at q; cases q⟩
        refine ⟨((ka.trans hk1).trans kb).trans hk2, _, rfl, hdone _ _ (hrow _ w.heap.size _ _ hu2.get hge hle (by rw [setM_size (by rw [setM_size (by simp; omega), hdl]; omega), setM_size (by simp; omega)]; exact hXs) ?_) ?_ ?_ fun b hb' hne => ?_⟩
        · have := setM_grow (c := X) (i := i) (a := .int .i64 x) (tl := List.drop i (l.flatMap encI)) (by rw [hdl]; omega)
          rw [hdl, show i + 1 + (l.length - i) = l.length + 1 by omega] at this
          rw [this, hXt]
        · intro b hb'; right; simp only [blockOf, Option.some.injEq] at hb'; omega
        · rw [hu2.size]; show w.heap.size ≤ ((w.alloc (.cells X (ρ.t 3))).drew.setCells w.heap.size i [.int .i64 x]).heap.size
          rw [hu1.size]; show w.heap.size ≤ (w.alloc (.cells X (ρ.t 3))).heap.size; simp
        · have hne' : b ≠ w.heap.size := by omega
          rw [hu2.keep hne']
          show ((w.alloc (.cells X (ρ.t 3))).drew.setCells w.heap.size i [.int .i64 x]).heap[b]? = _
          rw [hu1.keep hne']
          exact allO _ hb'
theorem insertI_hc (hD : DM.on = false) (L : Lays2.n21 P ρ) {E : Nat} (hE : ρ.t 3 = E) {a : Int} (h0 : 0 ≤ a) (h1 : a ≤ (l.length : Int)) (hb : (l.length + 1) * 8 ≤ 140737488355328) (hS : St F (Ow.own E 1 encI v l :: Ow.own E 1 encI (.slice (some ⟨vb, 0, none⟩) 1 1) ([x] : List Int) :: os) h) :
    HC P (ρ.f 21) #[v, .int .i64 a, .slice (some ⟨vb, 0, none⟩) 1 1] h fun u h' => St F (Ow.own E 1 encI u (l.take a.toNat ++ ([x] ++ l.drop a.toNat)) :: os) h' ∧ Kp F h F h' := by
  subst hE
  obtain ⟨n, rfl⟩ := Int.eq_ofNat_of_zero_le h0
  rw [Int.toNat_natCast, ← List.append_assoc]
  exact insert_hc hD L hS (by omega) hb
end Go.Wk
