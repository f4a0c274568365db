/- ajq in the shapes that the functions use: a block known whole, a slice that reads as a list; what the operations on them do. -/
import Derived.Test.YtmbkoonblmfdpaaGreatOps
set_option linter.unusedSimpArgs false
set_option linter.unusedVariables false
set_option linter.unusedSectionVars false
namespace Go.HL
variable [DM]
def dW (h : Heap) (b : Nat) (o : Obj) : Prop := h[b]? = some o
theorem dW.ext {h h' : Heap} {b : Nat} {o : Obj} (k : dW h b o) (e : Ext h h') : dW h' b o := e.get k
theorem dW.lt {h : Heap} {b : Nat} {o : Obj} (k : dW h b o) : b < h.size := yK k
theorem dW.upd {h h' : Heap} {b c : Nat} {o x : Obj} (k : dW h b o) (u : N9 h c x h') (hne : b ≠ c) : dW h' b o := u.other k hne
theorem dW.cell {h : Heap} {b o : Nat} {c : Array Value} {T : TypeId} {fr : Nat × Nat} {v : Value} (k : dW h b (.cells c T fr)) (hv : c[o]? = some v) : hcell h b o = some v :=
  (QM k).trans hv
theorem New.blk {h h' : Heap} {o : Obj} {b : Nat} (n : New h o b h') : dW h' b o := n.get
theorem N9.blk {h h' : Heap} {b : Nat} {o o' : Obj} (u : N9 h b o h') (e : o = o') : dW h' b o' := e ▸ u.get
def Row {α : Type} (h : Heap) (k : Nat) (enc : α -> List Value) (b off : Nat) (l : List α) : Prop :=
  ∀ i (hi : i < l.length) j (hj : j < (enc l[i]).length), hcell h b (off + i * k + j) = some (enc l[i])[j]
theorem Row.aeq {α : Type} {h h' : Heap} {k : Nat} {enc : α -> List Value} {b off : Nat} {l : List α} (r : Row h k enc b off l) (e : h'[b]? = h[b]?) : Row h' k enc b off l := by
  intro i hi j hj
  rw [← r i hi j hj]; unfold hcell; rw [e]
structure gY {α : Type} (h : Heap) (k : Nat) (enc : α -> List Value) (v : Value) (l : List α) : Prop where
  is : ∃ a cap, v = .slice a l.length cap /\ l.length <= cap /\ cap <= 9223372036854775807 /\ (l = [] ∨ ∃ b off, a = some ⟨b, off, none⟩ /\ b < h.size /\ Row h k enc b off l)
  yx : ∀ x ∈ l, (enc x).length = k
def lC : Value -> Option Nat
  | .slice (some a) _ _ => some a.block
  | _ => none
theorem gY.ext {α : Type} {h h' : Heap} {k : Nat} {enc : α -> List Value} {v : Value} {l : List α} (s : gY h k enc v l) (e : Ext h h') : gY h' k enc v l := by
  obtain ⟨⟨a, cap, hv, h1, h2, h3⟩, h4⟩ := s
  refine ⟨⟨a, cap, hv, h1, h2, ?_⟩, h4⟩
  rcases h3 with h3 | ⟨b, off, ha, hb, hr⟩
  · exact .inl h3
  · exact .inr ⟨b, off, ha, Nat.lt_of_lt_of_le hb e.size, hr.aeq (e.old b hb)⟩
theorem gY.upd {α : Type} {h h' : Heap} {k : Nat} {enc : α -> List Value} {v : Value} {l : List α} {c : Nat} {o : Obj} (s : gY h k enc v l) (u : N9 h c o h')
    (hne : lC v ≠ some c) : gY h' k enc v l := by
  obtain ⟨⟨a, cap, hv, h1, h2, h3⟩, h4⟩ := s
  refine ⟨⟨a, cap, hv, h1, h2, ?_⟩, h4⟩
  rcases h3 with h3 | ⟨b, off, ha, hb, hr⟩
  · exact .inl h3
  · refine .inr ⟨b, off, ha, by rw [u.size]; exact hb, hr.aeq (u.keep ?_)⟩
    rintro rfl; exact hne (by rw [hv, ha]; rfl)
theorem gY.nil {α : Type} (h : Heap) (k : Nat) (enc : α -> List Value) : gY h k enc (.slice none 0 0) ([] : List α) :=
  ⟨⟨none, 0, rfl, by simp, by simp, .inl rfl⟩, by simp⟩
def iE (k : Nat) : Value -> Nat -> Value
  | .slice (some a) _ _, i => .pointer (some (a.add (i * k)))
  | _, _ => undef
def encI (n : Int) : List Value := [.int .i64 n]
def Af (b : Bool) : List Value := [.bool b]
def Holds (f : kT) : List (Nat × Value) -> Prop
  | [] => True
  | (k, v) :: r => f k = v /\ Holds f r
def abB (f : kT) : List (Nat × Value) -> kT
  | [] => f
  | (k, v) :: r => upd (abB f r) k v
theorem Rh {f : kT} : ∀ (l : List (Nat × Value)), Holds f l -> abB f l = f
  | [], _ => rfl
  | (k, v) :: r, h => by simp only [abB]; rw [Rh r h.2]; exact abA h.1
theorem HW.fr {P : Program} {n : Nat} {c : Code} {Q : Post} {f : kT} {h : Heap} (l : List (Nat × Value)) (hl : Holds f l) (H : HW P n c Q (abB f l) h) : HW P n c Q f h := by
  rw [Rh l hl] at H; exact H
theorem dW.cells {h : Heap} {b o k : Nat} {c : Array Value} {T : TypeId} {fr : Nat × Nat} {cs : List Value} (hb : dW h b (.cells c T fr)) (hc : (c.toList.drop o).take k = cs) :
    ∀ j (hj : j < cs.length), hcell h b (o + j) = some cs[j] := by
  intro j hj
  subst hc
  refine hb.cell ?_
  simp only [List.length_take, List.length_drop, Array.length_toList] at hj
  rw [List.getElem_take, List.getElem_drop, Array.getElem_toList]
  rw [Array.getElem?_eq_getElem (by omega)]
section
variable {P : Program} {f : kT} {h : Heap} {ty : TypeId} {α : Type} {k : Nat} {enc : α -> List Value}
theorem q_len {T E k' : Nat} {ts : Array TypeId} {x : Operand} {v : Value} {l : List α} (hT : Ed P T E k') (hS : gY h k enc v l) (hx : ev f x = v) (ht : ts[0]? = some T) :
    QV P (.call ⟨.builtin .len, #[x], ts⟩) ty f h (.int .i64 (l.length : Int)) := by
  obtain ⟨⟨a, cap, hv, _⟩, _⟩ := hS
  subst hv
  intro dst pos after guard w _
  simp [execOp, resolve, invoke, builtin, hx, Builtin.len_, ht, run_underlying hT.und, goInt, go_sem]
theorem Ym {T E : Nat} {x y : Operand} {v : Value} {l : List α} {kk : IntKind} {i : Nat} (hT : Ed P T E k) (hS : gY h k enc v l) (hx : ev f x = v)
    (hy : ev f y = .int kk (i : Int)) (hi : i < l.length) : QV P (.indexAddr T x y) ty f h (iE k v i) := by
  obtain ⟨⟨a, cap, hv, h1, h2, h3⟩, _⟩ := hS
  subst hv
  intro dst pos after guard w _
  rcases h3 with h3 | ⟨b, off, ha, hb, hr⟩
  · subst h3; simp at hi
  · subst ha
    have hi' : (i : Int) < (l.length : Int) := by omega
    simp [execOp, hx, hy, Instr.indexAt, asIntOf, run_underlying hT.und, hT.size w, iE, hi, go_sem]
theorem VR {T : TypeId} {x : Operand} {v : Value} {l : List α} {i : Nat} (hT : KF P T k) (hS : gY h k enc v l) (hx : ev f x = iE k v i) (hi : i < l.length) :
    QV P (.load T x) ty f h (.agg (enc l[i]).toArray) := by
  obtain ⟨⟨a, cap, hv, h1, h2, h3⟩, h4⟩ := hS
  subst hv
  rcases h3 with h3 | ⟨b, off, ha, hb, hr⟩
  · subst h3; simp at hi
  · subst ha
    refine bK hT (b := b) (o := off + i * k) ?_ (h4 _ (List.getElem_mem hi)) (hr i hi)
    rw [hx]; simp only [iE, Dx]
theorem ec {K : Nat} {fo : Operand} {la : List Operand} {tys : Array TypeId} {first cap : Array Value} {l : List Value} (en : ∀ args w, (callFunc K args).run P w = .ok (.enter K args) w)
    (hf : ev f fo = .func (.func K) first cap) (hl : first.toList ++ la.map (ev f) ++ cap.toList = l) : EC P (.call ⟨.value fo, la.toArray, tys⟩) ty f K l.toArray := by
  intro dst pos after guard w
  subst hl
  have : first ++ Array.map (ev f) la.toArray ++ cap = (first.toList ++ la.map (ev f) ++ cap.toList).toArray := by
    apply Array.toList_inj.1; simp
  simp only [execOp, resolve, Deferred.ofValue, hf]
  rw [Sem.run_bind]
  simp only [pure, Sem.run, Result.andThen_ok, invoke]
  rw [this]; exact en _ w
theorem ae2 {E k' : Nat} {x : Operand} {c : Array Value} (hx : (ev f x).cells = c) (_hk : c.size = k') :
    EV P (.box E x) ty f h (fun v h' => ∃ b, v = .pointer (some ⟨b, 0, none⟩) /\ New h (.cells c E (0, 0)) b h') := by
  intro dst pos after guard w hw
  refine ⟨.pointer (some ⟨w.heap.size, 0, none⟩), w.alloc (.cells c E (0, 0)), ?_, ⟨rfl, rfl, rfl, fun _ => Nat.le_refl _⟩, w.heap.size, rfl, ⟨?_, ?_⟩⟩
  · subst hx; simp [execOp, Instr.box, newVar, newRow, newObj, Sem.run, bind, Sem.bind, pure]
  · rw [← hw]; rfl
  · rw [← hw]
theorem XJ {E : Nat} {z : Value} {c : Array Value} (hz : Eu P E z) (hc : z.cells = c) :
    EV P (.alloc E) ty f h (fun v h' => ∃ b, v = .pointer (some ⟨b, 0, none⟩) /\ New h (.cells c E (0, 0)) b h') := by
  intro dst pos after guard w hw
  refine ⟨.pointer (some ⟨w.heap.size, 0, none⟩), w.alloc (.cells c E (0, 0)), ?_, ⟨rfl, rfl, rfl, fun _ => Nat.le_refl _⟩, w.heap.size, rfl, ⟨?_, ?_⟩⟩
  · subst hc
    simp only [execOp, Instr.alloc]
    rw [Sem.run_bind, Sem.run_bind, hz w]
    simp [newVar, newRow, newObj, Sem.run, bind, Sem.bind, pure]
  · rw [← hw]; rfl
  · rw [← hw]
end
end Go.HL
