/- Elements of own slices are written; slices by their shape alone. -/
import Derived.Test.YtmbkoonblmfdpaaGreatOps2
set_option linter.unusedSimpArgs false
set_option linter.unusedVariables false
set_option linter.unusedSectionVars false
namespace Go.HL
variable [DM]
theorem Vo {α : Type} (enc : α -> List Value) (k : Nat) : ∀ (l : List α), (∀ x ∈ l, (enc x).length = k) -> ∀ i (hi : i < l.length) j (u : Value) (a : α), j < k -> enc a = (enc l[i]).set j u ->
    (l.set i a).flatMap enc = (l.flatMap enc).set (i * k + j) u
  | [], _, i, hi, _, _, _, _, _ => by simp at hi
  | b :: l, he, 0, hi, j, u, a, hj, ha => by
    simp only [List.set_cons_zero, List.flatMap_cons, Nat.zero_mul, Nat.zero_add]
    simp only [List.getElem_cons_zero] at ha
    rw [List.set_append_left _ _ (by rw [he b (by simp)]; exact hj), ha]
  | b :: l, he, i + 1, hi, j, u, a, hj, ha => by
    have hb := he b (by simp)
    simp only [List.set_cons_succ, List.flatMap_cons]
    rw [List.set_append_right _ _ (by rw [hb, Nat.succ_mul]; omega), hb, show (i + 1) * k + j - k = i * k + j from by rw [Nat.succ_mul]; omega]
    congr 1
    exact Vo enc k l (fun x hx => he x (by simp [hx])) i (by simpa using hi) j u a hj (by simpa using ha)
def nD (k : Nat) (v : Value) (i j : Nat) : Value :=
  match v with
  | .slice (some a) _ _ => .pointer (some ((a.add (i * k)).add j))
  | _ => undef
def aib (v : Value) (n : Nat) : Prop := ∃ b o cap, v = .slice (some ⟨b, o, none⟩) n cap
theorem gY.shape {α : Type} {h : Heap} {k : Nat} {enc : α -> List Value} {v : Value} {l : List α} (s : gY h k enc v l) (hl : l ≠ []) : aib v l.length := by
  obtain ⟨⟨a, cap, hv, h1, h2, h3⟩, h4⟩ := s
  rcases h3 with h3 | ⟨b, off, ha, _⟩
  · exact absurd h3 hl
  · exact ⟨b, off, cap, by rw [hv, ha]⟩
section
variable {P : Program} {f : kT} {h : Heap} {ty : TypeId} {α : Type} {base E k T : Nat} {enc : α -> List Value} {v : Value} {l : List α}
theorem Yn {s i off : Nat} {x : Operand} {k : Nat} {v : Value} {j n : Nat} (hF : kN P s i off) (hV : aib v n) (hx : ev f x = iE k v j) : QV P (.fieldAddr s x i) ty f h (nD k v j off) := by
  obtain ⟨b, o, cap, rfl⟩ := hV
  intro dst pos after guard w _
  simp only [execOp, hx, iE]
  simp [hF _ w, nD]
theorem Yl {T' : TypeId} {x : Operand} {u : Value} {i j : Nat} (hT : Ji P T') (hS : gY h k enc v l) (hx : ev f x = nD k v i j) (hi : i < l.length) (hj : j < k)
    (hu : (enc l[i])[j]? = some u) : QV P (.load T' x) ty f h u := by
  obtain ⟨⟨a, cap, hv, h1, h2, h3⟩, h4⟩ := hS
  subst hv
  rcases h3 with h3 | ⟨b, off, ha, hb, hr⟩
  · subst h3; simp at hi
  · subst ha
    refine bU hT (b := b) (o := off + i * k + j) ?_ ?_
    · rw [hx]; simp only [nD, Dx]
    · have he := h4 _ (List.getElem_mem hi)
      have := hr i hi j (by rw [he]; exact hj)
      rw [this, ← hu, List.getElem?_eq_getElem (by rw [he]; exact hj)]
theorem Xa {T' : TypeId} {x y : Operand} {u : Value} {a : α} {i j : Nat} (hT : Ji P T') (hO : kL h base E k enc v l) (hx : ev f x = nD k v i j) (hi : i < l.length) (hj : j < k)
    (hy : ev f y = u) (ha : enc a = (enc l[i]).set j u) (hc : u.cells = #[u]) (h1 : u.oneCell' = true) :
    ES P (.store T' x y) ty f h (fun h' => kL h' base E k enc v (l.set i a) /\ Grown h h' v v) := by
  intro dst pos after guard w hw
  rcases hO.row.2 with ⟨e1, e2⟩ | ⟨g, cap, cur, e1, e2, e3, e4, e5, e6, e7⟩
  · omega
  · have hlt : i * k + j < cur.size := by
      rw [e6]
      have : i * k + k <= l.length * k := by rw [← Nat.succ_mul]; exact Nat.mul_le_mul_right _ hi
      have := Nat.mul_le_mul_right k e4
      omega
    obtain ⟨w', hrun, hk, hu⟩ := Xb (P := P) (f := f) (h := h) (ty := ty) (T := T') (x := x) (y := y) (b := g) (o := i * k + j) (c := cur) (E := E) (v := u) (c' := cur.setIfInBounds (i * k + j) u) hT e3
      (by rw [hx, e1]; simp only [nD, Dx, Nat.zero_add]) hy hc h1 hlt rfl dst pos after guard w hw
    refine ⟨w', hrun, hk, ⟨⟨?_, .inr ⟨g, cap, cur.setIfInBounds (i * k + j) u, by rw [e1, List.length_set], e2, hu.get, by rw [List.length_set]; exact e4, e5, by rw [Array.size_setIfInBounds]; exact e6, ?_⟩⟩, ?_⟩, by rw [hu.size]; exact Nat.le_refl _, ?_, fun _ hb => .inl hb⟩
    · rw [Vo enc k l hO.yx i hi j u a hj ha, List.length_set, List.length_set]; exact hO.row.1
    · rw [List.length_set, Array.toList_setIfInBounds, List.take_set, e7, Vo enc k l hO.yx i hi j u a hj ha]
    · intro y hy
      rcases List.mem_or_eq_of_mem_set hy with hy | rfl
      · exact hO.yx y hy
      · rw [ha, List.length_set]; exact hO.yx _ (List.getElem_mem hi)
    · intro b hb hne
      refine hu.keep ?_
      rintro rfl; apply hne; rw [e1]; rfl
end
theorem Grown.refl (h : Heap) (v : Value) : Grown h h v v := ⟨Nat.le_refl _, fun _ _ _ => rfl, fun _ hb => .inl hb⟩
theorem Grown.trans {a b c : Heap} {v v' v'' : Value} (g : Grown a b v v') (g' : Grown b c v' v'') : Grown a c v v'' :=
  ⟨Nat.le_trans g.size g'.size, fun x hx hne => (g'.block x (Nat.lt_of_lt_of_le hx g.size) (by
    intro e; rcases g.now x e with h1 | h1
    · exact hne h1
    · omega)).trans (g.block x hx hne), fun x hx => by
    rcases g'.now x hx with h1 | h1
    · exact g.now x h1
    · right; have := g.size; omega⟩
theorem Grown.ext {a b c : Heap} {v v' : Value} (g : Grown a b v v') (e : Ext b c) : Grown a c v v' :=
  ⟨Nat.le_trans g.size e.size, fun x hx hne => (e.old x (Nat.lt_of_lt_of_le hx g.size)).trans (g.block x hx hne), g.now⟩
theorem qV.grown {κ ν : Type} {h h' : Heap} {r : Nat} {ek : κ -> Value} {en : ν -> Value} {m : List (κ × ν)} {v v' : Value} (k : qV h r ek en m) (g : Grown h h' v v') (hne : lC v ≠ some r) : qV h' r ek en m :=
  let ⟨es, c, hb, he⟩ := k; ⟨es, c, hb.grown g hne, he⟩
theorem Ij.grown {κ ν : Type} [DecidableEq κ] {h h' : Heap} {it r : Nat} {ek : κ -> Value} {en : ν -> Value} {m rem : List (κ × ν)} {es : Array MapEntry} {clock : Nat} {seen : Array Nat} {v v' : Value}
    (i : Ij h it r ek en m rem es clock seen) (g : Grown h h' v v') (h1 : lC v ≠ some r) (h2 : lC v ≠ some it) : Ij h' it r ek en m rem es clock seen :=
  ⟨i.map.grown g h1, i.TG, i.iter.grown g h2, i.rem⟩
theorem Cc.grown {κ ν : Type} [DecidableEq κ] {h h' : Heap} {it r : Nat} {ek : κ -> Value} {en : ν -> Value} {m rem : List (κ × ν)} {v v' : Value} (i : Cc h it r ek en m rem) (g : Grown h h' v v') (h1 : lC v ≠ some r) (h2 : lC v ≠ some it) : Cc h' it r ek en m rem :=
  let ⟨es, c, s, k⟩ := i; ⟨es, c, s, k.grown g h1 h2⟩
theorem D5.grown {κ ν : Type} [DecidableEq κ] {h h' : Heap} {it r : Nat} {ek : κ -> Value} {en : ν -> Value} {m rem : List (κ × ν)} {p : κ × ν} {v v' : Value} (i : D5 h it r ek en m rem p) (g : Grown h h' v v') (h1 : lC v ≠ some r) (h2 : lC v ≠ some it) : D5 h' it r ek en m rem p :=
  let ⟨es, c, s, x, k, q⟩ := i; ⟨es, c, s, x, k.grown g h1 h2, q⟩
theorem New.grown {h h' : Heap} {o : Obj} {b : Nat} (n : New h o b h') (v : Value) : Grown h h' v v := (Grown.refl h v).ext n.ext
theorem HC.of_same {P : Program} {K : Nat} {args : Array Value} {h : Heap} {v : Value} (hc : ∀ w, Calls P K args w fun e w' => e = .returned v /\ w' = w) : HC P K args h fun u h' => u = v /\ h' = h := by
  intro w hw
  refine (hc w).mono ?_
  rintro e w' ⟨rfl, rfl⟩
  exact ⟨Kept.refl _, v, rfl, rfl, hw⟩
end Go.HL
