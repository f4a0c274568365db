/- More operations: a slice made, a struct stored whole. -/
import Derived.Test.YtmbkoonblmfdpaaGreatOwn2
import Derived.Laws.CopyRow
import Derived.Laws.MakeOwn
set_option linter.unusedSimpArgs false
set_option linter.unusedVariables false
set_option linter.unusedSectionVars false
namespace Go.HL
variable [DM]
section
variable {P : Program} {f : Slots} {h : Heap} {ty : TypeId} {α : Type} {enc : α → List Value}
theorem s_storeAgg {T k : Nat} {x y : Operand} {b o : Nat} {c vs c' : Array Value} {E : TypeId} (hT : TAgg P T k) (hb : Blk h b (.cells c E (0, 0))) (hx : ev f x = .pointer (some ⟨b, o, none⟩)) (hy : ev f y = .agg vs)
    (hk : vs.size = k) (h1 : ∀ v ∈ vs.toList, v.oneCell' = true) (hle : o + vs.size ≤ c.size) (hc : (c.toList.take o ++ vs.toList ++ c.toList.drop (o + vs.size)).toArray = c') :
    ES P (.store T x y) ty f h (fun h' => Upd h b (.cells c' E (0, 0)) h') := by
  intro dst pos after guard w hw
  subst hw
  have hst := run_storeCells_at (P := P) b o E vs.toList 0 c w hb (by simpa using hle) h1
  have hheap : (w.setRow b c').heap = w.heap.setIfInBounds b (.cells c' E (0, 0)) := by
    have hlt := hb.lt
    have hbe : w.heap[b] = .cells c E (0, 0) := by have := hb; unfold Blk at this; rw [Array.getElem?_eq_getElem hlt] at this; injection this
    unfold World.setRow
    apply Array.ext
    · simp
    · intro i h1 h2
      simp only [Array.size_modify] at h1
      rw [Array.getElem_modify, Array.getElem_setIfInBounds]
      by_cases e : b = i
      · subst e; simp only [if_true]; rw [hbe]
      · simp only [e, if_false]
      · exact h1
  refine ⟨w.setRow b c', ?_, ⟨rfl, rfl, rfl, fun _ => Nat.le_refl _⟩, ⟨hb.lt, hheap⟩⟩
  simp only [Nat.add_zero, Array.length_toList, hc] at hst
  simp only [execOp, hx, hy, Instr.storeAt, Instr.sureAddr, storeVar, Sem.run_bind, pure, Sem.run, Result.andThen_ok, hT.size w]
  have hcs : (Value.agg vs).cells = vs := rfl
  simp [hcs, hk, storeCells, bind, Sem.bind]
  rw [hst]; rfl
end
end Go.HL
