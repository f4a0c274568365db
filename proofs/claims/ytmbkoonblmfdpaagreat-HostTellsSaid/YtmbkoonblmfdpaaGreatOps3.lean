/- More operations: a slice made, a struct stored whole. -/
import Derived.Test.YtmbkoonblmfdpaaGreatOwn2
import Derived.Laws.CopyRow
import Derived.Laws.MakeOwn
set_option linter.unusedSimpArgs false
set_option linter.unusedVariables false
set_option linter.unusedSectionVars false
namespace Go.HL
variable [DM]
section
variable {P : Program} {f : kT} {h : Heap} {ty : TypeId} {α : Type} {enc : α -> List Value}
theorem MV {T k : Nat} {x y : Operand} {b o : Nat} {c vs c' : Array Value} {E : TypeId} (hT : KF P T k) (hb : dW h b (.cells c E (0, 0))) (hx : ev f x = .pointer (some ⟨b, o, none⟩)) (hy : ev f y = .agg vs)
    (hk : vs.size = k) (h1 : ∀ v ∈ vs.toList, v.oneCell' = true) (hle : o + vs.size <= c.size) (hc : (c.toList.take o ++ vs.toList ++ c.toList.drop (o + vs.size)).toArray = c') :
    ES P (.store T x y) ty f h (fun h' => N9 h b (.cells c' E (0, 0)) h') := by
  intro dst pos after guard w hw
  subst hw
  have hst := run_storeCells_at (P := P) b o E vs.toList 0 c w hb (by simpa using hle) h1
  have hheap : (w.setRow b c').heap = w.heap.setIfInBounds b (.cells c' E (0, 0)) := by
    have hlt := hb.lt
    have hbe : w.heap[b] = .cells c E (0, 0) := by have := hb; unfold dW at this; rw [Array.getElem?_eq_getElem hlt] at this; injection this
    unfold World.setRow
    apply Array.ext
    · simp
    · intro i h1 h2
      simp only [Array.size_modify] at h1
      rw [Array.getElem_modify, Array.getElem_setIfInBounds]
      by_cases e : b = i
      · subst e; simp only [if_true]; rw [hbe]
      · simp only [e, if_false]
      · exact h1
  refine ⟨w.setRow b c', ?_, ⟨rfl, rfl, rfl, fun _ => Nat.le_refl _⟩, ⟨hb.lt, hheap⟩⟩
  simp only [Nat.add_zero, Array.length_toList, hc] at hst
  simp only [execOp, hx, hy, Instr.storeAt, Instr.sureAddr, storeVar, Sem.run_bind, pure, Sem.run, Result.andThen_ok, hT.size w]
  have hcs : (Value.agg vs).cells = vs := rfl
  simp [hcs, hk, storeCells, bind, Sem.bind]
  rw [hst]; rfl
theorem aa4 (enc : α -> List Value) (z0 : α) (z : Array Value) (k n : Nat) (hk : 0 < k) (hz : enc z0 = z.toList) (hs : z.size = k) : (madeCells z (n * k)).toList = (List.replicate n z0).flatMap enc := by
  have he : ∀ x ∈ List.replicate n z0, (enc x).length = k := by intro x hx; rw [(List.mem_replicate.1 hx).2, hz]; simpa using hs
  apply List.ext_getElem?
  intro j
  by_cases hj : j < n * k
  · have hq : j / k < (List.replicate n z0).length := by rw [List.length_replicate, Nat.div_lt_iff_lt_mul hk]; exact hj
    have hm : j % k < k := Nat.mod_lt _ hk
    have h1 := flat_get enc k _ he (j / k) hq (j % k) hm
    rw [Nat.mul_comm (j / k) k, Nat.div_add_mod] at h1
    rw [h1, List.getElem_replicate, hz]
    have h2 : j % k < z.size := by omega
    simp [madeCells, hj, hs]
    rw [getElem!_pos z (j % k) h2, Array.getElem?_eq_getElem h2]
  · have hl := x9 enc k _ he
    rw [List.length_replicate] at hl
    rw [List.getElem?_eq_none (by simp [madeCells]; omega), List.getElem?_eq_none (by rw [hl]; omega)]
end
end Go.HL
