/- A law's arguments whose room is asked for: slices with how many bytes they take at most. -/
import Derived.Test.YtmbkoonblmfdpaaGreatArgs3
import Derived.SizedLaws
set_option linter.unusedSimpArgs false
set_option linter.unusedVariables false
set_option linter.unusedSectionVars false
namespace Go.HL
variable [DM]
open Go.ChangeShapes Go.WideShapes Go.RowKit Go.ChangeAt
structure RdZ (P : Program) (t : TypeId) {α : Type} (enc : α -> List Value) (ok : Heap -> α -> Prop) : Prop where
  read : ∀ {H : Type} {e : TypeId × Value -> H} {w : World} {base : Nat} {sp : Nat -> Bool} {held : Bool} {fuel : Nat} {cs : List Value} {x : DataW H × List MemPlace},
    DataW.trod e P w base sp held fuel t cs = some x -> (∀ n ∈ x.1.weights P t, n <= reachBytes) -> ∃ a, cs = enc a /\ ok w.heap a
variable {P : Program} {t : TypeId} {α β γ : Type}
theorem RdZ.of {enc : α -> List Value} {ok : Heap -> α -> Prop} (R : Rd P t enc ok) : RdZ P t enc ok := ⟨fun h _ => R.read h⟩
structure adA (P : Program) (fs : List Field) (o tot : Nat) {α : Type} (enc : α -> List Value) (ok : Heap -> α -> Prop) : Prop where
  read : ∀ {H : Type} {e : TypeId × Value -> H} {w : World} {base : Nat} {sp : Nat -> Bool} {held : Bool} {n : Nat} {cs : List Value}, cs.length = o + tot ->
    (∀ f ∈ fs, ∃ x, DataW.trod e P w base sp held n f.type ((cs.drop f.offset).take (P.cellsOf f.type)) = some x /\ ∀ m ∈ x.1.weights P f.type, m <= reachBytes) -> ∃ a, cs.drop o = enc a /\ ok w.heap a
theorem adA.nil {o : Nat} : adA P [] o 0 (fun _ : Unit => []) (fun _ _ => True) := ⟨fun hl _ => ⟨(), List.drop_eq_nil_of_le (by omega), trivial⟩⟩
theorem adA.cons {f : Field} {fs : List Field} {o k tot : Nat} {e0 : α -> List Value} {e1 : β -> List Value} {o0 : Heap -> α -> Prop} {o1 : Heap -> β -> Prop} (ho : f.offset = o) (hc : P.cellsOf f.type = k) (R : RdZ P f.type e0 o0) (S : adA P fs (o + k) tot e1 o1) :
    adA P (f :: fs) o (k + tot) (fun p : α × β => e0 p.1 ++ e1 p.2) (fun h p => o0 h p.1 /\ o1 h p.2) := ⟨fun {H} {en} {w} {base} {sp} {held} {n} {cs} hl h => by
  obtain ⟨x, hx, hw⟩ := h f (by simp)
  obtain ⟨a, ha, hok⟩ := R.read hx hw
  obtain ⟨b, hb, hob⟩ := S.read (by omega) (fun g hg => h g (by simp [hg]))
  refine ⟨(a, b), ?_, hok, hob⟩
  rw [← ha, ← hb, ho, hc, ← List.drop_drop]
  exact (List.take_append_drop k _).symm⟩
theorem RdZ.arg {H : Type} {e : TypeId × Value -> H} {w : World} {base : Nat} {sp : Nat -> Bool} {held : Bool} {v : Value} {d : DataW H} {ps : List MemPlace} {enc : α -> List Value} {ok : Heap -> α -> Prop} (R : RdZ P t enc ok)
    (h : DataW.Trod e P w base sp held t v d ps) (hw : ∀ n ∈ d.weights P t, n <= reachBytes) : ∃ a, v.cells.toList = enc a /\ ok w.heap a := by
  obtain ⟨fuel, hf⟩ := h; exact R.read hf hw
end Go.HL
