/- A law's arguments whose room is asked for: slices with how many bytes they take at most. -/
import Derived.Test.YtjliljlmgepmpaaArgs3
import Derived.SizedLaws
set_option linter.unusedSimpArgs false
set_option linter.unusedVariables false
set_option linter.unusedSectionVars false
namespace Go.HL
variable [DM]
open Go.ChangeShapes Go.WideShapes Go.RowKit Go.ChangeAt
/-- .. and the reading reaches no farther than a machine's room. -/
structure RdZ (P : Program) (t : TypeId) {α : Type} (enc : α → List Value) (ok : Heap → α → Prop) : Prop where
  read : ∀ {H : Type} {e : TypeId × Value → H} {w : World} {base : Nat} {sp : Nat → Bool} {held : Bool} {fuel : Nat} {cs : List Value} {x : DataW H × List MemPlace},
    DataW.trod e P w base sp held fuel t cs = some x → (∀ n ∈ x.1.weights P t, n ≤ reachBytes) → ∃ a, cs = enc a ∧ ok w.heap a
variable {P : Program} {t : TypeId} {α β γ : Type}
theorem RdZ.of {enc : α → List Value} {ok : Heap → α → Prop} (R : Rd P t enc ok) : RdZ P t enc ok := ⟨fun h _ => R.read h⟩
theorem rdz_slice {e k : Nat} {enc : α → List Value} {ok : Heap → α → Prop} (ht : P.underlying t = some (.slice e)) (hc : P.cellsOf e = k) (hk : 0 < k) (R : Rd P e enc ok) : RdZ P t encV (fun h a => okV k enc ok h a ∧ a.2.length * P.bytesOf e ≤ reachBytes) := ⟨fun {H} {en} {w} {base} {sp} {held} {fuel} {cs} {x} h hw => by
  obtain ⟨a, ha, hok⟩ := (rd_slice ht hc hk R).read h
  refine ⟨a, ha, hok, ?_⟩
  obtain ⟨v, l⟩ := a
  obtain ⟨⟨⟨p, cap0, hv, _⟩, _⟩, _⟩ := hok
  simp only at hv
  rcases DataW.trod_slice ht h with ⟨h0, _⟩ | ⟨a', len, cap, elems, rest, n, _, hcs, hx, _, _, _, hlen, _⟩
  · rw [h0] at ha
    have : v = .slice none 0 0 := by simpa [encV] using ha.symm
    rw [hv] at this
    injection this with _ q _
    rw [q]; simp
  · rw [hcs] at ha
    have e1 : v = .slice (some a') len cap := by simpa [encV] using ha.symm
    rw [hv] at e1
    injection e1 with _ q _
    have h1 := hw ((elems.length + rest.length) * P.bytesOf e) (by rw [hx]; simp [DataW.weights, ht])
    show l.length * _ ≤ _
    rw [q, ← hlen]
    exact Nat.le_trans (Nat.mul_le_mul_right _ (Nat.le_add_right _ _)) h1⟩
structure RdZF (P : Program) (fs : List Field) (o tot : Nat) {α : Type} (enc : α → List Value) (ok : Heap → α → Prop) : Prop where
  read : ∀ {H : Type} {e : TypeId × Value → H} {w : World} {base : Nat} {sp : Nat → Bool} {held : Bool} {n : Nat} {cs : List Value}, cs.length = o + tot →
    (∀ f ∈ fs, ∃ x, DataW.trod e P w base sp held n f.type ((cs.drop f.offset).take (P.cellsOf f.type)) = some x ∧ ∀ m ∈ x.1.weights P f.type, m ≤ reachBytes) → ∃ a, cs.drop o = enc a ∧ ok w.heap a
theorem RdZF.nil {o : Nat} : RdZF P [] o 0 (fun _ : Unit => []) (fun _ _ => True) := ⟨fun hl _ => ⟨(), List.drop_eq_nil_of_le (by omega), trivial⟩⟩
theorem RdZF.cons {f : Field} {fs : List Field} {o k tot : Nat} {e0 : α → List Value} {e1 : β → List Value} {o0 : Heap → α → Prop} {o1 : Heap → β → Prop} (ho : f.offset = o) (hc : P.cellsOf f.type = k) (R : RdZ P f.type e0 o0) (S : RdZF P fs (o + k) tot e1 o1) :
    RdZF P (f :: fs) o (k + tot) (fun p : α × β => e0 p.1 ++ e1 p.2) (fun h p => o0 h p.1 ∧ o1 h p.2) := ⟨fun {H} {en} {w} {base} {sp} {held} {n} {cs} hl h => by
  obtain ⟨x, hx, hw⟩ := h f (by simp)
  obtain ⟨a, ha, hok⟩ := R.read hx hw
  obtain ⟨b, hb, hob⟩ := S.read (by omega) (fun g hg => h g (by simp [hg]))
  refine ⟨(a, b), ?_, hok, hob⟩
  rw [← ha, ← hb, ho, hc, ← List.drop_drop]
  exact (List.take_append_drop k _).symm⟩
theorem rdz_struct {fs : Array Field} {tot : Nat} {enc : α → List Value} {ok : Heap → α → Prop} (ht : P.underlying t = some (.struct fs)) (hs : P.cellsOf t = tot) (F : RdZF P fs.toList 0 tot enc ok) : RdZ P t enc ok := ⟨fun {H} {en} {w} {base} {sp} {held} {fuel} {cs} {x} h hw => by
  obtain ⟨xs, n, _, hxe, hl, hxl, hx⟩ := DataW.trod_struct ht h
  obtain ⟨a, ha, hok⟩ := F.read (w := w) (e := en) (base := base) (sp := sp) (held := held) (n := n) (cs := cs) (by omega) (fun f hf => by
    obtain ⟨i, hi, rfl⟩ := List.mem_iff_getElem.1 hf
    have h1 := hx i fs[i] (by simp [Array.getElem?_eq_getElem (by simpa using hi)])
    rw [List.getElem?_eq_getElem (by rw [hxl]; simpa using hi)] at h1
    refine ⟨_, by simpa using h1, fun m hm => hw m ?_⟩
    rw [hxe]
    simp only [DataW.weights, ht]
    exact DataW.weights_mem_each (j := i) (t := fs.toList[i].type) (by rw [List.getElem?_map, List.getElem?_eq_getElem hi]; rfl) (by rw [List.getElem?_map, List.getElem?_eq_getElem (by rw [hxl]; simpa using hi)]; rfl) m (by simpa using hm))
  exact ⟨a, by simpa using ha, hok⟩⟩
theorem RdZ.arg {H : Type} {e : TypeId × Value → H} {w : World} {base : Nat} {sp : Nat → Bool} {held : Bool} {v : Value} {d : DataW H} {ps : List MemPlace} {enc : α → List Value} {ok : Heap → α → Prop} (R : RdZ P t enc ok)
    (h : DataW.Trod e P w base sp held t v d ps) (hw : ∀ n ∈ d.weights P t, n ≤ reachBytes) : ∃ a, v.cells.toList = enc a ∧ ok w.heap a := by
  obtain ⟨fuel, hf⟩ := h; exact R.read hf hw
theorem rd_8 (ht : P.underlying t = some (.int .u8)) : Rd P t Go.Wk.enc8 (fun _ _ => True) := ⟨fun h => by
  obtain ⟨n, hc, h1, h2⟩ := (rd_int ht).read h
  subst hc
  have h1 : (0 : Int) ≤ n := h1
  have h2 : n ≤ (255 : Int) := h2
  refine ⟨UInt8.ofNat n.toNat, ?_, trivial⟩
  have e : ((UInt8.ofNat n.toNat).toNat : Int) = n := by
    rw [UInt8.toNat_ofNat']; omega
  show [Value.int .u8 n] = [Value.int .u8 _]
  rw [e]⟩
theorem room_of {n b c : Nat} (e : b = c) (h : n * b ≤ reachBytes) : n * c ≤ 140737488351232 := by
  subst e
  have : reachBytes = 140737488351232 := by decide
  omega
end Go.HL
