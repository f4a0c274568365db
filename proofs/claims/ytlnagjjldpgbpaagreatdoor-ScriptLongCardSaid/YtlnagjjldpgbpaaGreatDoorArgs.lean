/- A law's arguments: what a reading of them tells, type by type, as lists and numbers; and how a row closes where the memory that was there stands. -/
import Derived.Test.YtlnagjjldpgbpaaGreatDoorOwn2
import Derived.Carry
import Derived.ChangeSame
import Derived.ChangeArms
import Derived.OpenShut
import Derived.ProofKit
set_option linter.unusedSimpArgs false
set_option linter.unusedVariables false
set_option linter.unusedSectionVars false
namespace Go.HL
variable [DM]
open Go.ChangeShapes Go.WideShapes Go.RowKit Go.ChangeAt
structure Rd (P : Program) (t : TypeId) {α : Type} (enc : α -> List Value) (ok : Heap -> α -> Prop) : Prop where
  read : ∀ {H : Type} {e : TypeId × Value -> H} {w : World} {base : Nat} {sp : Nat -> Bool} {held : Bool} {fuel : Nat} {cs : List Value} {x : DataW H × List MemPlace},
    DataW.trod e P w base sp held fuel t cs = some x -> ∃ a, cs = enc a /\ ok w.heap a
variable {P : Program} {t : TypeId} {α β γ : Type}
def adz (k : IntKind) (n : Int) : List Value := [.int k n]
def okK (k : IntKind) (_ : Heap) (n : Int) : Prop := k.min <= n /\ n <= k.max
theorem ZI {k : IntKind} (ht : P.underlying t = some (.int k)) : Rd P t (adz k) (okK k) := ⟨fun h => by
  obtain ⟨n, hc, _, hw⟩ := DataW.trod_int ht h
  exact ⟨n, hc, by simpa [Lit.wf, okK] using hw⟩⟩
theorem X9 (ht : P.underlying t = some .bool) : Rd P t EF (fun _ _ => True) := ⟨fun h => by
  obtain ⟨n, hc, _⟩ := DataW.trod_bool ht h
  exact ⟨n, hc, trivial⟩⟩
theorem Rd.imp {enc : α -> List Value} {enc' : β -> List Value} {ok : Heap -> α -> Prop} {ok' : Heap -> β -> Prop} (r : Rd P t enc ok) (f : α -> β) (he : ∀ a, enc a = enc' (f a)) (hok : ∀ h a, ok h a -> ok' h (f a)) : Rd P t enc' ok' := ⟨fun h => by
  obtain ⟨a, hc, ha⟩ := r.read h
  exact ⟨f a, by rw [hc, he], hok _ _ ha⟩⟩
structure RdF (P : Program) (fs : List Field) (o tot : Nat) {α : Type} (enc : α -> List Value) (ok : Heap -> α -> Prop) : Prop where
  read : ∀ {H : Type} {e : TypeId × Value -> H} {w : World} {base : Nat} {sp : Nat -> Bool} {held : Bool} {n : Nat} {cs : List Value}, cs.length = o + tot ->
    (∀ f ∈ fs, ∃ x, DataW.trod e P w base sp held n f.type ((cs.drop f.offset).take (P.cellsOf f.type)) = some x) -> ∃ a, cs.drop o = enc a /\ ok w.heap a
theorem RdF.nil {o : Nat} : RdF P [] o 0 (fun _ : Unit => []) (fun _ _ => True) := ⟨fun hl _ => ⟨(), List.drop_eq_nil_of_le (by omega), trivial⟩⟩
theorem RdF.cons {f : Field} {fs : List Field} {o k tot : Nat} {e0 : α -> List Value} {e1 : β -> List Value} {o0 : Heap -> α -> Prop} {o1 : Heap -> β -> Prop} (ho : f.offset = o) (hc : P.cellsOf f.type = k) (R : Rd P f.type e0 o0) (S : RdF P fs (o + k) tot e1 o1) :
    RdF P (f :: fs) o (k + tot) (fun p : α × β => e0 p.1 ++ e1 p.2) (fun h p => o0 h p.1 /\ o1 h p.2) := ⟨fun {H} {en} {w} {base} {sp} {held} {n} {cs} hl h => by
  obtain ⟨x, hx⟩ := h f (by simp)
  obtain ⟨a, ha, hok⟩ := R.read hx
  obtain ⟨b, hb, hob⟩ := S.read (by omega) (fun g hg => h g (by simp [hg]))
  refine ⟨(a, b), ?_, hok, hob⟩
  rw [← ha, ← hb, ho, hc, ← List.drop_drop]
  exact (List.take_append_drop k _).symm⟩
theorem Rd.arg {H : Type} {e : TypeId × Value -> H} {w : World} {base : Nat} {sp : Nat -> Bool} {held : Bool} {v : Value} {d : DataW H} {ps : List MemPlace} {enc : α -> List Value} {ok : Heap -> α -> Prop} (R : Rd P t enc ok)
    (h : DataW.Trod e P w base sp held t v d ps) : ∃ a, v.cells.toList = enc a /\ ok w.heap a := by
  obtain ⟨fuel, hf⟩ := h; exact R.read hf
theorem cells_one {v u : Value} (hv : v.oneCell' = true) (h : v.cells.toList = [u]) : v = u := by
  cases v <;> first | (simp [Value.cells] at h; exact h) | (simp [Value.oneCell'] at hv)
theorem XJ {w w' : World} (k : Kept w w') (e : Ext w.heap w'.heap) : Below w.heap.size w w' := ⟨k.os, k.tape, k.output, e.size, e.old⟩
theorem KL {H : Type} {enc : TypeId × Value -> H} {w : World} {base : Nat} {sp : Nat -> Bool} {held : Bool} : ∀ {ts : List TypeId} {vs : List Value} {ds : List (DataW H)} {ps : List MemPlace}, DataW.TrodAll enc P w base sp held ts vs ds ps -> ds.length = ts.length
  | [], [], [], _, _ => rfl
  | [], [], _ :: _, _, h => h.elim
  | [], _ :: _, _, _, h => h.elim
  | _ :: _, [], _, _, h => h.elim
  | _ :: _, _ :: _, [], _, h => h.elim
  | _ :: _, _ :: _, _ :: _, _, ⟨_, _, _, h, _⟩ => by simp [KL h]
theorem Jh {H : Type} {enc : TypeId × Value -> H} (hl : laidOutB P = true) {W W' : World} (hb : Below W.heap.size W W') {sp : Nat -> Bool} : ∀ {ts : List TypeId} {vs : List Value} {ds : List (DataW H)} {ps : List MemPlace},
    (∀ t ∈ ts, P.readableRec t = true /\ t < P.types.size) -> (∀ x ∈ ps, x.block < W.heap.size) -> (∀ x ∈ ps, sp x.block = true) -> DataW.TrodAll enc P W 0 (fun _ => true) true ts vs ds ps -> DataW.TrodAll enc P W' 0 sp true ts vs ds ps
  | [], [], [], _, _, _, _, h => h
  | [], [], _ :: _, _, _, _, _, h => h.elim
  | [], _ :: _, _, _, _, _, _, h => h.elim
  | _ :: _, [], _, _, _, _, _, h => h.elim
  | _ :: _, _ :: _, [], _, _, _, _, h => h.elim
  | t :: ts, v :: vs, d :: ds, ps, hr, hp, hs, ⟨p, q, h1, h2, e⟩ => by
    subst e
    exact ⟨p, q, WideElems.Trod_stays hl (hr t (by simp)).1 (hr t (by simp)).2 h1 (fun x hx => hb.same (hp x (by simp [hx]))) (fun x hx => hs x (by simp [hx])),
      Jh hl hb (fun t ht => hr t (by simp [ht])) (fun x hx => hp x (by simp [hx])) (fun x hx => hs x (by simp [hx])) h2, rfl⟩
theorem WG {H : Type} {enc : TypeId × Value -> H} {f : Func} {s : ChangeSpec} {apart fresh handsOn : Bool} {W W' : World} {args : Array Value} {ds gs : List (DataW H)} {before : List MemPlace} {tb : TypeId}
    (hl : laidOutB P = true) (hr : ∀ t ∈ f.params.toList, P.readableRec t = true /\ t < P.types.size) (hres : f.resultTypes = #[tb]) (hb : P.underlying tb = some .bool) (hv : s.vars = [])
    (hfn : ∀ ds : List (DataW H), ds.length = f.params.size -> s.fn H ds = { results := [.lit (.bool true)], args := ds })
    (hW : DataW.Whole enc P f.params.toList s.vars apart W args.toList ds gs before) (hB : Below W.heap.size W W') : s.post enc P f apart fresh handsOn false W args (.bool true) W' := by
  have hW' := hW
  obtain ⟨p, q, hA, hV, rfl, hfz, hnd⟩ := hW
  rw [hv] at hV
  obtain ⟨rfl, rfl⟩ := trodVars_none hV
  have hlen := KL hA
  have e := hfn ds (by simpa using hlen)
  have hlt : ∀ x ∈ p, x.block < W.heap.size := fun x hx => hW'.lt x (by simpa using hx)
  have e2 : s.fn H (ds ++ []) = { results := [.lit (.bool true)], args := ds } := by rw [List.append_nil]; exact e
  refine ⟨ds, [], p ++ [], [], p, [], hW', ?_, ?_, ?_, World.keptBut_mono (fun x hx => ⟨hx, by right; simpa using hx⟩) (hB.frame _), fun h => by cases h⟩
  · rw [e2, hres]; exact trodAll_cons_mk (p := []) (p' := []) (shut_bool hb true) trodAll_mk0
  · rw [e2]; exact Jh hl hB hr hlt (fun x hx => by simpa using hlt x hx) hA
  · rw [e2, hv]; exact rfl
end Go.HL
