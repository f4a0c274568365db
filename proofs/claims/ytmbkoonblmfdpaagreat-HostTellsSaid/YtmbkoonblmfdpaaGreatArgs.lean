/- A law's arguments: what a reading of them tells, type by type, as lists and numbers; and how a row closes where the memory that was there stands. -/
import Derived.Test.YtmbkoonblmfdpaaGreatOwn2
import Derived.Carry
import Derived.ChangeSame
import Derived.ChangeArms
import Derived.OpenShut
import Derived.ProofKit
set_option linter.unusedSimpArgs false
set_option linter.unusedVariables false
set_option linter.unusedSectionVars false
namespace Go.HL
variable [DM]
open Go.ChangeShapes Go.WideShapes Go.RowKit Go.ChangeAt
structure Rd (P : Program) (t : TypeId) {α : Type} (enc : α -> List Value) (ok : Heap -> α -> Prop) : Prop where
  read : ∀ {H : Type} {e : TypeId × Value -> H} {w : World} {base : Nat} {sp : Nat -> Bool} {held : Bool} {fuel : Nat} {cs : List Value} {x : DataW H × List MemPlace},
    DataW.trod e P w base sp held fuel t cs = some x -> ∃ a, cs = enc a /\ ok w.heap a
variable {P : Program} {t : TypeId} {α β γ : Type}
def aje (k : IntKind) (n : Int) : List Value := [.int k n]
def okK (k : IntKind) (_ : Heap) (n : Int) : Prop := k.min <= n /\ n <= k.max
theorem afm {k : IntKind} (ht : P.underlying t = some (.int k)) : Rd P t (aje k) (okK k) := ⟨fun h => by
  obtain ⟨n, hc, _, hw⟩ := DataW.trod_int ht h
  exact ⟨n, hc, by simpa [Lit.wf, okK] using hw⟩⟩
theorem Xc (ht : P.underlying t = some .bool) : Rd P t Af (fun _ _ => True) := ⟨fun h => by
  obtain ⟨n, hc, _⟩ := DataW.trod_bool ht h
  exact ⟨n, hc, trivial⟩⟩
theorem Rd.imp {enc : α -> List Value} {enc' : β -> List Value} {ok : Heap -> α -> Prop} {ok' : Heap -> β -> Prop} (r : Rd P t enc ok) (f : α -> β) (he : ∀ a, enc a = enc' (f a)) (hok : ∀ h a, ok h a -> ok' h (f a)) : Rd P t enc' ok' := ⟨fun h => by
  obtain ⟨a, hc, ha⟩ := r.read h
  exact ⟨f a, by rw [hc, he], hok _ _ ha⟩⟩
theorem YN {f : α -> Option β} : ∀ {l : List α} {r : List β}, l.mapM f = some r -> r.length = l.length /\ ∀ j (h1 : j < l.length) (h2 : j < r.length), f l[j] = some r[j]
  | [], r, h => by simp at h; subst h; exact ⟨rfl, fun j h1 => absurd h1 (by simp)⟩
  | x :: l, r, h => by
    rw [List.mapM_cons] at h
    cases hx : f x with
    | none => rw [hx] at h; simp at h
    | some y =>
      cases hl : l.mapM f with
      | none => rw [hx, hl] at h; simp at h
      | some r' =>
        rw [hx, hl] at h; simp at h; subst h
        obtain ⟨h1, h2⟩ := YN hl
        refine ⟨by simp [h1], fun j k1 k2 => ?_⟩
        cases j with
        | zero => simpa using hx
        | succ j => simpa using h2 j (by simpa using k1) (by simpa using k2)
theorem ZO {w : World} {base : Nat} {a : Addr} {n : Nat} {cs : List Value} (h : w.cells? base a n = some cs) : cs.length = n /\ ∀ j (hj : j < cs.length), w.cell? (a.add j) = some cs[j] := by
  unfold World.cells? at h
  split at h
  · obtain ⟨h1, h2⟩ := YN h
    refine ⟨by simpa using h1, fun j hj => ?_⟩
    have := h2 j (by rw [← h1]; exact hj) hj
    simpa using this
  · cases h
theorem cell?_spot {w : World} {a : Addr} {v : Value} (h : w.cell? a = some v) : a = ⟨a.block, a.off, none⟩ /\ hcell w.heap a.block a.off = some v := by
  unfold World.cell? at h
  unfold hcell
  split at h
  · rename_i c T fr hb
    split at h
    · cases h
    · rename_i hs
      refine ⟨?_, by rw [hb]; exact h⟩
      obtain ⟨b, o, s⟩ := a
      cases s with
      | none => rfl
      | some x => simp at hs
  · cases h
theorem add_block (a : Addr) (n : Nat) : (a.add n).block = a.block := by unfold Addr.add; split <;> rfl
theorem aes (a : Addr) (n : Nat) : (a.add n).off = a.off + n := by
  unfold Addr.add; split
  · rename_i h; simp [h]
  · rfl
theorem add_add (a : Addr) (n m : Nat) : (a.add n).add m = a.add (n + m) := by
  unfold Addr.add; split
  · rename_i h; simp [h]
  · rename_i h; split
    · rename_i h'; simp [h', h]
    · rename_i h'; rw [if_neg (by omega)]; simp [Nat.add_assoc]
def ajd (p : Value × List α) : List Value := [p.1]
def okV (k : Nat) (enc : α -> List Value) (ok : Heap -> α -> Prop) (h : Heap) (p : Value × List α) : Prop := gY h k enc p.1 p.2 /\ ∀ x ∈ p.2, ok h x
theorem aap (len : Nat) (Q : Nat -> α -> Prop) (each : ∀ i, i < len -> ∃ x, Q i x) : ∃ l : List α, l.length = len /\ ∀ i (hi : i < l.length), Q i l[i] := by
  induction len with
  | zero => exact ⟨[], rfl, fun i hi => absurd hi (by simp)⟩
  | succ m ih =>
    obtain ⟨l, h1, h2⟩ := ih (fun i hi => each i (by omega))
    obtain ⟨x, hx⟩ := each m (by omega)
    refine ⟨l ++ [x], by simp [h1], fun i hi => ?_⟩
    by_cases e : i < l.length
    · simpa [List.getElem_append_left e] using h2 i e
    · have : i = m := by simp at hi; omega
      subst this; subst h1
      simpa using hx
theorem Yk {e k : Nat} {enc : α -> List Value} {ok : Heap -> α -> Prop} (ht : P.underlying t = some (.slice e)) (hc : P.cellsOf e = k) (hk : 0 < k) (R : Rd P e enc ok) : Rd P t ajd (okV k enc ok) := ⟨fun {H} {en} {w} {base} {sp} {held} {fuel} {cs} {x} h => by
  rcases DataW.trod_slice ht h with ⟨h0, _⟩ | ⟨a, len, cap, elems, rest, n, _, hcs, _, hb, hl, hm, hlen, hel, _, _⟩
  · exact ⟨(.slice none 0 0, []), h0, gY.nil _ _ _, by simp⟩
  · have each : ∀ i (hi : i < len), ∃ x : α, ok w.heap x /\ (enc x).length = k /\ ∀ j (hj : j < (enc x).length), w.cell? (a.add (i * k + j)) = some (enc x)[j] := by
      intro i hi
      have h1 := hel i hi
      rw [List.getElem?_eq_getElem (by omega), Option.bind_eq_some_iff, hc] at h1
      obtain ⟨cs', h2, h3⟩ := h1
      obtain ⟨x, rfl, hok⟩ := R.read h3
      obtain ⟨h4, h5⟩ := ZO h2
      exact ⟨x, hok, h4, fun j hj => by have := h5 j hj; rwa [add_add] at this⟩
    obtain ⟨l, hll, hle⟩ := aap len _ each
    have hml : maxLen = 9223372036854775807 := rfl
    refine ⟨(.slice (some a) len cap, l), hcs, ⟨⟨some a, cap, by rw [hll], by show l.length <= cap; omega, by omega, ?_⟩, ?_⟩, ?_⟩
    · by_cases hl0 : l = []
      · exact .inl hl0
      · have hp : 0 < l.length := List.length_pos_iff.2 hl0
        have h0 := (hle 0 hp).2.2 0 (by rw [(hle 0 hp).2.1]; exact hk)
        obtain ⟨ha, hce⟩ := cell?_spot h0
        have e0 : a.add (0 * k + 0) = a := by simp [Addr.add]
        rw [e0] at ha hce
        refine .inr ⟨a.block, a.off, by rw [ha], ?_, fun i hi j hj => ?_⟩
        · unfold hcell at hce
          split at hce
          · rename_i hb; exact yK hb
          · cases hce
        · have := (cell?_spot ((hle i hi).2.2 j hj)).2
          rw [add_block, aes, ← Nat.add_assoc] at this
          exact this
    · intro y hy; obtain ⟨i, hi, rfl⟩ := List.mem_iff_getElem.1 hy; exact (hle i hi).2.1
    · intro y hy; obtain ⟨i, hi, rfl⟩ := List.mem_iff_getElem.1 hy; exact (hle i hi).1⟩
structure WO (P : Program) (fs : List Field) (o tot : Nat) {α : Type} (enc : α -> List Value) (ok : Heap -> α -> Prop) : Prop where
  read : ∀ {H : Type} {e : TypeId × Value -> H} {w : World} {base : Nat} {sp : Nat -> Bool} {held : Bool} {n : Nat} {cs : List Value}, cs.length = o + tot ->
    (∀ f ∈ fs, ∃ x, DataW.trod e P w base sp held n f.type ((cs.drop f.offset).take (P.cellsOf f.type)) = some x) -> ∃ a, cs.drop o = enc a /\ ok w.heap a
theorem WO.nil {o : Nat} : WO P [] o 0 (fun _ : Unit => []) (fun _ _ => True) := ⟨fun hl _ => ⟨(), List.drop_eq_nil_of_le (by omega), trivial⟩⟩
theorem WO.cons {f : Field} {fs : List Field} {o k tot : Nat} {e0 : α -> List Value} {e1 : β -> List Value} {o0 : Heap -> α -> Prop} {o1 : Heap -> β -> Prop} (ho : f.offset = o) (hc : P.cellsOf f.type = k) (R : Rd P f.type e0 o0) (S : WO P fs (o + k) tot e1 o1) :
    WO P (f :: fs) o (k + tot) (fun p : α × β => e0 p.1 ++ e1 p.2) (fun h p => o0 h p.1 /\ o1 h p.2) := ⟨fun {H} {en} {w} {base} {sp} {held} {n} {cs} hl h => by
  obtain ⟨x, hx⟩ := h f (by simp)
  obtain ⟨a, ha, hok⟩ := R.read hx
  obtain ⟨b, hb, hob⟩ := S.read (by omega) (fun g hg => h g (by simp [hg]))
  refine ⟨(a, b), ?_, hok, hob⟩
  rw [← ha, ← hb, ho, hc, ← List.drop_drop]
  exact (List.take_append_drop k _).symm⟩
theorem O3 {fs : Array Field} {tot : Nat} {enc : α -> List Value} {ok : Heap -> α -> Prop} (ht : P.underlying t = some (.struct fs)) (hs : P.cellsOf t = tot) (F : WO P fs.toList 0 tot enc ok) : Rd P t enc ok := ⟨fun {H} {en} {w} {base} {sp} {held} {fuel} {cs} {x} h => by
  obtain ⟨xs, n, _, _, hl, hxl, hx⟩ := DataW.trod_struct ht h
  obtain ⟨a, ha, hok⟩ := F.read (w := w) (e := en) (base := base) (sp := sp) (held := held) (n := n) (cs := cs) (by omega) (fun f hf => by
    obtain ⟨i, hi, rfl⟩ := List.mem_iff_getElem.1 hf
    have h1 := hx i fs[i] (by simp [Array.getElem?_eq_getElem (by simpa using hi)])
    rw [List.getElem?_eq_getElem (by rw [hxl]; simpa using hi)] at h1
    exact ⟨_, by simpa using h1⟩)
  exact ⟨a, by simpa using ha, hok⟩⟩
theorem Rd.arg {H : Type} {e : TypeId × Value -> H} {w : World} {base : Nat} {sp : Nat -> Bool} {held : Bool} {v : Value} {d : DataW H} {ps : List MemPlace} {enc : α -> List Value} {ok : Heap -> α -> Prop} (R : Rd P t enc ok)
    (h : DataW.Trod e P w base sp held t v d ps) : ∃ a, v.cells.toList = enc a /\ ok w.heap a := by
  obtain ⟨fuel, hf⟩ := h; exact R.read hf
theorem adu {w w' : World} (k : Kept w w') (e : Ext w.heap w'.heap) : Below w.heap.size w w' := ⟨k.os, k.tape, k.output, e.size, e.old⟩
theorem SB {H : Type} {enc : TypeId × Value -> H} {w : World} {base : Nat} {sp : Nat -> Bool} {held : Bool} : ∀ {ts : List TypeId} {vs : List Value} {ds : List (DataW H)} {ps : List MemPlace}, DataW.TrodAll enc P w base sp held ts vs ds ps -> ds.length = ts.length
  | [], [], [], _, _ => rfl
  | [], [], _ :: _, _, h => h.elim
  | [], _ :: _, _, _, h => h.elim
  | _ :: _, [], _, _, h => h.elim
  | _ :: _, _ :: _, [], _, h => h.elim
  | _ :: _, _ :: _, _ :: _, _, ⟨_, _, _, h, _⟩ => by simp [SB h]
theorem Qo {H : Type} {enc : TypeId × Value -> H} (hl : laidOutB P = true) {W W' : World} (hb : Below W.heap.size W W') {sp : Nat -> Bool} : ∀ {ts : List TypeId} {vs : List Value} {ds : List (DataW H)} {ps : List MemPlace},
    (∀ t ∈ ts, P.readableRec t = true /\ t < P.types.size) -> (∀ x ∈ ps, x.block < W.heap.size) -> (∀ x ∈ ps, sp x.block = true) -> DataW.TrodAll enc P W 0 (fun _ => true) true ts vs ds ps -> DataW.TrodAll enc P W' 0 sp true ts vs ds ps
  | [], [], [], _, _, _, _, h => h
  | [], [], _ :: _, _, _, _, _, h => h.elim
  | [], _ :: _, _, _, _, _, _, h => h.elim
  | _ :: _, [], _, _, _, _, _, h => h.elim
  | _ :: _, _ :: _, [], _, _, _, _, h => h.elim
  | t :: ts, v :: vs, d :: ds, ps, hr, hp, hs, ⟨p, q, h1, h2, e⟩ => by
    subst e
    exact ⟨p, q, WideElems.Trod_stays hl (hr t (by simp)).1 (hr t (by simp)).2 h1 (fun x hx => hb.same (hp x (by simp [hx]))) (fun x hx => hs x (by simp [hx])),
      Qo hl hb (fun t ht => hr t (by simp [ht])) (fun x hx => hp x (by simp [hx])) (fun x hx => hs x (by simp [hx])) h2, rfl⟩
theorem aco {H : Type} {enc : TypeId × Value -> H} {f : Func} {s : ChangeSpec} {apart fresh handsOn : Bool} {W W' : World} {args : Array Value} {ds gs : List (DataW H)} {before : List MemPlace} {tb : TypeId}
    (hl : laidOutB P = true) (hr : ∀ t ∈ f.params.toList, P.readableRec t = true /\ t < P.types.size) (hres : f.resultTypes = #[tb]) (hb : P.underlying tb = some .bool) (hv : s.vars = [])
    (hfn : ∀ ds : List (DataW H), ds.length = f.params.size -> s.fn H ds = { results := [.lit (.bool true)], args := ds })
    (hW : DataW.Whole enc P f.params.toList s.vars apart W args.toList ds gs before) (hB : Below W.heap.size W W') : s.post enc P f apart fresh handsOn false W args (.bool true) W' := by
  have hW' := hW
  obtain ⟨p, q, hA, hV, rfl, hfz, hnd⟩ := hW
  rw [hv] at hV
  obtain ⟨rfl, rfl⟩ := trodVars_none hV
  have hlen := SB hA
  have e := hfn ds (by simpa using hlen)
  have hlt : ∀ x ∈ p, x.block < W.heap.size := fun x hx => hW'.lt x (by simpa using hx)
  have e2 : s.fn H (ds ++ []) = { results := [.lit (.bool true)], args := ds } := by rw [List.append_nil]; exact e
  refine ⟨ds, [], p ++ [], [], p, [], hW', ?_, ?_, ?_, World.keptBut_mono (fun x hx => ⟨hx, by right; simpa using hx⟩) (hB.frame _), fun h => by cases h⟩
  · rw [e2, hres]; exact trodAll_cons_mk (p := []) (p' := []) (shut_bool hb true) trodAll_mk0
  · rw [e2]; exact Qo hl hB hr hlt (fun x hx => by simpa using hlt x hx) hA
  · rw [e2, hv]; exact rfl
end Go.HL
