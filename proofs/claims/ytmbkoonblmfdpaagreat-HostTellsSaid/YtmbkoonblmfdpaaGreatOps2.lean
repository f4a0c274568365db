/- More operations: structs built and written, rows laid, slices cut. -/
import Derived.Test.YtmbkoonblmfdpaaGreatOwn
set_option linter.unusedSimpArgs false
set_option linter.unusedVariables false
set_option linter.unusedSectionVars false
namespace Go.HL
variable [DM]
theorem at_nil (listed : Array Bool) (h : Heap) : Dy.at_ [] listed h := fun _ hc => by cases hc
section
variable {ops : Array Oper} {f : kT}
theorem aF {j d : Nat} {b t : Bool} (hj : (ops[j]?).bind (·.dst) = some d) (hv : f d = .bool t) (g : t = b) : Want ops (some (j, b)) f := ⟨d, hj, by rw [hv, g]⟩
theorem aG {j d : Nat} {b t : Bool} (hj : (ops[j]?).bind (·.dst) = some d) (hv : f d = .bool t) (g : t = (!b)) : Past ops (some (j, b)) f := ⟨d, hj, .inl (by rw [hv, g])⟩
end
section
variable {P : Program} {f : kT} {h : Heap} {ty : TypeId}
theorem bI {c a b : Operand} {t : Bool} {v : Value} (r : Bool) (hc : ev f c = .bool t) (g : t = r) (hv : (bif r then ev f a else ev f b) = v) : QV P (.pick c a b) ty f h v := by
  subst g; exact lU hc hv
structure Bc (P : Program) (t : Nat) (pl : Array (Nat × Nat)) (zc : Array Value) : Prop where
  run : ∀ (parts : Array (Nat × Value)) (cells : Array Value) (w : World), Instr.fill (pl[·]?) zc parts.toList = some cells -> (Instr.build t parts).run P w = .ok (.agg cells) w
theorem Dz {t : Nat} {fields : Array Field} {z : Value} {zc : Array Value} {pl : Array (Nat × Nat)} (hu : ∀ w, (underlying t).run P w = .ok (.struct fields) w) (hz : ∀ w, (zeroValue t).run P w = .ok z w) (hzc : z.cells = zc)
    (hpl : ∀ w, Sem.run P (fields.mapM fun (f : Field) => do pure (f.offset, ← sizeOf f.type)) w = .ok pl w) : Bc P t pl zc := by
  subst hzc
  refine ⟨fun parts cells w hf => ?_⟩
  unfold Instr.build
  simp only [Sem.run_bind, hz w, hu w, Result.andThen_ok, hpl w, hf]
  rfl
theorem oz {t : Nat} {pl : Array (Nat × Nat)} {zc : Array Value} {lp : List (Nat × Operand)} {cells : Array Value} (hp : Bc P t pl zc)
    (hf : Instr.fill (pl[·]?) zc (lp.map fun x => (x.1, ev f x.2)) = some cells) : QV P (.build t lp.toArray) ty f h (.agg cells) := by
  intro dst pos after guard w _
  have : (lp.toArray.map fun x => (x.1, ev f x.2)) = (lp.map fun x => (x.1, ev f x.2)).toArray := by simp
  simp only [execOp]
  rw [show (fun (x : Nat × Operand) => match x with | (i, x) => (i, ev f x)) = fun x => (x.1, ev f x.2) from rfl, this]
  rw [Sem.run_bind, hp.run _ cells w (by simpa using hf)]
  rfl
structure Ql (P : Program) (T E k : Nat) (zc : Array Value) : Prop where
  run : ∀ (len : Nat) (parts : Array (Nat × Value)) (cells : Array Value) (w : World), len * k <= 16777216 -> 0 < len * k ->
    Instr.fill (fun i => some (i * k, k)) ((Array.range (len * k)).map (zc[· % zc.size]!)) parts.toList = some cells ->
    (Instr.buildSlice T len parts).run P w = .ok (.slice (some ⟨w.heap.size, 0, none⟩) len len) (w.alloc (.cells cells E (0, 0)))
  empty : ∀ (w : World), (Instr.buildSlice T 0 #[]).run P w = .ok (.slice (some ⟨w.heap.size, 0, none⟩) 0 0) (w.alloc (.cells #[] E (0, 0)))
theorem Zh {T E k : Nat} {z : Value} {zc : Array Value} (hT : Ed P T E k) (hz : Eu P E z) (hzc : z.cells = zc) : Ql P T E k zc := by
  subst hzc
  refine ⟨?_, ?_⟩
  · intro len parts cells w hle hpos hf
    have h1 : ¬ (len * k > 2 ^ 24) := by omega
    have h2 : ¬ (len * k = 0) := by omega
    unfold Instr.buildSlice
    simp only [Sem.run_bind, run_underlying hT.und, Result.andThen_ok, hT.size w, h1, h2, if_false, hz w, pure, Sem.run, hf, newRow, newObj]
    rfl
  · intro w
    unfold Instr.buildSlice
    simp only [Sem.run_bind, run_underlying hT.und, Result.andThen_ok, hT.size w, Nat.zero_mul, pure, Sem.run, if_true]
    simp [Instr.fill, newRow, newObj, Sem.run, bind, Sem.bind, pure]
    congr 2
    simp [Array.range]
theorem ae1 {T E k len : Nat} {zc : Array Value} {lp : List (Nat × Operand)} {cells : Array Value} (aaT : Array Value) (hT : Ql P T E k zc) (hle : len * k <= 16777216) (hpos : 0 < len * k)
    (hzr : ((Array.range (len * k)).map (zc[· % zc.size]!)) = aaT) (hf : Instr.fill (fun i => some (i * k, k)) aaT (lp.map fun x => (x.1, ev f x.2)) = some cells) :
    EV P (.buildSlice T len lp.toArray) ty f h (fun v h' => ∃ b, v = .slice (some ⟨b, 0, none⟩) len len /\ New h (.cells cells E (0, 0)) b h') := by
  intro dst pos after guard w hw
  subst hzr
  have : (lp.toArray.map fun x => (x.1, ev f x.2)) = (lp.map fun x => (x.1, ev f x.2)).toArray := by simp
  refine ⟨_, w.alloc (.cells cells E (0, 0)), ?_, ⟨rfl, rfl, rfl, fun _ => Nat.le_refl _⟩, w.heap.size, rfl, ⟨?_, ?_⟩⟩
  · simp only [execOp]
    rw [show (fun (x : Nat × Operand) => match x with | (i, x) => (i, ev f x)) = fun x => (x.1, ev f x.2) from rfl, this]
    rw [Sem.run_bind, hT.run len _ cells w hle hpos (by simpa using hf)]
    rfl
  · rw [← hw]; rfl
  · rw [← hw]
theorem ZM {T E k : Nat} {zc : Array Value} (hT : Ql P T E k zc) :
    EV P (.buildSlice T 0 #[]) ty f h (fun v h' => ∃ b, v = .slice (some ⟨b, 0, none⟩) 0 0 /\ New h (.cells #[] E (0, 0)) b h') := by
  intro dst pos after guard w hw
  refine ⟨_, w.alloc (.cells #[] E (0, 0)), ?_, ⟨rfl, rfl, rfl, fun _ => Nat.le_refl _⟩, w.heap.size, rfl, ⟨?_, ?_⟩⟩
  · simp only [execOp]
    simp only [Array.map_empty]
    rw [Sem.run_bind, hT.empty w]
    rfl
  · rw [← hw]; rfl
  · rw [← hw]
theorem Xb {T : TypeId} {x y : Operand} {b o : Nat} {c : Array Value} {E : TypeId} {v : Value} {c' : Array Value} (hT : Ji P T) (hb : dW h b (.cells c E (0, 0)))
    (hx : ev f x = .pointer (some ⟨b, o, none⟩)) (hy : ev f y = v) (hv : v.cells = #[v]) (h1 : v.oneCell' = true) (ho : o < c.size) (hc : c.setIfInBounds o v = c') :
    ES P (.store T x y) ty f h (fun h' => N9 h b (.cells c' E (0, 0)) h') := by
  intro dst pos after guard w hw
  subst hw
  have hcell : w.cell? ⟨b, o, none⟩ = some c[o] := by rw [Pj, QM hb, Array.getElem?_eq_getElem ho]
  have hfr : w.frozen? ⟨b, o, none⟩ = false := by unfold World.frozen?; rw [show w.heap[b]? = some (.cells c E (0, 0)) from hb]; simp
  have hst : (store ⟨b, o, none⟩ v).run P w = .ok () (w.setCell ⟨b, o, none⟩ v) := by rw [run_store P w _ v .plain h1, hcell]; simp [hfr]
  have hheap : (w.setCell ⟨b, o, none⟩ v).heap = w.heap.setIfInBounds b (.cells c' E (0, 0)) := by
    have hlt := hb.lt
    have hbe : w.heap[b] = .cells c E (0, 0) := by have := hb; unfold dW at this; rw [Array.getElem?_eq_getElem hlt] at this; injection this
    unfold World.setCell
    apply Array.ext
    · simp
    · intro i h1 h2
      simp only [Array.size_modify] at h1
      rw [Array.getElem_modify, Array.getElem_setIfInBounds]
      by_cases e : b = i
      · subst e; simp only [if_true]; rw [hbe, ← hc]; rfl
      · simp only [e, if_false]
      · exact h1
  refine ⟨w.setCell ⟨b, o, none⟩ v, ?_, ⟨rfl, rfl, rfl, fun _ => Nat.le_refl _⟩, ⟨hb.lt, hheap⟩⟩
  have hadd : (⟨b, o, none⟩ : Addr).add 0 = ⟨b, o, none⟩ := by rw [Dx]; rfl
  simp only [execOp, hx, hy, Instr.storeAt, Instr.sureAddr, storeVar, Sem.run_bind, pure, Sem.run, Result.andThen_ok, hv, hT.size w]
  simp [storeCells, hadd, hst, bind, Sem.bind]
  rw [Sem.run_bind', hst]; rfl
theorem abX {T : Nat} {ts : Array TypeId} {x : Operand} {s : ByteArray} (hT : P.underlying T = some .string) (hx : ev f x = .string s) (ht : ts[0]? = some T) :
    QV P (.call ⟨.builtin .len, #[x], ts⟩) ty f h (.int .i64 (s.size : Int)) := by
  intro dst pos after guard w _
  simp [execOp, resolve, invoke, builtin, hx, Builtin.len_, ht, run_underlying hT, goInt, go_sem]
end
def afl (tmps : Array Value) : ResultVar -> Sem Value
  | .tmp t => pure (tmps.getD t undef)
  | .cell t T => do loadVar T (← asAddr (tmps.getD t undef))
theorem Uz (fn : Func) (tmps : Array Value) : results fn tmps = (do
    let vs ← fn.results.mapM (afl tmps)
    pure (if h : vs.size = 1 then vs[0] else .tuple vs)) := by
  unfold results
  congr 1
def Zb (P : Program) (r : ResultVar) (f : kT) (h : Heap) (v : Value) : Prop :=
  ∀ (a : Act) (w : World), sl a = f -> w.heap = h -> (afl a.tmps r).run P w = .ok v w
section
variable {P : Program} {f : kT} {h : Heap}
theorem rt {t : Nat} {v : Value} (hv : f t = v) : Zb P (.tmp t) f h v := by
  rintro a w rfl _; subst hv; rfl
theorem Tu {t T k b o : Nat} {cs : List Value} (hT : KF P T k) (hx : f t = .pointer (some ⟨b, o, none⟩)) (hl : cs.length = k)
    (hc : ∀ j (hj : j < cs.length), hcell h b (o + j) = some cs[j]) : Zb P (.cell t T) f h (.agg cs.toArray) := by
  rintro a w rfl hw
  have := Ls (P := P) (b := b) (o := o) k 0 #[] cs w hl (by simpa [hw] using hc)
  simp only [sl] at hx
  simp only [afl, hx, asAddr, Sem.run_bind, pure, Sem.run, Result.andThen_ok]
  simp [loadVar, hT.agg w, hT.size w, loadCells, this, go_sem]
theorem res1 {fn : Func} {r : ResultVar} (hr : fn.results = #[r]) {v : Value} (h1 : Zb P r f h v) : ∀ a w, sl a = f -> w.heap = h -> (results fn a.tmps).run P w = .ok v w := by
  intro a w ha hw
  have e1 := h1 a w ha hw
  rw [Uz, hr]
  simp [Sem.run_bind, e1, pure, Sem.run]
theorem Pn {fn : Func} {r s : ResultVar} (hr : fn.results = #[r, s]) {v x : Value} (h1 : Zb P r f h v) (h2 : Zb P s f h x) : ∀ a w, sl a = f -> w.heap = h -> (results fn a.tmps).run P w = .ok (.tuple #[v, x]) w := by
  intro a w ha hw
  have e1 := h1 a w ha hw
  have e2 := h2 a w ha hw
  rw [Uz, hr]
  simp [Sem.run_bind, e1, e2, pure, Sem.run]
end
end Go.HL
