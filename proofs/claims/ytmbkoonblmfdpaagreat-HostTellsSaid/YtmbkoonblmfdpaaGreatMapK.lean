/- Maps keyed by whatever is told apart by its cells: structs too. -/
import Derived.Test.YtmbkoonblmfdpaaGreatWk
set_option linter.unusedSimpArgs false
set_option linter.unusedVariables false
set_option linter.unusedSectionVars false
namespace Go.Wk
open Go.HL
variable [DM]
structure OY (P : Program) (K : Nat) {κ : Type} [DecidableEq κ] (ek : κ -> Value) : Prop where
  find : ∀ {ν : Type} {en : ν -> Value} (k : κ) {es : Array MapEntry} {clock : Nat} {m : List (κ × ν)}, OZ ek en es clock m -> ∀ w, (Instr.findKey K (ek k) es.toList).run P w = .ok ((m.findIdx? fun p => decide (k = p.1)).map fun j => (j, ((qU m k).map en).getD undef)) w
  plain : ∀ (e : Bool) (a : κ) (w : World), (Instr.checkKey e 10000 K (ek a)).run P w = .ok () w
  bits : ∀ a, Instr.sameBits 10000 (ek a) (ek a) = true
structure Tf (P : Program) (T K E : Nat) (z : Value) : Prop where
  und : P.underlying T = some (.map K E)
  zero : ∀ w, (zeroValue E).run P w = .ok z w
section
variable {κ ν : Type} [DecidableEq κ] {ek : κ -> Value} {en : ν -> Value} {P : Program}
theorem PW {K : Nat} (heq : ∀ a b w, (Op.equal K (ek a) (ek b)).run P w = .ok (decide (a = b)) w) (k : κ) (w : World) : ∀ (es : List MapEntry) (m : List (κ × ν)) (i : Nat), es.map (fun e => (e.key, e.val)) = m.map (fun p => (ek p.1, en p.2)) ->
    (Instr.findAsking K (ek k) es i).run P w = .ok ((m.findIdx? fun p => decide (k = p.1)).map fun j => (i + j, ((qU m k).map en).getD undef)) w
  | [], m, i, h => by
    have : m = [] := by simpa using h.symm
    subst this; simp [Instr.findAsking, Sem.run, pure]
  | e :: es, m, i, h => by
    match m, h with
    | p :: r, h =>
      simp only [List.map_cons, List.cons.injEq, Prod.mk.injEq] at h
      obtain ⟨⟨h1, h2⟩, h3⟩ := h
      rw [Instr.findAsking, h1, Sem.run_bind, heq]
      simp only [Result.andThen_ok]
      by_cases e1 : k = p.1
      · subst e1; simp [nV, h2, List.findIdx?_cons, Sem.run, pure]
      · simp only [e1, decide_false, Bool.false_eq_true, if_false]
        rw [PW heq k w es r (i + 1) h3, nV, if_neg e1, List.findIdx?_cons]
        simp only [e1, decide_false, Bool.false_eq_true, if_false, Option.map_map]
        congr 2; funext j; simp; omega
theorem Xj {K : Nat} {fs : Array Field} (hu : P.underlying K = some (.struct fs)) (hagg : ∀ a, ∃ cs, ek a = .agg cs) (heq : ∀ a b w, (Op.equal K (ek a) (ek b)).run P w = .ok (decide (a = b)) w)
    (hplain : ∀ (e : Bool) (a : κ) (w : World), (Instr.checkKey e 10000 K (ek a)).run P w = .ok () w) (aht : ∀ a, Instr.sameBits 10000 (ek a) (ek a) = true) : OY P K ek := by
  refine ⟨@fun ν en k es clock m he w => ?_, hplain, aht⟩
  unfold Instr.findKey
  rw [Sem.run_bind, run_underlying hu]
  simp only [Result.andThen_ok]
  have aiP : es.toList = [] /\ m = [] ∨ Instr.findNow (.struct fs) (ek k) es.toList 0 = none := by
    cases hl : es.toList with
    | nil => left; have := he.is; rw [hl] at this; exact ⟨rfl, by simpa using this.symm⟩
    | cons e r =>
      right
      have hi := he.is
      rw [hl] at hi
      match m, hi with
      | p :: q, hi =>
        simp only [List.map_cons, List.cons.injEq, Prod.mk.injEq] at hi
        obtain ⟨c1, h1⟩ := hagg k
        obtain ⟨c2, h2⟩ := hagg p.1
        rw [Instr.findNow, hi.1.1, h1, h2]; rfl
  rcases aiP with ⟨h1, h2⟩ | h1
  · rw [h1, h2]; rfl
  · rw [h1]
    have := PW heq k w es.toList m 0 he.is
    simp only [Nat.zero_add] at this; exact this
theorem W9 (n : Nat) (cs : List Value) (h : ∀ c ∈ cs, Instr.sameBits n c c = true) : Instr.sameBits (n + 1) (.agg cs.toArray) (.agg cs.toArray) = true := by
  have key : ∀ l : List Value, (∀ c ∈ l, Instr.sameBits n c c = true) -> (l.zip l).all (fun (x, y) => Instr.sameBits n x y) = true := by
    intro l
    induction l with
    | nil => intro _; rfl
    | cons a l ih =>
      intro h; rw [List.zip_cons_cons, List.all_cons]
      show (Instr.sameBits n a a && _) = true
      rw [h a (by simp), ih (fun c hc => h c (by simp [hc]))]; rfl
  simp [Instr.sameBits, key cs h]
theorem WZ (n : Nat) (k : IntKind) (x : Int) : Instr.sameBits n (.int k x) (.int k x) = true := by cases n <;> simp [Instr.sameBits]
theorem VN (n : Nat) (x : Bool) : Instr.sameBits n (.bool x) (.bool x) = true := by cases n <;> simp [Instr.sameBits]
theorem WY (n : Nat) (x : ByteArray) : Instr.sameBits n (.string x) (.string x) = true := by cases n <;> simp only [Instr.sameBits] <;> exact (bytes_beq x x).2 rfl
end
section
variable {κ ν : Type} [DecidableEq κ] {ek : κ -> Value} {en : ν -> Value} {P : Program} {f : kT} {h : Heap} {ty : TypeId}
theorem JZ {T K E r : Nat} {z : Value} {m : List (κ × ν)} {k : κ} (hk : OY P K ek) (hT : Tf P T K E z) (hM : qV h r ek en m) (ok : Bool) (w : World) (hw : w.heap = h) :
    (Instr.lookup T (.map (some r)) (ek k) ok).run P w = .ok (if ok then .tuple #[QE en z m k, .bool (qU m k).isSome] else QE en z m k) w := by
  obtain ⟨es, clock, hb, he⟩ := hM
  have hg : (getObj r).run P w = .ok (.map es clock) w := by
    have : w.heap[r]? = some (.map es clock) := by rw [hw]; exact hb
    simp [getObj, Sem.run, this]
  unfold Instr.lookup
  simp only [Sem.run_bind, run_underlying hT.und, Result.andThen_ok, hg, pure, Sem.run, hk.plain _ k w, hk.find k he w]
  cases hi : (m.findIdx? fun p => decide (k = p.1)) with
  | none =>
    have hn := zl.1 hi
    simp only [Option.map_none, Sem.run_bind, hT.zero w, Result.andThen_ok, Sem.run, QE, hn]
    cases ok <;> rfl
  | some j =>
    have hn : qU m k ≠ none := fun e => by rw [zl.2 e] at hi; cases hi
    obtain ⟨v, hv⟩ := Option.ne_none_iff_exists'.1 hn
    simp only [Option.map_some, Sem.run, Result.andThen_ok, QE, hv]
    cases ok <;> rfl
theorem UK {T K E r : Nat} {z : Value} {x y : Operand} {m : List (κ × ν)} {k : κ} (hk : OY P K ek) (hT : Tf P T K E z) (hM : qV h r ek en m)
    (hx : ev f x = .map (some r)) (hy : ev f y = ek k) : QV P (.lookup T x y false) ty f h (QE en z m k) := by
  intro dst pos after guard w hw
  simp [execOp, hx, hy, JZ hk hT hM false w hw]
theorem UJ {T K E r : Nat} {z : Value} {x y : Operand} {m : List (κ × ν)} {k : κ} (hk : OY P K ek) (hT : Tf P T K E z) (hM : qV h r ek en m)
    (hx : ev f x = .map (some r)) (hy : ev f y = ek k) : QV P (.lookup T x y true) ty f h (.tuple #[QE en z m k, .bool (qU m k).isSome]) := by
  intro dst pos after guard w hw
  simp [execOp, hx, hy, JZ hk hT hM true w hw]
theorem SH {T K E r : Nat} {z : Value} {x y u : Operand} {m : List (κ × ν)} {k : κ} {v : ν} (hk : OY P K ek) (hT : Tf P T K E z) (hM : qV h r ek en m)
    (hx : ev f x = .map (some r)) (hy : ev f y = ek k) (hu : ev f u = en v) :
    ES P (.mapUpdate T x y u) ty f h (fun h' => ∃ o, N9 h r o h' /\ qV h' r ek en (zU m k v)) := by
  intro dst pos after guard w hw
  obtain ⟨es, clock, hb, he⟩ := hM
  subst hw
  have hnc : ∀ c t f, Obj.map es clock ≠ .cells c t f := fun _ _ _ e => by cases e
  have hpl := hk.plain false k w
  have hfk := hk.find k he w
  cases hi : (m.findIdx? fun p => decide (k = p.1)) with
  | none =>
    have hn := zl.1 hi
    refine ⟨{ w with heap := w.heap.setIfInBounds r (.map (es.push { key := ek k, val := en v, born := clock }) (clock + 1)) }, ?_, ⟨rfl, rfl, rfl, fun _ => Nat.le_refl _⟩, _, ⟨hb.lt, rfl⟩, _, _, (show N9 _ _ _ _ from ⟨hb.lt, rfl⟩).blk rfl, he.push k v hn⟩
    simp only [execOp, hx, hy, hu, Instr.mapUpdate, Sem.run_bind, run_underlying hT.und, Result.andThen_ok, uw hb hnc, hpl, hfk, hi, Option.map_none, Az hb hnc]
    simp [pure, Sem.run]
  | some i =>
    have hkey : ((es[i]?).map (·.key)).getD (ek k) = ek k := by
      have h0 := he.is
      have hlt : i < m.length := (List.findIdx?_eq_some_iff_getElem.1 hi).1
      have hlt' : i < es.size := by have := congrArg List.length h0; simp at this; omega
      have := (List.findIdx?_eq_some_iff_getElem.1 hi).2.1
      have h1 : (es.toList.map (fun e => (e.key, e.val)))[i]'(by simpa using hlt') = (m.map fun p => (ek p.1, en p.2))[i]'(by simpa using hlt) := by simp only [h0]
      simp only [List.getElem_map, Prod.mk.injEq, Array.getElem_toList] at h1
      rw [Array.getElem?_eq_getElem hlt']
      simp only [Option.map_some, Option.getD_some]
      rw [h1.1, ← of_decide_eq_true this]
    have hst : ∀ w, (Instr.keyThatStays (ek k) (ek k)).run P w = .ok (ek k) w := fun w => by
      unfold Instr.keyThatStays; rw [if_pos (hk.bits k)]; rfl
    refine ⟨{ w with heap := w.heap.setIfInBounds r (.map (es.modify i fun e => { e with key := ek k, val := en v }) clock) }, ?_, ⟨rfl, rfl, rfl, fun _ => Nat.le_refl _⟩, _, ⟨hb.lt, rfl⟩, _, _, (show N9 _ _ _ _ from ⟨hb.lt, rfl⟩).blk rfl, he.zU k v hi⟩
    simp only [execOp, hx, hy, hu, Instr.mapUpdate, Sem.run_bind, run_underlying hT.und, Result.andThen_ok, uw hb hnc, hpl, hfk, hi, Option.map_some, hkey, hst, Az hb hnc]
    simp [pure, Sem.run]
theorem Y4 {T K E r : Nat} {z : Value} {x y : Operand} {ts : Array TypeId} {m : List (κ × ν)} {k : κ} (hk : OY P K ek) (hT : Tf P T K E z) (hM : qV h r ek en m)
    (hx : ev f x = .map (some r)) (hy : ev f y = ek k) (ht : ts[0]? = some T) :
    EV P (.call ⟨.builtin .delete, #[x, y], ts⟩) ty f h (fun v h' => v = .tuple #[] /\ ∃ o, N9 h r o h' /\ qV h' r ek en (yA m k)) := by
  intro dst pos after guard w hw
  obtain ⟨es, clock, hb, he⟩ := hM
  subst hw
  have hnc : ∀ c t f, Obj.map es clock ≠ .cells c t f := fun _ _ _ e => by cases e
  have hpl := hk.plain es.isEmpty k w
  have hfk := hk.find k he w
  have hargs : (#[x, y].map (ev f)) = #[.map (some r), ek k] := by simp [hx, hy]
  cases hi : (m.findIdx? fun p => decide (k = p.1)) with
  | none =>
    have hn := zl.1 hi
    refine ⟨.tuple #[], { w with heap := w.heap.setIfInBounds r (.map es clock) }, ?_, ⟨rfl, rfl, rfl, fun _ => Nat.le_refl _⟩, rfl, _, ⟨hb.lt, rfl⟩, _, _, (show N9 _ _ _ _ from ⟨hb.lt, rfl⟩).blk rfl, by rw [RD hn]; exact he⟩
    simp only [execOp, resolve, invoke, builtin, hargs, Sem.run_bind, pure, Sem.run, Result.andThen_ok, Builtin.delete_, ht]
    simp only [List.getElem?_toArray, List.getElem?_cons_zero, List.getElem?_cons_succ, Sem.run_bind, run_underlying hT.und, Result.andThen_ok, uw hb hnc, hpl, hfk, hi, Option.map_none, Az hb hnc, Sem.run]
  | some i =>
    refine ⟨.tuple #[], { w with heap := w.heap.setIfInBounds r (.map (es.eraseIdxIfInBounds i) clock) }, ?_, ⟨rfl, rfl, rfl, fun _ => Nat.le_refl _⟩, rfl, _, ⟨hb.lt, rfl⟩, _, _, (show N9 _ _ _ _ from ⟨hb.lt, rfl⟩).blk rfl, he.yA k hi⟩
    simp only [execOp, resolve, invoke, builtin, hargs, Sem.run_bind, pure, Sem.run, Result.andThen_ok, Builtin.delete_, ht]
    simp only [List.getElem?_toArray, List.getElem?_cons_zero, List.getElem?_cons_succ, Sem.run_bind, run_underlying hT.und, Result.andThen_ok, uw hb hnc, hpl, hfk, hi, Option.map_some, Az hb hnc, Sem.run]
def MapAt (h : Heap) (r : Nat) (ek : κ -> Value) (en : ν -> Value) (m : List (κ × ν)) (k : κ) (born : Nat) : Prop :=
  ∃ es clock i, dW h r (.map es clock) /\ OZ ek en es clock m /\ (m.findIdx? fun p => decide (k = p.1)) = some i /\ ((es[i]?).map (·.born)) = some born
theorem MapAt.aan {m : List (κ × ν)} {r born : Nat} {k : κ} (a : MapAt h r ek en m k born) : qV h r ek en m := let ⟨es, c, _, hb, he, _⟩ := a; ⟨es, c, hb, he⟩
end
section
variable {P : Program} {f : kT} {h : Heap} {ty : TypeId} {F : Fz} {os : List Ow} {i : Nat} {κ ν : Type} [DecidableEq κ] {ek : κ -> Value} {en : ν -> Value} {m : List (κ × ν)} {r : Nat}
def Ow.at (r : Nat) (ek : κ -> Value) (en : ν -> Value) (m : List (κ × ν)) (k : κ) (born : Nat) : Ow where
  foot x := x = r
  inv h := MapAt h r ek en m k born
  lt h x hi hx := by obtain ⟨es, c, j, hb, _⟩ := hi; subst hx; exact hb.lt
  loc h h' hi hk := let ⟨es, c, j, hb, q⟩ := hi; ⟨es, c, j, (hk r rfl).trans hb, q⟩
theorem VL {T K E : Nat} {z : Value} {x y u : Operand} {k : κ} {v : ν} (hS : St F os h) (hi : os[i]? = some (Ow.map r ek en m)) (hk : OY P K ek) (hT : Tf P T K E z)
    (hx : ev f x = .map (some r)) (hy : ev f y = ek k) (hu : ev f u = en v) : ES P (.mapUpdate T x y u) ty f h (fun h' => St F (os.set i (Ow.map r ek en (zU m k v))) h' /\ Kp F h F h') :=
  ES.imp (SH hk hT (hS.mp i hi) hx hy hu) fun h' ⟨o, hu, hm⟩ => hS.turn i hi _ hm (fun b hb => .inl hb) (Nat.le_of_eq hu.size.symm) (fun b hb hne => hu.keep hne)
theorem Zl {T K E : Nat} {z : Value} {x y : Operand} {ts : Array TypeId} {k : κ} (hS : St F os h) (hi : os[i]? = some (Ow.map r ek en m)) (hk : OY P K ek) (hT : Tf P T K E z)
    (hx : ev f x = .map (some r)) (hy : ev f y = ek k) (ht : ts[0]? = some T) : EV P (.call ⟨.builtin .delete, #[x, y], ts⟩) ty f h (fun v h' => v = .tuple #[] /\ St F (os.set i (Ow.map r ek en (yA m k))) h' /\ Kp F h F h') :=
  EV.imp (Y4 hk hT (hS.mp i hi) hx hy ht) fun v h' ⟨hv, o, hu, hm⟩ => ⟨hv, hS.turn i hi _ hm (fun b hb => .inl hb) (Nat.le_of_eq hu.size.symm) (fun b hb hne => hu.keep hne)⟩
end
end Go.Wk
