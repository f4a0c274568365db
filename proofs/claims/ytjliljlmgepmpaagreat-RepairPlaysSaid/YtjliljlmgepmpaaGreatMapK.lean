/- Maps keyed by whatever is told apart by its cells: structs too. -/
import Derived.Test.YtjliljlmgepmpaaGreatWk
set_option linter.unusedSimpArgs false
set_option linter.unusedVariables false
set_option linter.unusedSectionVars false
namespace Go.Wk
open Go.HL
variable [DM]
structure KeyAt (P : Program) (K : Nat) {κ : Type} [DecidableEq κ] (ek : κ → Value) : Prop where
  find : ∀ {ν : Type} {en : ν → Value} (k : κ) {es : Array MapEntry} {clock : Nat} {m : List (κ × ν)}, Ents ek en es clock m → ∀ w, (Instr.findKey K (ek k) es.toList).run P w = .ok ((m.findIdx? fun p => decide (k = p.1)).map fun j => (j, ((mget m k).map en).getD undef)) w
  plain : ∀ (e : Bool) (a : κ) (w : World), (Instr.checkKey e 10000 K (ek a)).run P w = .ok () w
  bits : ∀ a, Instr.sameBits 10000 (ek a) (ek a) = true
structure TMapK (P : Program) (T K E : Nat) (z : Value) : Prop where
  und : P.underlying T = some (.map K E)
  zero : ∀ w, (zeroValue E).run P w = .ok z w
section
variable {κ ν : Type} [DecidableEq κ] {ek : κ → Value} {en : ν → Value} {P : Program}
theorem keyAt_of {kind : TypeDesc} {K : Nat} (hk : KeyOk kind ek) (hK : P.underlying K = some kind) : KeyAt P K ek :=
  ⟨fun k _ _ _ he w => run_findKey hk hK k he w, fun e a w => hk.plain P K e a w hK, hk.bits⟩
end
section
variable {κ ν : Type} [DecidableEq κ] {ek : κ → Value} {en : ν → Value} {P : Program} {f : Slots} {h : Heap} {ty : TypeId}
theorem run_lookup {T K E r : Nat} {z : Value} {m : List (κ × ν)} {k : κ} (hk : KeyAt P K ek) (hT : TMapK P T K E z) (hM : MapIs h r ek en m) (ok : Bool) (w : World) (hw : w.heap = h) :
    (Instr.lookup T (.map (some r)) (ek k) ok).run P w = .ok (if ok then .tuple #[mval en z m k, .bool (mget m k).isSome] else mval en z m k) w := by
  obtain ⟨es, clock, hb, he⟩ := hM
  have hg : (getObj r).run P w = .ok (.map es clock) w := by
    have : w.heap[r]? = some (.map es clock) := by rw [hw]; exact hb
    simp [getObj, Sem.run, this]
  unfold Instr.lookup
  simp only [Sem.run_bind, run_underlying hT.und, Result.andThen_ok, hg, pure, Sem.run, hk.plain _ k w, hk.find k he w]
  cases hi : (m.findIdx? fun p => decide (k = p.1)) with
  | none =>
    have hn := findIdx_none.1 hi
    simp only [Option.map_none, Sem.run_bind, hT.zero w, Result.andThen_ok, Sem.run, mval, hn]
    cases ok <;> rfl
  | some j =>
    have hn : mget m k ≠ none := fun e => by rw [findIdx_none.2 e] at hi; cases hi
    obtain ⟨v, hv⟩ := Option.ne_none_iff_exists'.1 hn
    simp only [Option.map_some, Sem.run, Result.andThen_ok, mval, hv]
    cases ok <;> rfl
theorem q_lookup {T K E r : Nat} {z : Value} {x y : Operand} {m : List (κ × ν)} {k : κ} (hk : KeyAt P K ek) (hT : TMapK P T K E z) (hM : MapIs h r ek en m)
    (hx : ev f x = .map (some r)) (hy : ev f y = ek k) : QV P (.lookup T x y false) ty f h (mval en z m k) := by
  intro dst pos after guard w hw
  simp [execOp, hx, hy, run_lookup hk hT hM false w hw]
theorem s_mapUpdate {T K E r : Nat} {z : Value} {x y u : Operand} {m : List (κ × ν)} {k : κ} {v : ν} (hk : KeyAt P K ek) (hT : TMapK P T K E z) (hM : MapIs h r ek en m)
    (hx : ev f x = .map (some r)) (hy : ev f y = ek k) (hu : ev f u = en v) :
    ES P (.mapUpdate T x y u) ty f h (fun h' => ∃ o, Upd h r o h' ∧ MapIs h' r ek en (mset m k v)) := by
  intro dst pos after guard w hw
  obtain ⟨es, clock, hb, he⟩ := hM
  subst hw
  have hnc : ∀ c t f, Obj.map es clock ≠ .cells c t f := fun _ _ _ e => by cases e
  have hpl := hk.plain false k w
  have hfk := hk.find k he w
  cases hi : (m.findIdx? fun p => decide (k = p.1)) with
  | none =>
    have hn := findIdx_none.1 hi
    refine ⟨{ w with heap := w.heap.setIfInBounds r (.map (es.push { key := ek k, val := en v, born := clock }) (clock + 1)) }, ?_, ⟨rfl, rfl, rfl, fun _ => Nat.le_refl _⟩, _, ⟨hb.lt, rfl⟩, _, _, (show Upd _ _ _ _ from ⟨hb.lt, rfl⟩).blk rfl, he.push k v hn⟩
    simp only [execOp, hx, hy, hu, Instr.mapUpdate, Sem.run_bind, run_underlying hT.und, Result.andThen_ok, run_getObj hb hnc, hpl, hfk, hi, Option.map_none, run_setObj hb hnc]
    simp [pure, Sem.run]
  | some i =>
    have hkey : ((es[i]?).map (·.key)).getD (ek k) = ek k := by
      have h0 := he.is
      have hlt : i < m.length := (List.findIdx?_eq_some_iff_getElem.1 hi).1
      have hlt' : i < es.size := by have := congrArg List.length h0; simp at this; omega
      have := (List.findIdx?_eq_some_iff_getElem.1 hi).2.1
      have h1 : (es.toList.map (fun e => (e.key, e.val)))[i]'(by simpa using hlt') = (m.map fun p => (ek p.1, en p.2))[i]'(by simpa using hlt) := by simp only [h0]
      simp only [List.getElem_map, Prod.mk.injEq, Array.getElem_toList] at h1
      rw [Array.getElem?_eq_getElem hlt']
      simp only [Option.map_some, Option.getD_some]
      rw [h1.1, ← of_decide_eq_true this]
    have hst : ∀ w, (Instr.keyThatStays (ek k) (ek k)).run P w = .ok (ek k) w := fun w => by
      unfold Instr.keyThatStays; rw [if_pos (hk.bits k)]; rfl
    refine ⟨{ w with heap := w.heap.setIfInBounds r (.map (es.modify i fun e => { e with key := ek k, val := en v }) clock) }, ?_, ⟨rfl, rfl, rfl, fun _ => Nat.le_refl _⟩, _, ⟨hb.lt, rfl⟩, _, _, (show Upd _ _ _ _ from ⟨hb.lt, rfl⟩).blk rfl, he.mset k v hi⟩
    simp only [execOp, hx, hy, hu, Instr.mapUpdate, Sem.run_bind, run_underlying hT.und, Result.andThen_ok, run_getObj hb hnc, hpl, hfk, hi, Option.map_some, hkey, hst, run_setObj hb hnc]
    simp [pure, Sem.run]
def MapAt (h : Heap) (r : Nat) (ek : κ → Value) (en : ν → Value) (m : List (κ × ν)) (k : κ) (born : Nat) : Prop :=
  ∃ es clock i, Blk h r (.map es clock) ∧ Ents ek en es clock m ∧ (m.findIdx? fun p => decide (k = p.1)) = some i ∧ ((es[i]?).map (·.born)) = some born
theorem MapAt.mapIs {m : List (κ × ν)} {r born : Nat} {k : κ} (a : MapAt h r ek en m k born) : MapIs h r ek en m := let ⟨es, c, _, hb, he, _⟩ := a; ⟨es, c, hb, he⟩
end
section
variable {P : Program} {f : Slots} {h : Heap} {ty : TypeId} {F : Fz} {os : List Ow} {i : Nat} {κ ν : Type} [DecidableEq κ] {ek : κ → Value} {en : ν → Value} {m : List (κ × ν)} {r : Nat}
def Ow.at (r : Nat) (ek : κ → Value) (en : ν → Value) (m : List (κ × ν)) (k : κ) (born : Nat) : Ow where
  foot x := x = r
  inv h := MapAt h r ek en m k born
  lt h x hi hx := by obtain ⟨es, c, j, hb, _⟩ := hi; subst hx; exact hb.lt
  loc h h' hi hk := let ⟨es, c, j, hb, q⟩ := hi; ⟨es, c, j, (hk r rfl).trans hb, q⟩
theorem mget0_mset [Inhabited ν] (m : List (κ × ν)) (k k' : κ) (v : ν) : mget0 (mset m k v) k' = if k' = k then v else mget0 m k' := by
  unfold mget0; rw [mget_mset]; split <;> rfl
theorem st_mapUpdateK {T K E : Nat} {z : Value} {x y u : Operand} {k : κ} {v : ν} (hS : St F os h) (hi : os[i]? = some (Ow.map r ek en m)) (hk : KeyAt P K ek) (hT : TMapK P T K E z)
    (hx : ev f x = .map (some r)) (hy : ev f y = ek k) (hu : ev f u = en v) : ES P (.mapUpdate T x y u) ty f h (fun h' => St F (os.set i (Ow.map r ek en (mset m k v))) h' ∧ Kp F h F h') :=
  ES.imp (s_mapUpdate hk hT (hS.mp i hi) hx hy hu) fun h' ⟨o, hu, hm⟩ => hS.turn i hi _ hm (fun b hb => .inl hb) (Nat.le_of_eq hu.size.symm) (fun b hb hne => hu.keep hne)
end
end Go.Wk
