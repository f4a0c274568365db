/- Maps keyed by whatever is told apart by its cells: structs too. -/
import Derived.Test.YtmbkoonblmfdpaaGreatWk
set_option linter.unusedSimpArgs false
set_option linter.unusedVariables false
set_option linter.unusedSectionVars false
namespace Go.Wk
open Go.HL
variable [DM]
structure KeyAt (P : Program) (K : Nat) {κ : Type} [DecidableEq κ] (ek : κ → Value) : Prop where
  find : ∀ {ν : Type} {en : ν → Value} (k : κ) {es : Array MapEntry} {clock : Nat} {m : List (κ × ν)}, Ents ek en es clock m → ∀ w, (Instr.findKey K (ek k) es.toList).run P w = .ok ((m.findIdx? fun p => decide (k = p.1)).map fun j => (j, ((mget m k).map en).getD undef)) w
  plain : ∀ (e : Bool) (a : κ) (w : World), (Instr.checkKey e 10000 K (ek a)).run P w = .ok () w
  bits : ∀ a, Instr.sameBits 10000 (ek a) (ek a) = true
structure TMapK (P : Program) (T K E : Nat) (z : Value) : Prop where
  und : P.underlying T = some (.map K E)
  zero : ∀ w, (zeroValue E).run P w = .ok z w
section
variable {κ ν : Type} [DecidableEq κ] {ek : κ → Value} {en : ν → Value} {P : Program}
theorem findAsking_eq {K : Nat} (heq : ∀ a b w, (Op.equal K (ek a) (ek b)).run P w = .ok (decide (a = b)) w) (k : κ) (w : World) : ∀ (es : List MapEntry) (m : List (κ × ν)) (i : Nat), es.map (fun e => (e.key, e.val)) = m.map (fun p => (ek p.1, en p.2)) →
    (Instr.findAsking K (ek k) es i).run P w = .ok ((m.findIdx? fun p => decide (k = p.1)).map fun j => (i + j, ((mget m k).map en).getD undef)) w
  | [], m, i, h => by
    have : m = [] := by simpa using h.symm
    subst this; simp [Instr.findAsking, Sem.run, pure]
  | e :: es, m, i, h => by
    match m, h with
    | p :: r, h =>
      simp only [List.map_cons, List.cons.injEq, Prod.mk.injEq] at h
      obtain ⟨⟨h1, h2⟩, h3⟩ := h
      rw [Instr.findAsking, h1, Sem.run_bind, heq]
      simp only [Result.andThen_ok]
      by_cases e1 : k = p.1
      · subst e1; simp [mget_cons, h2, List.findIdx?_cons, Sem.run, pure]
      · simp only [e1, decide_false, Bool.false_eq_true, if_false]
        rw [findAsking_eq heq k w es r (i + 1) h3, mget_cons, if_neg e1, List.findIdx?_cons]
        simp only [e1, decide_false, Bool.false_eq_true, if_false, Option.map_map]
        congr 2; funext j; simp; omega
theorem keyAt_struct {K : Nat} {fs : Array Field} (hu : P.underlying K = some (.struct fs)) (hagg : ∀ a, ∃ cs, ek a = .agg cs) (heq : ∀ a b w, (Op.equal K (ek a) (ek b)).run P w = .ok (decide (a = b)) w)
    (hplain : ∀ (e : Bool) (a : κ) (w : World), (Instr.checkKey e 10000 K (ek a)).run P w = .ok () w) (hbits : ∀ a, Instr.sameBits 10000 (ek a) (ek a) = true) : KeyAt P K ek := by
  refine ⟨@fun ν en k es clock m he w => ?_, hplain, hbits⟩
  unfold Instr.findKey
  rw [Sem.run_bind, run_underlying hu]
  simp only [Result.andThen_ok]
  have hnow : es.toList = [] ∧ m = [] ∨ Instr.findNow (.struct fs) (ek k) es.toList 0 = none := by
    cases hl : es.toList with
    | nil => left; have := he.is; rw [hl] at this; exact ⟨rfl, by simpa using this.symm⟩
    | cons e r =>
      right
      have hi := he.is
      rw [hl] at hi
      match m, hi with
      | p :: q, hi =>
        simp only [List.map_cons, List.cons.injEq, Prod.mk.injEq] at hi
        obtain ⟨c1, h1⟩ := hagg k
        obtain ⟨c2, h2⟩ := hagg p.1
        rw [Instr.findNow, hi.1.1, h1, h2]; rfl
  rcases hnow with ⟨h1, h2⟩ | h1
  · rw [h1, h2]; rfl
  · rw [h1]
    have := findAsking_eq heq k w es.toList m 0 he.is
    simp only [Nat.zero_add] at this; exact this
theorem sameBits_agg (n : Nat) (cs : List Value) (h : ∀ c ∈ cs, Instr.sameBits n c c = true) : Instr.sameBits (n + 1) (.agg cs.toArray) (.agg cs.toArray) = true := by
  have key : ∀ l : List Value, (∀ c ∈ l, Instr.sameBits n c c = true) → (l.zip l).all (fun (x, y) => Instr.sameBits n x y) = true := by
    intro l
    induction l with
    | nil => intro _; rfl
    | cons a l ih =>
      intro h; rw [List.zip_cons_cons, List.all_cons]
      show (Instr.sameBits n a a && _) = true
      rw [h a (by simp), ih (fun c hc => h c (by simp [hc]))]; rfl
  simp [Instr.sameBits, key cs h]
theorem sameBits_int (n : Nat) (k : IntKind) (x : Int) : Instr.sameBits n (.int k x) (.int k x) = true := by cases n <;> simp [Instr.sameBits]
theorem sameBits_bool (n : Nat) (x : Bool) : Instr.sameBits n (.bool x) (.bool x) = true := by cases n <;> simp [Instr.sameBits]
theorem sameBits_str (n : Nat) (x : ByteArray) : Instr.sameBits n (.string x) (.string x) = true := by cases n <;> simp only [Instr.sameBits] <;> exact (bytes_beq x x).2 rfl
end
section
variable {κ ν : Type} [DecidableEq κ] {ek : κ → Value} {en : ν → Value} {P : Program} {f : Slots} {h : Heap} {ty : TypeId}
theorem run_lookup {T K E r : Nat} {z : Value} {m : List (κ × ν)} {k : κ} (hk : KeyAt P K ek) (hT : TMapK P T K E z) (hM : MapIs h r ek en m) (ok : Bool) (w : World) (hw : w.heap = h) :
    (Instr.lookup T (.map (some r)) (ek k) ok).run P w = .ok (if ok then .tuple #[mval en z m k, .bool (mget m k).isSome] else mval en z m k) w := by
  obtain ⟨es, clock, hb, he⟩ := hM
  have hg : (getObj r).run P w = .ok (.map es clock) w := by
    have : w.heap[r]? = some (.map es clock) := by rw [hw]; exact hb
    simp [getObj, Sem.run, this]
  unfold Instr.lookup
  simp only [Sem.run_bind, run_underlying hT.und, Result.andThen_ok, hg, pure, Sem.run, hk.plain _ k w, hk.find k he w]
  cases hi : (m.findIdx? fun p => decide (k = p.1)) with
  | none =>
    have hn := findIdx_none.1 hi
    simp only [Option.map_none, Sem.run_bind, hT.zero w, Result.andThen_ok, Sem.run, mval, hn]
    cases ok <;> rfl
  | some j =>
    have hn : mget m k ≠ none := fun e => by rw [findIdx_none.2 e] at hi; cases hi
    obtain ⟨v, hv⟩ := Option.ne_none_iff_exists'.1 hn
    simp only [Option.map_some, Sem.run, Result.andThen_ok, mval, hv]
    cases ok <;> rfl
theorem q_lookup {T K E r : Nat} {z : Value} {x y : Operand} {m : List (κ × ν)} {k : κ} (hk : KeyAt P K ek) (hT : TMapK P T K E z) (hM : MapIs h r ek en m)
    (hx : ev f x = .map (some r)) (hy : ev f y = ek k) : QV P (.lookup T x y false) ty f h (mval en z m k) := by
  intro dst pos after guard w hw
  simp [execOp, hx, hy, run_lookup hk hT hM false w hw]
theorem q_lookupOk {T K E r : Nat} {z : Value} {x y : Operand} {m : List (κ × ν)} {k : κ} (hk : KeyAt P K ek) (hT : TMapK P T K E z) (hM : MapIs h r ek en m)
    (hx : ev f x = .map (some r)) (hy : ev f y = ek k) : QV P (.lookup T x y true) ty f h (.tuple #[mval en z m k, .bool (mget m k).isSome]) := by
  intro dst pos after guard w hw
  simp [execOp, hx, hy, run_lookup hk hT hM true w hw]
theorem s_mapUpdate {T K E r : Nat} {z : Value} {x y u : Operand} {m : List (κ × ν)} {k : κ} {v : ν} (hk : KeyAt P K ek) (hT : TMapK P T K E z) (hM : MapIs h r ek en m)
    (hx : ev f x = .map (some r)) (hy : ev f y = ek k) (hu : ev f u = en v) :
    ES P (.mapUpdate T x y u) ty f h (fun h' => ∃ o, Upd h r o h' ∧ MapIs h' r ek en (mset m k v)) := by
  intro dst pos after guard w hw
  obtain ⟨es, clock, hb, he⟩ := hM
  subst hw
  have hnc : ∀ c t f, Obj.map es clock ≠ .cells c t f := fun _ _ _ e => by cases e
  have hpl := hk.plain false k w
  have hfk := hk.find k he w
  cases hi : (m.findIdx? fun p => decide (k = p.1)) with
  | none =>
    have hn := findIdx_none.1 hi
    refine ⟨{ w with heap := w.heap.setIfInBounds r (.map (es.push { key := ek k, val := en v, born := clock }) (clock + 1)) }, ?_, ⟨rfl, rfl, rfl, fun _ => Nat.le_refl _⟩, _, ⟨hb.lt, rfl⟩, _, _, (show Upd _ _ _ _ from ⟨hb.lt, rfl⟩).blk rfl, he.push k v hn⟩
    simp only [execOp, hx, hy, hu, Instr.mapUpdate, Sem.run_bind, run_underlying hT.und, Result.andThen_ok, run_getObj hb hnc, hpl, hfk, hi, Option.map_none, run_setObj hb hnc]
    simp [pure, Sem.run]
  | some i =>
    have hkey : ((es[i]?).map (·.key)).getD (ek k) = ek k := by
      have h0 := he.is
      have hlt : i < m.length := (List.findIdx?_eq_some_iff_getElem.1 hi).1
      have hlt' : i < es.size := by have := congrArg List.length h0; simp at this; omega
      have := (List.findIdx?_eq_some_iff_getElem.1 hi).2.1
      have h1 : (es.toList.map (fun e => (e.key, e.val)))[i]'(by simpa using hlt') = (m.map fun p => (ek p.1, en p.2))[i]'(by simpa using hlt) := by simp only [h0]
      simp only [List.getElem_map, Prod.mk.injEq, Array.getElem_toList] at h1
      rw [Array.getElem?_eq_getElem hlt']
      simp only [Option.map_some, Option.getD_some]
      rw [h1.1, ← of_decide_eq_true this]
    have hst : ∀ w, (Instr.keyThatStays (ek k) (ek k)).run P w = .ok (ek k) w := fun w => by
      unfold Instr.keyThatStays; rw [if_pos (hk.bits k)]; rfl
    refine ⟨{ w with heap := w.heap.setIfInBounds r (.map (es.modify i fun e => { e with key := ek k, val := en v }) clock) }, ?_, ⟨rfl, rfl, rfl, fun _ => Nat.le_refl _⟩, _, ⟨hb.lt, rfl⟩, _, _, (show Upd _ _ _ _ from ⟨hb.lt, rfl⟩).blk rfl, he.mset k v hi⟩
    simp only [execOp, hx, hy, hu, Instr.mapUpdate, Sem.run_bind, run_underlying hT.und, Result.andThen_ok, run_getObj hb hnc, hpl, hfk, hi, Option.map_some, hkey, hst, run_setObj hb hnc]
    simp [pure, Sem.run]
theorem e_delete {T K E r : Nat} {z : Value} {x y : Operand} {ts : Array TypeId} {m : List (κ × ν)} {k : κ} (hk : KeyAt P K ek) (hT : TMapK P T K E z) (hM : MapIs h r ek en m)
    (hx : ev f x = .map (some r)) (hy : ev f y = ek k) (ht : ts[0]? = some T) :
    EV P (.call ⟨.builtin .delete, #[x, y], ts⟩) ty f h (fun v h' => v = .tuple #[] ∧ ∃ o, Upd h r o h' ∧ MapIs h' r ek en (mdel m k)) := by
  intro dst pos after guard w hw
  obtain ⟨es, clock, hb, he⟩ := hM
  subst hw
  have hnc : ∀ c t f, Obj.map es clock ≠ .cells c t f := fun _ _ _ e => by cases e
  have hpl := hk.plain es.isEmpty k w
  have hfk := hk.find k he w
  have hargs : (#[x, y].map (ev f)) = #[.map (some r), ek k] := by simp [hx, hy]
  cases hi : (m.findIdx? fun p => decide (k = p.1)) with
  | none =>
    have hn := findIdx_none.1 hi
    refine ⟨.tuple #[], { w with heap := w.heap.setIfInBounds r (.map es clock) }, ?_, ⟨rfl, rfl, rfl, fun _ => Nat.le_refl _⟩, rfl, _, ⟨hb.lt, rfl⟩, _, _, (show Upd _ _ _ _ from ⟨hb.lt, rfl⟩).blk rfl, by rw [mdel_none hn]; exact he⟩
    simp only [execOp, resolve, invoke, builtin, hargs, Sem.run_bind, pure, Sem.run, Result.andThen_ok, Builtin.delete_, ht]
    simp only [List.getElem?_toArray, List.getElem?_cons_zero, List.getElem?_cons_succ, Sem.run_bind, run_underlying hT.und, Result.andThen_ok, run_getObj hb hnc, hpl, hfk, hi, Option.map_none, run_setObj hb hnc, Sem.run]
  | some i =>
    refine ⟨.tuple #[], { w with heap := w.heap.setIfInBounds r (.map (es.eraseIdxIfInBounds i) clock) }, ?_, ⟨rfl, rfl, rfl, fun _ => Nat.le_refl _⟩, rfl, _, ⟨hb.lt, rfl⟩, _, _, (show Upd _ _ _ _ from ⟨hb.lt, rfl⟩).blk rfl, he.mdel k hi⟩
    simp only [execOp, resolve, invoke, builtin, hargs, Sem.run_bind, pure, Sem.run, Result.andThen_ok, Builtin.delete_, ht]
    simp only [List.getElem?_toArray, List.getElem?_cons_zero, List.getElem?_cons_succ, Sem.run_bind, run_underlying hT.und, Result.andThen_ok, run_getObj hb hnc, hpl, hfk, hi, Option.map_some, run_setObj hb hnc, Sem.run]
def MapAt (h : Heap) (r : Nat) (ek : κ → Value) (en : ν → Value) (m : List (κ × ν)) (k : κ) (born : Nat) : Prop :=
  ∃ es clock i, Blk h r (.map es clock) ∧ Ents ek en es clock m ∧ (m.findIdx? fun p => decide (k = p.1)) = some i ∧ ((es[i]?).map (·.born)) = some born
theorem MapAt.mapIs {m : List (κ × ν)} {r born : Nat} {k : κ} (a : MapAt h r ek en m k born) : MapIs h r ek en m := let ⟨es, c, _, hb, he, _⟩ := a; ⟨es, c, hb, he⟩
theorem mset_same {m : List (κ × ν)} {k : κ} {v : ν} (h : mget m k = some v) : mset m k v = m := by
  induction m with
  | nil => simp [mget_nil] at h
  | cons p r ih =>
    rw [mget_cons] at h
    unfold mset
    split
    · rename_i e; rw [if_pos e] at h; injection h with h; subst h; subst e; rfl
    · rename_i e; rw [if_neg e] at h; rw [ih h]
theorem idx_push {m : List (κ × ν)} {k : κ} {v : ν} (hn : mget m k = none) : ((m ++ [(k, v)]).findIdx? fun p => decide (k = p.1)) = some m.length := by
  rw [List.findIdx?_append, findIdx_none.2 hn]; simp
theorem mset_mset {m : List (κ × ν)} {k : κ} {v w : ν} : mset (mset m k v) k w = mset m k w := by
  induction m with
  | nil => simp [mset]
  | cons p r ih =>
    by_cases e : k = p.1
    · simp [mset, e]
    · have h1 : mset (p :: r) k v = p :: mset r k v := by rw [mset, if_neg e]
      have h2 : mset (p :: r) k w = p :: mset r k w := by rw [mset, if_neg e]
      have h3 : mset (p :: mset r k v) k w = p :: mset (mset r k v) k w := by rw [mset, if_neg e]
      rw [h1, h2, h3, ih]
theorem e_mapEntry {T K E r : Nat} {z : Value} {x y : Operand} {m : List (κ × ν)} {k : κ} [Inhabited ν] (hk : KeyAt P K ek) (hT : TMapK P T K E z) (hz : en default = z) (hM : MapIs h r ek en m)
    (hx : ev f x = .map (some r)) (hy : ev f y = ek k) :
    EV P (.mapEntry T x y) ty f h (fun v h' => ∃ born : Nat, v = .tuple #[en (mget0 m k), .int .i64 (born : Int)] ∧ ∃ o, Upd h r o h' ∧ MapAt h' r ek en (mset m k (mget0 m k)) k born) := by
  intro dst pos after guard w hw
  obtain ⟨es, clock, hb, he⟩ := hM
  subst hw
  have hnc : ∀ c t f, Obj.map es clock ≠ .cells c t f := fun _ _ _ e => by cases e
  have hpl := hk.plain false k w
  have hfk := hk.find k he w
  have hlen : es.size = m.length := by have := congrArg List.length he.is; simpa using this
  cases hi : (m.findIdx? fun p => decide (k = p.1)) with
  | none =>
    have hn := findIdx_none.1 hi
    have hd : mget0 m k = default := by unfold mget0; rw [hn]; rfl
    have hp := he.push k (mget0 m k) hn
    refine ⟨.tuple #[en (mget0 m k), .int .i64 (clock : Int)], { w with heap := w.heap.setIfInBounds r (.map (es.push { key := ek k, val := en (mget0 m k), born := clock }) (clock + 1)) }, ?_, ⟨rfl, rfl, rfl, fun _ => Nat.le_refl _⟩, clock, rfl, _, ⟨hb.lt, rfl⟩, _, _, m.length, (show Upd _ _ _ _ from ⟨hb.lt, rfl⟩).blk rfl, ?_, ?_, ?_⟩
    · simp only [execOp, hx, hy, Instr.mapEntry, Sem.run_bind, run_underlying hT.und, Result.andThen_ok, run_getObj hb hnc, hpl, hfk, hi, Option.map_none, hT.zero w]
      rw [hd, hz]
      simp only [run_setObj hb hnc, Result.andThen_ok]; rfl
    · rw [mset_none hn]; first | exact hp | (rw [← mset_none hn]; exact hp)
    · rw [mset_none hn]; exact idx_push hn
    · rw [← hlen]; simp
  | some i =>
    have hsome : mget m k ≠ none := fun e => by rw [findIdx_none.2 e] at hi; cases hi
    obtain ⟨v, hv⟩ := Option.ne_none_iff_exists'.1 hsome
    have hd : mget0 m k = v := by unfold mget0; rw [hv]; rfl
    have hil : i < es.size := by rw [hlen]; exact (List.findIdx?_eq_some_iff_getElem.1 hi).1
    have hkey : ((es[i]?).map (·.key)).getD (ek k) = ek k := by
      have h1 := congrArg (fun l => (l[i]?).map Prod.fst) he.is
      simp only [List.getElem?_map, Array.getElem?_toList, Option.map_map] at h1
      obtain ⟨hlt, hki, _⟩ := List.findIdx?_eq_some_iff_getElem.1 hi
      rw [Array.getElem?_eq_getElem hil] at h1 ⊢
      rw [List.getElem?_eq_getElem hlt] at h1
      simp only [Option.map_some, Function.comp_apply, Option.some.injEq] at h1
      simp only [Option.map_some, Option.getD_some]
      rw [h1, of_decide_eq_true hki]
    have hks : (Instr.keyThatStays (((es[i]?).map (·.key)).getD (ek k)) (ek k)).run P w = .ok (ek k) w := by
      rw [hkey]; unfold Instr.keyThatStays; rw [if_pos (hk.bits k)]; rfl
    have hE : Ents ek en (es.modify i fun e => { e with key := ek k }) clock (mset m k (mget0 m k)) := by
      rw [hd, mset_same hv]
      have he2 := he.mset k v hi
      rw [mset_same hv] at he2
      have heq : (es.modify i fun e => { e with key := ek k }) = es.modify i fun e => { e with key := ek k, val := en v } := by
        apply Array.ext
        · simp
        · intro j h1 h2
          simp only [Array.size_modify] at h1
          rw [Array.getElem_modify, Array.getElem_modify]
          split
          · rename_i e; subst e
            have h3 := congrArg (fun l => (l[i]?).map Prod.snd) he.is
            simp only [List.getElem?_map, Array.getElem?_toList, Option.map_map] at h3
            obtain ⟨hlt, hki, _⟩ := List.findIdx?_eq_some_iff_getElem.1 hi
            rw [Array.getElem?_eq_getElem hil, List.getElem?_eq_getElem hlt] at h3
            simp only [Option.map_some, Function.comp_apply, Option.some.injEq] at h3
            have hmv : m[i].2 = v := by
              have : mget m m[i].1 = some m[i].2 := (mem_iff_mget he.nodup _ _).1 (List.getElem_mem hlt)
              rw [← of_decide_eq_true hki, hv] at this; injection this with this; exact this.symm
            have h4 : en v = es[i].val := by rw [← hmv, ← h3]
            simp only [h4]
          · rfl
      rw [heq]; exact he2
    refine ⟨.tuple #[en (mget0 m k), .int .i64 (es[i].born : Int)], { w with heap := w.heap.setIfInBounds r (.map (es.modify i fun e => { e with key := ek k }) clock) }, ?_, ⟨rfl, rfl, rfl, fun _ => Nat.le_refl _⟩, _, rfl, _, ⟨hb.lt, rfl⟩, _, _, i, (show Upd _ _ _ _ from ⟨hb.lt, rfl⟩).blk rfl, hE, ?_, ?_⟩
    · simp only [execOp, hx, hy, Instr.mapEntry, Sem.run_bind, run_underlying hT.und, Result.andThen_ok, run_getObj hb hnc, hpl, hfk, hi, Option.map_some, hks, run_setObj hb hnc, hv, Option.getD_some]
      rw [hd, Array.getElem?_eq_getElem hil]; rfl
    · rw [hd, mset_same hv]; exact hi
    · rw [Array.getElem?_eq_getElem (by simpa using hil)]; simp [Array.getElem_modify]
theorem s_entryStore {T r born : Nat} {x s u : Operand} {m : List (κ × ν)} {k : κ} {v : ν} (hM : MapAt h r ek en m k born) (hx : ev f x = .map (some r)) (hs : ev f s = .int .i64 (born : Int)) (hu : ev f u = en v) :
    ES P (.entryStore T x s u) ty f h (fun h' => ∃ o, Upd h r o h' ∧ MapIs h' r ek en (mset m k v)) := by
  intro dst pos after guard w hw
  obtain ⟨es, clock, i, hb, he, hi, hbn⟩ := hM
  subst hw
  have hnc : ∀ c t f, Obj.map es clock ≠ .cells c t f := fun _ _ _ e => by cases e
  have hlen : es.size = m.length := by have := congrArg List.length he.is; simpa using this
  have hil : i < es.size := by rw [hlen]; exact (List.findIdx?_eq_some_iff_getElem.1 hi).1
  have hbi : es[i].born = born := by rw [Array.getElem?_eq_getElem hil] at hbn; simpa using hbn
  have hfi : es.findIdx? (fun e => (e.born : Int) == (born : Int)) = some i := by
    rw [Array.findIdx?_eq_some_iff_getElem]
    refine ⟨hil, by simp [hbi], fun j hj => ?_⟩
    have hne : es[j].born ≠ born := by
      intro e
      have hap := he.apart
      have h1 : (es.toList.map (·.born))[j]'(by simp; omega) = (es.toList.map (·.born))[i]'(by simpa using hil) := by simp [e, hbi]
      have := (List.getElem_inj hap).1 h1
      omega
    simpa using fun e => hne (by exact_mod_cast e)
  refine ⟨{ w with heap := w.heap.setIfInBounds r (.map (es.modify i fun e => { e with val := en v }) clock) }, ?_, ⟨rfl, rfl, rfl, fun _ => Nat.le_refl _⟩, _, ⟨hb.lt, rfl⟩, _, _, (show Upd _ _ _ _ from ⟨hb.lt, rfl⟩).blk rfl, ?_⟩
  · simp only [execOp, hx, hs, hu, Instr.entryStore, Sem.run_bind, run_getObj hb hnc, Result.andThen_ok, asInt, asIntOf, pure, Sem.run]
    rw [hfi]; simp only [run_setObj hb hnc, Result.andThen_ok]
  · have hkeep : es.modify i (fun e => { e with val := en v }) = es.modify i fun e => { e with key := ek k, val := en v } := by
      apply Array.ext
      · simp
      · intro j h1 h2
        simp only [Array.size_modify] at h1
        rw [Array.getElem_modify, Array.getElem_modify]
        split
        · rename_i e; subst e
          have h1 := congrArg (fun l => (l[i]?).map Prod.fst) he.is
          simp only [List.getElem?_map, Array.getElem?_toList, Option.map_map] at h1
          obtain ⟨hlt, hki, _⟩ := List.findIdx?_eq_some_iff_getElem.1 hi
          rw [Array.getElem?_eq_getElem hil, List.getElem?_eq_getElem hlt] at h1
          simp only [Option.map_some, Function.comp_apply, Option.some.injEq] at h1
          have h4 : es[i].key = ek k := by rw [h1, of_decide_eq_true hki]
          simp only [h4]
        · rfl
    rw [hkeep]; exact he.mset k v hi
end
section
variable {P : Program} {f : Slots} {h : Heap} {ty : TypeId} {F : Fz} {os : List Ow} {i : Nat} {κ ν : Type} [DecidableEq κ] {ek : κ → Value} {en : ν → Value} {m : List (κ × ν)} {r : Nat}
def Ow.at (r : Nat) (ek : κ → Value) (en : ν → Value) (m : List (κ × ν)) (k : κ) (born : Nat) : Ow where
  foot x := x = r
  inv h := MapAt h r ek en m k born
  lt h x hi hx := by obtain ⟨es, c, j, hb, _⟩ := hi; subst hx; exact hb.lt
  loc h h' hi hk := let ⟨es, c, j, hb, q⟩ := hi; ⟨es, c, j, (hk r rfl).trans hb, q⟩
theorem st_mapUpdateK {T K E : Nat} {z : Value} {x y u : Operand} {k : κ} {v : ν} (hS : St F os h) (hi : os[i]? = some (Ow.map r ek en m)) (hk : KeyAt P K ek) (hT : TMapK P T K E z)
    (hx : ev f x = .map (some r)) (hy : ev f y = ek k) (hu : ev f u = en v) : ES P (.mapUpdate T x y u) ty f h (fun h' => St F (os.set i (Ow.map r ek en (mset m k v))) h' ∧ Kp F h F h') :=
  ES.imp (s_mapUpdate hk hT (hS.mp i hi) hx hy hu) fun h' ⟨o, hu, hm⟩ => hS.turn i hi _ hm (fun b hb => .inl hb) (Nat.le_of_eq hu.size.symm) (fun b hb hne => hu.keep hne)
theorem st_deleteK {T K E : Nat} {z : Value} {x y : Operand} {ts : Array TypeId} {k : κ} (hS : St F os h) (hi : os[i]? = some (Ow.map r ek en m)) (hk : KeyAt P K ek) (hT : TMapK P T K E z)
    (hx : ev f x = .map (some r)) (hy : ev f y = ek k) (ht : ts[0]? = some T) : EV P (.call ⟨.builtin .delete, #[x, y], ts⟩) ty f h (fun v h' => v = .tuple #[] ∧ St F (os.set i (Ow.map r ek en (mdel m k))) h' ∧ Kp F h F h') :=
  EV.imp (e_delete hk hT (hS.mp i hi) hx hy ht) fun v h' ⟨hv, o, hu, hm⟩ => ⟨hv, hS.turn i hi _ hm (fun b hb => .inl hb) (Nat.le_of_eq hu.size.symm) (fun b hb hne => hu.keep hne)⟩
end
end Go.Wk
