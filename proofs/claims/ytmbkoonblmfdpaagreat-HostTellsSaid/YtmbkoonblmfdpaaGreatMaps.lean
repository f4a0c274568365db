/- Maps keyed by an integer or a string: how they read, and what the operations on them do. -/
import Derived.Test.YtmbkoonblmfdpaaGreatMem
set_option linter.unusedSimpArgs false
set_option linter.unusedVariables false
set_option linter.unusedSectionVars false
namespace Go.HL
variable [DM]
structure VG {κ : Type} [DecidableEq κ] (kind : TypeDesc) (ek : κ -> Value) : Prop where
  same : ∀ a b, Instr.sameNow kind (ek a) (ek b) = some (decide (a = b))
  plain : ∀ (P : Program) (T : TypeId) (e : Bool) (a : κ) (w : World), P.underlying T = some kind -> (Instr.checkKey e 10000 T (ek a)).run P w = .ok () w
  bits : ∀ a, Instr.sameBits 10000 (ek a) (ek a) = true
def kI (n : Int) : Value := .int .i64 n
theorem bytes_beq (a b : ByteArray) : (a == b) = true ↔ a = b := by
  cases a with | mk x => cases b with | mk y =>
  constructor
  · intro h
    have : x = y := by
      have h' : (x == y) = true := h
      exact LawfulBEq.eq_of_beq h'
    rw [this]
  · rintro h; cases h
    show (x == x) = true
    simp
section aa2
variable {κ ν : Type} [DecidableEq κ]
def qU (m : List (κ × ν)) (k : κ) : Option ν := (m.find? fun p => decide (k = p.1)).map (·.2)
def zU : List (κ × ν) -> κ -> ν -> List (κ × ν)
  | [], k, v => [(k, v)]
  | p :: r, k, v => if k = p.1 then (k, v) :: r else p :: zU r k v
def yA (m : List (κ × ν)) (k : κ) : List (κ × ν) := m.filter fun p => decide (k ≠ p.1)
theorem OC (k : κ) : qU ([] : List (κ × ν)) k = none := rfl
theorem nV (p : κ × ν) (r : List (κ × ν)) (k : κ) : qU (p :: r) k = if k = p.1 then some p.2 else qU r k := by
  unfold qU; rw [List.find?_cons]; by_cases h : k = p.1 <;> simp [h]
theorem Wx (m : List (κ × ν)) (k k' : κ) (v : ν) : qU (zU m k v) k' = if k' = k then some v else qU m k' := by
  induction m with
  | nil => simp [zU, nV, OC]
  | cons p r ih =>
    unfold zU
    split
    · rename_i h; rw [nV, nV]; by_cases e : k' = k
      · simp [e]
      · have : ¬k' = p.1 := fun h2 => e (h2.trans h.symm)
        simp [e, this]
    · rename_i h; rw [nV, nV, ih]; by_cases e : k' = p.1
      · have : k' ≠ k := fun h2 => h (h2 ▸ e); simp [e, this, e ▸ this]
      · simp [e]
theorem Rz (m : List (κ × ν)) (k k' : κ) : qU (yA m k) k' = if k' = k then none else qU m k' := by
  induction m with
  | nil => simp [yA, OC]
  | cons p r ih =>
    unfold yA at *
    rw [List.filter_cons]
    by_cases h : k = p.1
    · subst h; simp only [ne_eq, not_true_eq_false, decide_false, Bool.false_eq_true, if_false]
      rw [ih, nV]; by_cases e : k' = p.1 <;> simp [e]
    · simp only [ne_eq, h, not_false_eq_true, decide_true, if_true]; rw [nV, nV, ih]
      by_cases e : k' = p.1
      · have : k' ≠ k := fun h2 => h (h2 ▸ e); simp [e, e ▸ this]
      · simp [e]
theorem WA (m : List (κ × ν)) (k : κ) (v : ν) : (zU m k v).map Prod.fst = if k ∈ m.map Prod.fst then m.map Prod.fst else m.map Prod.fst ++ [k] := by
  induction m with
  | nil => simp [zU]
  | cons p r ih =>
    unfold zU
    split
    · rename_i h; simp [h]
    · rename_i h
      simp only [List.map_cons, ih, List.mem_cons]
      by_cases e : k ∈ r.map Prod.fst
      · simp [e]
      · simp [e, h]
theorem Qc {m : List (κ × ν)} (h : (m.map Prod.fst).Nodup) (k : κ) (v : ν) : ((zU m k v).map Prod.fst).Nodup := by
  rw [WA]; split
  · exact h
  · rename_i hk; rw [List.nodup_append]; exact ⟨h, by simp, by intro a ha b hb; simp at hb; subst hb; rintro rfl; exact hk ha⟩
theorem Zq {m : List (κ × ν)} (h : (m.map Prod.fst).Nodup) (k : κ) : ((yA m k).map Prod.fst).Nodup :=
  List.Nodup.sublist (List.Sublist.map _ List.filter_sublist) h
theorem Gz {m : List (κ × ν)} (h : (m.map Prod.fst).Nodup) (k : κ) (v : ν) : (k, v) ∈ m ↔ qU m k = some v := by
  induction m with
  | nil => simp [OC]
  | cons p r ih =>
    simp only [List.map_cons, List.nodup_cons] at h
    rw [nV, List.mem_cons, ih h.2]
    by_cases e : k = p.1
    · subst e; simp only [if_true, Option.some.injEq]
      constructor
      · rintro (e | e)
        · rw [← e]
        · exfalso; apply h.1; rw [← ih h.2] at e; exact List.mem_map.2 ⟨_, e, rfl⟩
      · intro e; left; rw [← e]
    · simp only [e, if_false]
      constructor
      · rintro (e' | e')
        · exact absurd (by rw [← e']) e
        · exact e'
      · exact .inr
theorem Ry {m : List (κ × ν)} {k : κ} : qU m k = none ↔ k ∉ m.map Prod.fst := by
  induction m with
  | nil => simp [OC]
  | cons p r ih => rw [nV]; by_cases e : k = p.1 <;> simp [e, ih]
end aa2
structure OZ {κ ν : Type} (ek : κ -> Value) (en : ν -> Value) (es : Array MapEntry) (clock : Nat) (m : List (κ × ν)) : Prop where
  is : es.toList.map (fun e => (e.key, e.val)) = m.map fun p => (ek p.1, en p.2)
  born : ∀ e ∈ es.toList, e.born < clock
  apart : (es.toList.map (·.born)).Nodup
  nodup : (m.map Prod.fst).Nodup
def qV {κ ν : Type} (h : Heap) (r : Nat) (ek : κ -> Value) (en : ν -> Value) (m : List (κ × ν)) : Prop :=
  ∃ es clock, dW h r (.map es clock) /\ OZ ek en es clock m
theorem qV.ext {κ ν : Type} {h h' : Heap} {r : Nat} {ek : κ -> Value} {en : ν -> Value} {m : List (κ × ν)} (k : qV h r ek en m) (e : Ext h h') : qV h' r ek en m :=
  let ⟨es, c, hb, he⟩ := k; ⟨es, c, hb.ext e, he⟩
theorem qV.upd {κ ν : Type} {h h' : Heap} {r b : Nat} {o : Obj} {ek : κ -> Value} {en : ν -> Value} {m : List (κ × ν)} (k : qV h r ek en m) (u : N9 h b o h') (hne : r ≠ b) : qV h' r ek en m :=
  let ⟨es, c, hb, he⟩ := k; ⟨es, c, hb.upd u hne, he⟩
theorem qV.lt {κ ν : Type} {h : Heap} {r : Nat} {ek : κ -> Value} {en : ν -> Value} {m : List (κ × ν)} (k : qV h r ek en m) : r < h.size :=
  let ⟨_, _, hb, _⟩ := k; hb.lt
theorem qV.nodup {κ ν : Type} {h : Heap} {r : Nat} {ek : κ -> Value} {en : ν -> Value} {m : List (κ × ν)} (k : qV h r ek en m) : (m.map Prod.fst).Nodup :=
  let ⟨_, _, _, he⟩ := k; he.nodup
section
variable {κ ν : Type} [DecidableEq κ] {ek : κ -> Value} {en : ν -> Value}
theorem Vp {kind : TypeDesc} (hk : VG kind ek) (k : κ) : ∀ (es : List MapEntry) (m : List (κ × ν)) (i : Nat), es.map (fun e => (e.key, e.val)) = m.map (fun p => (ek p.1, en p.2)) ->
    Instr.findNow kind (ek k) es i = some ((m.findIdx? fun p => decide (k = p.1)).map fun j => (i + j, ((qU m k).map en).getD undef))
  | [], m, i, h => by
    have : m = [] := by simpa using h.symm
    subst this; rfl
  | e :: es, m, i, h => by
    match m, h with
    | p :: r, h =>
      simp only [List.map_cons, List.cons.injEq, Prod.mk.injEq] at h
      obtain ⟨⟨h1, h2⟩, h3⟩ := h
      rw [Instr.findNow, h1, hk.same]
      by_cases e1 : k = p.1
      · subst e1; simp [nV, h2, List.findIdx?_cons]
      · simp only [e1, decide_false]
        rw [Vp hk k es r (i + 1) h3, nV, if_neg e1, List.findIdx?_cons]
        simp only [e1, decide_false, Bool.false_eq_true, if_false, Option.map_map]
        congr 1; congr 1; funext j; simp; omega
theorem zl {m : List (κ × ν)} {k : κ} : (m.findIdx? fun p => decide (k = p.1)) = none ↔ qU m k = none := by
  rw [List.findIdx?_eq_none_iff, Ry, List.mem_map]
  constructor
  · rintro h ⟨p, hp, rfl⟩; simpa using h p hp
  · intro h p hp; simp; rintro rfl; exact h ⟨p, hp, rfl⟩
variable {P : Program} {f : kT} {h : Heap} {ty : TypeId}
structure ady (P : Program) (T K E : Nat) (kind : TypeDesc) (z : Value) : Prop where
  und : P.underlying T = some (.map K E)
  key : P.underlying K = some kind
  zero : ∀ w, (zeroValue E).run P w = .ok z w
def QE (en : ν -> Value) (z : Value) (m : List (κ × ν)) (k : κ) : Value := ((qU m k).map en).getD z
theorem run_findKey {kind : TypeDesc} (hk : VG kind ek) {K : Nat} (hK : P.underlying K = some kind) (k : κ) {es : Array MapEntry} {clock : Nat} {m : List (κ × ν)} (he : OZ ek en es clock m) (w : World) :
    (Instr.findKey K (ek k) es.toList).run P w = .ok ((m.findIdx? fun p => decide (k = p.1)).map fun j => (j, ((qU m k).map en).getD undef)) w := by
  unfold Instr.findKey
  rw [Sem.run_bind, run_underlying hK]
  simp only [Result.andThen_ok]
  rw [Vp hk k es.toList m 0 he.is]
  simp [pure, Sem.run]
theorem JZ {T K E r : Nat} {kind : TypeDesc} {z : Value} {m : List (κ × ν)} {k : κ} (hk : VG kind ek) (hT : ady P T K E kind z) (hM : qV h r ek en m) (ok : Bool) (w : World) (hw : w.heap = h) :
    (Instr.lookup T (.map (some r)) (ek k) ok).run P w = .ok (if ok then .tuple #[QE en z m k, .bool (qU m k).isSome] else QE en z m k) w := by
  obtain ⟨es, clock, hb, he⟩ := hM
  have hg : (getObj r).run P w = .ok (.map es clock) w := by
    have : w.heap[r]? = some (.map es clock) := by rw [hw]; exact hb
    simp [getObj, Sem.run, this]
  unfold Instr.lookup
  simp only [Sem.run_bind, run_underlying hT.und, Result.andThen_ok, hg, pure, Sem.run, hk.plain P K _ k w hT.key, run_findKey hk hT.key k he w]
  cases hi : (m.findIdx? fun p => decide (k = p.1)) with
  | none =>
    have hn := zl.1 hi
    simp only [Option.map_none, Sem.run_bind, hT.zero w, Result.andThen_ok, Sem.run, QE, hn]
    cases ok <;> rfl
  | some j =>
    have hn : qU m k ≠ none := fun e => by rw [zl.2 e] at hi; cases hi
    obtain ⟨v, hv⟩ := Option.ne_none_iff_exists'.1 hn
    simp only [Option.map_some, Sem.run, Result.andThen_ok, QE, hv]
    cases ok <;> rfl
theorem UK {T K E r : Nat} {kind : TypeDesc} {z : Value} {x y : Operand} {m : List (κ × ν)} {k : κ} (hk : VG kind ek) (hT : ady P T K E kind z) (hM : qV h r ek en m)
    (hx : ev f x = .map (some r)) (hy : ev f y = ek k) : QV P (.lookup T x y false) ty f h (QE en z m k) := by
  intro dst pos after guard w hw
  simp [execOp, hx, hy, JZ hk hT hM false w hw]
theorem UJ {T K E r : Nat} {kind : TypeDesc} {z : Value} {x y : Operand} {m : List (κ × ν)} {k : κ} (hk : VG kind ek) (hT : ady P T K E kind z) (hM : qV h r ek en m)
    (hx : ev f x = .map (some r)) (hy : ev f y = ek k) : QV P (.lookup T x y true) ty f h (.tuple #[QE en z m k, .bool (qU m k).isSome]) := by
  intro dst pos after guard w hw
  simp [execOp, hx, hy, JZ hk hT hM true w hw]
theorem uw {r : Nat} {o : Obj} {w : World} (hb : dW w.heap r o) (ho : ∀ c t f, o ≠ .cells c t f) : (getObj r).run P w = .ok o w := by
  have : w.heap[r]? = some o := hb
  unfold getObj
  cases o <;> first | exact absurd rfl (ho _ _ _) | (simp only [Sem.run, this])
theorem Az {r : Nat} {o o' : Obj} {w : World} (hb : dW w.heap r o) (ho : ∀ c t f, o ≠ .cells c t f) : (setObj r o').run P w = .ok () { w with heap := w.heap.setIfInBounds r o' } := by
  have : w.heap[r]? = some o := hb
  unfold setObj
  cases o <;> first | exact absurd rfl (ho _ _ _) | (simp only [Sem.run, this])
theorem Zt {es : List MapEntry} {m : List (κ × ν)} (k : κ) (v : ν) (h : es.map (fun e => (e.key, e.val)) = m.map (fun p => (ek p.1, en p.2))) {i : Nat}
    (hi : (m.findIdx? fun p => decide (k = p.1)) = some i) :
    (es.modify i fun e => { e with key := ek k, val := en v }).map (fun e => (e.key, e.val)) = (zU m k v).map (fun p => (ek p.1, en p.2)) := by
  induction es generalizing m i with
  | nil =>
    have : m = [] := by simpa using h.symm
    subst this; simp at hi
  | cons e es ih =>
    match m, h, hi with
    | p :: r, h, hi =>
      simp only [List.map_cons, List.cons.injEq, Prod.mk.injEq] at h
      obtain ⟨⟨h1, h2⟩, h3⟩ := h
      rw [List.findIdx?_cons] at hi
      unfold zU
      by_cases e1 : k = p.1
      · simp only [e1, decide_true, if_true, Option.some.injEq] at hi
        subst hi
        rw [if_pos e1]
        simp [h3]
      · rw [if_neg e1]
        simp only [e1, decide_false, Bool.false_eq_true, if_false, Option.map_eq_some_iff] at hi
        obtain ⟨j, hj, rfl⟩ := hi
        simp only [List.modify_succ_cons, List.map_cons, List.cons.injEq, Prod.mk.injEq]
        exact ⟨⟨h1, h2⟩, ih h3 hj⟩
theorem aa3 {m : List (κ × ν)} {k : κ} {v : ν} (h : qU m k = none) : zU m k v = m ++ [(k, v)] := by
  induction m with
  | nil => rfl
  | cons p r ih =>
    rw [nV] at h
    by_cases e : k = p.1
    · simp [e] at h
    · rw [if_neg e] at h; unfold zU; rw [if_neg e, ih h]; rfl
theorem S9 (es : List MapEntry) (i : Nat) (a b : Value) : (es.modify i fun e => { e with key := a, val := b }).map (·.born) = es.map (·.born) := by
  induction es generalizing i with
  | nil => simp
  | cons e es ih => cases i <;> simp [ih]
theorem OZ.zU {es : Array MapEntry} {clock : Nat} {m : List (κ × ν)} (he : OZ ek en es clock m) (k : κ) (v : ν) {i : Nat} (hi : (m.findIdx? fun p => decide (k = p.1)) = some i) :
    OZ ek en (es.modify i fun e => { e with key := ek k, val := en v }) clock (zU m k v) where
  is := by rw [Array.toList_modify]; exact Zt k v he.is hi
  born := by
    intro e h
    have : e.born ∈ (es.modify i fun e => { e with key := ek k, val := en v }).toList.map (·.born) := List.mem_map.2 ⟨e, h, rfl⟩
    rw [Array.toList_modify, S9] at this
    obtain ⟨e', h', hb⟩ := List.mem_map.1 this
    rw [← hb]; exact he.born e' h'
  apart := by rw [Array.toList_modify, S9]; exact he.apart
  nodup := Qc he.nodup k v
theorem OZ.push {es : Array MapEntry} {clock : Nat} {m : List (κ × ν)} (he : OZ ek en es clock m) (k : κ) (v : ν) (hn : qU m k = none) :
    OZ ek en (es.push { key := ek k, val := en v, born := clock }) (clock + 1) (Go.HL.zU m k v) where
  is := by rw [aa3 hn]; simp [he.is]
  born := by
    intro e h
    simp only [Array.toList_push, List.mem_append, List.mem_singleton] at h
    rcases h with h | rfl
    · have := he.born e h; omega
    · simp
  apart := by
    simp only [Array.toList_push, List.map_append, List.map_cons, List.map_nil]
    rw [List.nodup_append]
    refine ⟨he.apart, by simp, ?_⟩
    intro a ha b hb e
    obtain ⟨x, hx, rfl⟩ := List.mem_map.1 ha
    have := he.born x hx
    simp at hb; omega
  nodup := Qc he.nodup k v
theorem SH {T K E r : Nat} {kind : TypeDesc} {z : Value} {x y u : Operand} {m : List (κ × ν)} {k : κ} {v : ν} (hk : VG kind ek) (hT : ady P T K E kind z) (hM : qV h r ek en m)
    (hx : ev f x = .map (some r)) (hy : ev f y = ek k) (hu : ev f u = en v) :
    ES P (.mapUpdate T x y u) ty f h (fun h' => ∃ o, N9 h r o h' /\ qV h' r ek en (zU m k v)) := by
  intro dst pos after guard w hw
  obtain ⟨es, clock, hb, he⟩ := hM
  subst hw
  have hnc : ∀ c t f, Obj.map es clock ≠ .cells c t f := fun _ _ _ e => by cases e
  have hpl := hk.plain P K false k w hT.key
  have hfk := run_findKey (P := P) hk hT.key k he w
  cases hi : (m.findIdx? fun p => decide (k = p.1)) with
  | none =>
    have hn := zl.1 hi
    refine ⟨{ w with heap := w.heap.setIfInBounds r (.map (es.push { key := ek k, val := en v, born := clock }) (clock + 1)) }, ?_, ⟨rfl, rfl, rfl, fun _ => Nat.le_refl _⟩, _, ⟨hb.lt, rfl⟩, _, _, (show N9 _ _ _ _ from ⟨hb.lt, rfl⟩).blk rfl, he.push k v hn⟩
    simp only [execOp, hx, hy, hu, Instr.mapUpdate, Sem.run_bind, run_underlying hT.und, Result.andThen_ok, uw hb hnc, hpl, hfk, hi, Option.map_none, Az hb hnc]
    simp [pure, Sem.run]
  | some i =>
    have hkey : ((es[i]?).map (·.key)).getD (ek k) = ek k := by
      have h0 := he.is
      have hlt : i < m.length := (List.findIdx?_eq_some_iff_getElem.1 hi).1
      have hlt' : i < es.size := by have := congrArg List.length h0; simp at this; omega
      have := (List.findIdx?_eq_some_iff_getElem.1 hi).2.1
      have h1 : (es.toList.map (fun e => (e.key, e.val)))[i]'(by simpa using hlt') = (m.map fun p => (ek p.1, en p.2))[i]'(by simpa using hlt) := by simp only [h0]
      simp only [List.getElem_map, Prod.mk.injEq, Array.getElem_toList] at h1
      rw [Array.getElem?_eq_getElem hlt']
      simp only [Option.map_some, Option.getD_some]
      rw [h1.1, ← of_decide_eq_true this]
    have hst : ∀ w, (Instr.keyThatStays (ek k) (ek k)).run P w = .ok (ek k) w := fun w => by
      unfold Instr.keyThatStays; rw [if_pos (hk.bits k)]; rfl
    refine ⟨{ w with heap := w.heap.setIfInBounds r (.map (es.modify i fun e => { e with key := ek k, val := en v }) clock) }, ?_, ⟨rfl, rfl, rfl, fun _ => Nat.le_refl _⟩, _, ⟨hb.lt, rfl⟩, _, _, (show N9 _ _ _ _ from ⟨hb.lt, rfl⟩).blk rfl, he.zU k v hi⟩
    simp only [execOp, hx, hy, hu, Instr.mapUpdate, Sem.run_bind, run_underlying hT.und, Result.andThen_ok, uw hb hnc, hpl, hfk, hi, Option.map_some, hkey, hst, Az hb hnc]
    simp [pure, Sem.run]
theorem RD {m : List (κ × ν)} {k : κ} (h : qU m k = none) : yA m k = m := by
  unfold yA; rw [List.filter_eq_self]; intro p hp
  rw [Ry] at h; simp; rintro rfl; exact h (List.mem_map.2 ⟨p, hp, rfl⟩)
theorem acm {m : List (κ × ν)} {k : κ} (hn : (m.map Prod.fst).Nodup) {i : Nat} (hi : (m.findIdx? fun p => decide (k = p.1)) = some i) : yA m k = m.eraseIdx i := by
  induction m generalizing i with
  | nil => simp at hi
  | cons p r ih =>
    simp only [List.map_cons, List.nodup_cons] at hn
    rw [List.findIdx?_cons] at hi
    by_cases e1 : k = p.1
    · simp only [e1, decide_true, if_true, Option.some.injEq] at hi
      subst hi
      simp only [List.eraseIdx_cons_zero]
      have : qU r k = none := by rw [Ry, e1]; exact hn.1
      have h2 := RD this
      unfold yA at *
      rw [List.filter_cons]; simp only [e1, ne_eq, not_true_eq_false, decide_false, Bool.false_eq_true, if_false]; rw [← e1]; exact h2
    · simp only [e1, decide_false, Bool.false_eq_true, if_false, Option.map_eq_some_iff] at hi
      obtain ⟨j, hj, rfl⟩ := hi
      have h2 := ih hn.2 hj
      unfold yA at *
      rw [List.filter_cons]; simp only [ne_eq, e1, not_false_eq_true, decide_true, if_true, List.eraseIdx_cons_succ]; rw [← h2]
theorem RF {α β : Type} (g : α -> β) : ∀ (l : List α) (i : Nat), (l.eraseIdx i).map g = (l.map g).eraseIdx i
  | [], _ => rfl
  | _ :: _, 0 => rfl
  | a :: l, i + 1 => by simp [RF g l i]
theorem OZ.yA {es : Array MapEntry} {clock : Nat} {m : List (κ × ν)} (he : OZ ek en es clock m) (k : κ) {i : Nat} (hi : (m.findIdx? fun p => decide (k = p.1)) = some i) :
    OZ ek en (es.eraseIdxIfInBounds i) clock (Go.HL.yA m k) := by
  have hlt : i < m.length := (List.findIdx?_eq_some_iff_getElem.1 hi).1
  have hlt' : i < es.size := by have := congrArg List.length he.is; simp at this; omega
  have ht : (es.eraseIdxIfInBounds i).toList = es.toList.eraseIdx i := by
    unfold Array.eraseIdxIfInBounds; rw [dif_pos hlt', Array.toList_eraseIdx]
  refine ⟨?_, ?_, ?_, Zq he.nodup k⟩
  · rw [ht, acm he.nodup hi, RF, he.is, RF]
  · intro e h; rw [ht] at h; exact he.born e (List.mem_of_mem_eraseIdx h)
  · rw [ht]; exact List.Nodup.sublist (List.Sublist.map _ (List.eraseIdx_sublist _ _)) he.apart
theorem Y4 {T K E r : Nat} {kind : TypeDesc} {z : Value} {x y : Operand} {ts : Array TypeId} {m : List (κ × ν)} {k : κ} (hk : VG kind ek) (hT : ady P T K E kind z) (hM : qV h r ek en m)
    (hx : ev f x = .map (some r)) (hy : ev f y = ek k) (ht : ts[0]? = some T) :
    EV P (.call ⟨.builtin .delete, #[x, y], ts⟩) ty f h (fun v h' => v = .tuple #[] /\ ∃ o, N9 h r o h' /\ qV h' r ek en (yA m k)) := by
  intro dst pos after guard w hw
  obtain ⟨es, clock, hb, he⟩ := hM
  subst hw
  have hnc : ∀ c t f, Obj.map es clock ≠ .cells c t f := fun _ _ _ e => by cases e
  have hpl := hk.plain P K es.isEmpty k w hT.key
  have hfk := run_findKey (P := P) hk hT.key k he w
  have hargs : (#[x, y].map (ev f)) = #[.map (some r), ek k] := by simp [hx, hy]
  cases hi : (m.findIdx? fun p => decide (k = p.1)) with
  | none =>
    have hn := zl.1 hi
    refine ⟨.tuple #[], { w with heap := w.heap.setIfInBounds r (.map es clock) }, ?_, ⟨rfl, rfl, rfl, fun _ => Nat.le_refl _⟩, rfl, _, ⟨hb.lt, rfl⟩, _, _, (show N9 _ _ _ _ from ⟨hb.lt, rfl⟩).blk rfl, by rw [RD hn]; exact he⟩
    simp only [execOp, resolve, invoke, builtin, hargs, Sem.run_bind, pure, Sem.run, Result.andThen_ok, Builtin.delete_, ht]
    simp only [List.getElem?_toArray, List.getElem?_cons_zero, List.getElem?_cons_succ, Sem.run_bind, run_underlying hT.und, Result.andThen_ok, uw hb hnc, hpl, hfk, hi, Option.map_none, Az hb hnc, Sem.run]
  | some i =>
    refine ⟨.tuple #[], { w with heap := w.heap.setIfInBounds r (.map (es.eraseIdxIfInBounds i) clock) }, ?_, ⟨rfl, rfl, rfl, fun _ => Nat.le_refl _⟩, rfl, _, ⟨hb.lt, rfl⟩, _, _, (show N9 _ _ _ _ from ⟨hb.lt, rfl⟩).blk rfl, he.yA k hi⟩
    simp only [execOp, resolve, invoke, builtin, hargs, Sem.run_bind, pure, Sem.run, Result.andThen_ok, Builtin.delete_, ht]
    simp only [List.getElem?_toArray, List.getElem?_cons_zero, List.getElem?_cons_succ, Sem.run_bind, run_underlying hT.und, Result.andThen_ok, uw hb hnc, hpl, hfk, hi, Option.map_some, Az hb hnc, Sem.run]
theorem abY {T K E r : Nat} {x : Operand} {ts : Array TypeId} {m : List (κ × ν)} (hT : P.underlying T = some (.map K E)) (hM : qV h r ek en m)
    (hx : ev f x = .map (some r)) (ht : ts[0]? = some T) : QV P (.call ⟨.builtin .len, #[x], ts⟩) ty f h (.int .i64 (m.length : Int)) := by
  obtain ⟨es, clock, hb, he⟩ := hM
  intro dst pos after guard w hw
  subst hw
  have hnc : ∀ c t f, Obj.map es clock ≠ .cells c t f := fun _ _ _ e => by cases e
  have hl : es.size = m.length := by have := congrArg List.length he.is; simpa using this
  have hargs : (#[x].map (ev f)) = #[.map (some r)] := by simp [hx]
  simp only [execOp, resolve, invoke, builtin, hargs, Sem.run_bind, pure, Sem.run, Result.andThen_ok, Builtin.len_, ht]
  simp only [List.getElem?_toArray, List.getElem?_cons_zero, Sem.run_bind, run_underlying hT, Result.andThen_ok, uw hb hnc, Sem.run, goInt, hl]
theorem abj {T : Nat} : EV P (.makeMap T none) ty f h (fun v h' => ∃ r, v = .map (some r) /\ New h (.map #[] 0) r h') := by
  intro dst pos after guard w hw
  refine ⟨.map (some w.heap.size), w.alloc (.map #[] 0), ?_, ⟨rfl, rfl, rfl, fun _ => Nat.le_refl _⟩, w.heap.size, rfl, ⟨?_, ?_⟩⟩
  · simp [execOp, Instr.makeMap, newObj, Sem.run, bind, Sem.bind, pure]
  · rw [← hw]; rfl
  · rw [← hw]
theorem qV.empty {h' : Heap} {r : Nat} (n : New h (.map #[] 0) r h') : qV h' r ek en ([] : List (κ × ν)) :=
  ⟨#[], 0, n.blk, by simp, by simp, by simp, by simp⟩
end
end Go.HL
