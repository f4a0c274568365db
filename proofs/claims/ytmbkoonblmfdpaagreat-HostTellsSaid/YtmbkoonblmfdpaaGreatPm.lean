/- Maps of pointers to things of one's own, one of which may be taken out; maps that are turned while one goes through them. -/
import Derived.Test.YtmbkoonblmfdpaaGreatBag
set_option linter.unusedSimpArgs false
set_option linter.unusedVariables false
set_option linter.unusedSectionVars false
namespace Go.Wk
open Go.HL
variable [DM]
section
variable {κ ι β : Type} [DecidableEq κ]
abbrev PmM (κ ι β : Type) := List (κ × ι × β)
abbrev pmV (pv : ι -> Value) : ι × β -> Value := fun x => pv x.1
structure agF (h : Heap) (r : Nat) (ek : κ -> Value) (pv : ι -> Value) (th : ι -> β -> Ow) (m : PmM κ ι β) (but : Option (κ × ι)) : Prop where
  map : qV h r ek (pmV (β := β) pv) m
  own : ∀ p ∈ m, but.map Prod.fst ≠ some p.1 -> (th p.2.1 p.2.2).inv h
  off : ∀ p ∈ m, but.map Prod.fst ≠ some p.1 -> ¬ (th p.2.1 p.2.2).foot r
  apart : ∀ p ∈ m, ∀ q ∈ m, but.map Prod.fst ≠ some p.1 -> but.map Prod.fst ≠ some q.1 -> p.1 ≠ q.1 -> ∀ b, (th p.2.1 p.2.2).foot b -> ¬ (th q.2.1 q.2.2).foot b
  hole : ∀ k i, but = some (k, i) -> ∃ x, qU m k = some (i, x)
variable {P : Program} {f : kT} {ty : TypeId} {F F' : Fz} {os : List Ow} {h h' : Heap} {r : Nat} {ek : κ -> Value} {pv : ι -> Value} {th : ι -> β -> Ow} {m : PmM κ ι β} {i : Nat} {but : Option (κ × ι)}
theorem agF.less {m' : PmM κ ι β} (hb : agF h r ek pv th m none) (hM : qV h' r ek (pmV (β := β) pv) m') (hs : ∀ p ∈ m', p ∈ m) (hold : ∀ b, b ≠ r -> h'[b]? = h[b]?) : agF h' r ek pv th m' none := by
  have nn : ∀ q : κ, (none : Option (κ × ι)).map Prod.fst ≠ some q := by simp
  exact ⟨hM, fun p hp _ => (th p.2.1 p.2.2).loc h h' (hb.own p (hs p hp) (nn _)) fun b hv => hold b fun q => hb.off p (hs p hp) (nn _) (q ▸ hv), fun p hp _ => hb.off p (hs p hp) (nn _),
    fun p hp q hq _ _ => hb.apart p (hs p hp) q (hs q hq) (nn _) (nn _), by simp⟩
end
section
variable {κ ν : Type} [DecidableEq κ] {ek : κ -> Value} {en : ν -> Value} {P : Program} {f : kT} {ty : TypeId} {F : Fz} {os : List Ow} {h : Heap} {i it r : Nat} {m rem : List (κ × ν)} {p : κ × ν}
theorem OY.inj {K : Nat} (hk : OY P K ek) (w : World) {a b : κ} (e : ek a = ek b) : a = b := by
  have he : OZ ek (fun _ : Unit => Value.bool true) #[{ key := ek b, val := .bool true, born := 0 }] 1 [(b, ())] := ⟨rfl, by simp, by simp, by simp⟩
  have h1 := hk.find a he w
  have h2 := hk.find b he w
  rw [e, h2] at h1
  have h3 := congrArg (fun x => match x with | Result.ok a _ => a.isSome | _ => true) h1
  by_cases hab : a = b
  · exact hab
  · simp [List.findIdx?_cons, hab] at h3
theorem D5.idx (hinj : ∀ a b, ek a = ek b -> a = b) {es : Array MapEntry} {clock : Nat} {seen : Array Nat} {e : Nat} (hA : Ij h it r ek en m rem es clock seen) (hb : seen.back? = some e) {x : MapEntry} (hx : es.find? (·.born == e) = some x) (hk : x.key = ek p.1) :
    ∃ j, (m.findIdx? fun q => decide (p.1 = q.1)) = some j /\ ∃ (hj : j < es.size), es[j].born ∈ seen.toList := by
  have hmem : x ∈ es := Array.mem_of_find?_eq_some hx
  have hbo : x.born = e := by have := Array.find?_some hx; simpa using this
  obtain ⟨j, hj, hjx⟩ := Array.mem_iff_getElem.1 hmem
  have hlen : es.size = m.length := by have := congrArg List.length hA.TG.is; simpa using this
  have hjm : j < m.length := by omega
  have hkey : ek m[j].1 = ek p.1 := by
    have h1 : (es.toList.map (fun e => (e.key, e.val)))[j]'(by simpa using hj) = (m.map fun p => (ek p.1, en p.2))[j]'(by simpa using hjm) := by simp only [hA.TG.is]
    simp only [List.getElem_map, Prod.mk.injEq, Array.getElem_toList] at h1
    rw [← h1.1, hjx, hk]
  have hmj := hinj _ _ hkey
  refine ⟨j, ?_, hj, ?_⟩
  · rw [List.findIdx?_eq_some_iff_getElem]
    refine ⟨hjm, by simp [hmj], ?_⟩
    intro k hk'
    have hnd := hA.TG.nodup
    simp only [decide_eq_true_eq, Bool.not_eq_true, decide_eq_false_iff_not]
    intro e'
    have h2 : (m.map Prod.fst)[k]'(by simp; omega) = (m.map Prod.fst)[j]'(by simpa using hjm) := by simp [hmj, ← e']
    have := (List.getElem_inj hnd).1 h2
    omega
  · rw [hjx, hbo]
    have := Array.back?_eq_some_iff.1 hb
    obtain ⟨s', rfl⟩ := this
    simp
def Ud (h : Heap) (it r : Nat) (ek : κ -> Value) (en : ν -> Value) (m rem : List (κ × ν)) (k : κ) (born : Nat) : Prop :=
  ∃ es clock seen j, Ij h it r ek en m rem es clock seen /\ (m.findIdx? fun q => decide (k = q.1)) = some j /\ ∃ hj : j < es.size, es[j].born = born /\ es[j].born ∈ seen.toList
theorem Ud.aan {k : κ} {born : Nat} (a : Ud h it r ek en m rem k born) : qV h r ek en m := let ⟨es, c, _, _, A, _⟩ := a; ⟨es, c, A.map, A.TG⟩
def Ow.iat (it r : Nat) (ek : κ -> Value) (en : ν -> Value) (m rem : List (κ × ν)) (k : κ) (born : Nat) : Ow where
  foot x := x = it ∨ x = r
  inv h := Ud h it r ek en m rem k born
  lt h x hi hx := by
    obtain ⟨es, c, s, j, A, _⟩ := hi
    rcases hx with rfl | rfl
    · exact A.iter.lt
    · exact A.map.lt
  loc h h' hi hk := let ⟨es, c, s, j, A, q⟩ := hi; ⟨es, c, s, j, ⟨(hk r (.inr rfl)).trans A.map, A.TG, (hk it (.inl rfl)).trans A.iter, A.rem⟩, q⟩
theorem St.ia {k : κ} {born : Nat} (hS : St F os h) (i : Nat) (hi : os[i]? = some (Ow.iat it r ek en m rem k born)) : Ud h it r ek en m rem k born := hS.inv i _ hi
end
end Go.Wk
