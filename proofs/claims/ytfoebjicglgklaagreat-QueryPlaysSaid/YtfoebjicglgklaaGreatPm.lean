/- Maps of pointers to things of one's own, one of which may be taken out; maps that are turned while one goes through them. -/
import Derived.Test.YtfoebjicglgklaaGreatBag
set_option linter.unusedSimpArgs false
set_option linter.unusedVariables false
set_option linter.unusedSectionVars false
namespace Go.Wk
open Go.HL
variable [DM]
section
variable {κ ι β : Type} [DecidableEq κ]
abbrev PmM (κ ι β : Type) := List (κ × ι × β)
abbrev pmV (pv : ι → Value) : ι × β → Value := fun x => pv x.1
structure PmIs (h : Heap) (r : Nat) (ek : κ → Value) (pv : ι → Value) (th : ι → β → Ow) (m : PmM κ ι β) (but : Option (κ × ι)) : Prop where
  map : MapIs h r ek (pmV (β := β) pv) m
  own : ∀ p ∈ m, but.map Prod.fst ≠ some p.1 → (th p.2.1 p.2.2).inv h
  off : ∀ p ∈ m, but.map Prod.fst ≠ some p.1 → ¬ (th p.2.1 p.2.2).foot r
  apart : ∀ p ∈ m, ∀ q ∈ m, but.map Prod.fst ≠ some p.1 → but.map Prod.fst ≠ some q.1 → p.1 ≠ q.1 → ∀ b, (th p.2.1 p.2.2).foot b → ¬ (th q.2.1 q.2.2).foot b
  hole : ∀ k i, but = some (k, i) → ∃ x, mget m k = some (i, x)
def Ow.pm (r : Nat) (ek : κ → Value) (pv : ι → Value) (th : ι → β → Ow) (m : PmM κ ι β) (but : Option (κ × ι)) : Ow where
  foot x := x = r ∨ ∃ p ∈ m, but.map Prod.fst ≠ some p.1 ∧ (th p.2.1 p.2.2).foot x
  inv h := PmIs h r ek pv th m but
  lt h x hi hx := by
    rcases hx with rfl | ⟨p, hp, hb, hx⟩
    · exact hi.map.lt
    · exact (th p.2.1 p.2.2).lt h x (hi.own p hp hb) hx
  loc h h' hi hk := by
    refine ⟨?_, fun p hp hb => (th p.2.1 p.2.2).loc h h' (hi.own p hp hb) fun b hx => hk b (.inr ⟨p, hp, hb, hx⟩), hi.off, hi.apart, hi.hole⟩
    obtain ⟨es, c, hb, he⟩ := hi.map
    exact ⟨es, c, (hk r (.inl rfl)).trans hb, he⟩
variable {P : Program} {f : Slots} {ty : TypeId} {F F' : Fz} {os : List Ow} {h h' : Heap} {r : Nat} {ek : κ → Value} {pv : ι → Value} {th : ι → β → Ow} {m : PmM κ ι β} {i : Nat} {but : Option (κ × ι)}
theorem St.pmi (hS : St F os h) (i : Nat) (hi : os[i]? = some (Ow.pm r ek pv th m but)) : PmIs h r ek pv th m but := hS.inv i _ hi
theorem st_makePm {T : Nat} (hS : St F os h) : EV P (.makeMap T none) ty f h (fun v h' => ∃ r, v = .map (some r) ∧ St F (Ow.pm r ek pv th ([] : PmM κ ι β) none :: os) h' ∧ Kp F h F h') :=
  EV.imp e_makeMap fun v h' ⟨r, hv, hn⟩ => ⟨r, hv, hS.cons _ ⟨MapIs.empty hn, by simp, by simp, by simp, by simp⟩ (fun x hx => by
    rcases hx with rfl | ⟨p, hp, _⟩
    · exact Nat.le_of_eq hn.at_.symm
    · cases hp) hn.ext⟩
theorem St.pmTake {x : ι × β} {k : κ} (hS : St F os h) (i : Nat) (hi : os[i]? = some (Ow.pm r ek pv th m none)) (hk : mget m k = some x) :
    St F (th x.1 x.2 :: os.set i (Ow.pm r ek pv th m (some (k, x.1)))) h := by
  have hb : PmIs h r ek pv th m none := hS.inv i _ hi
  have hin : (k, x) ∈ m := (mem_iff_mget hb.map.nodup k x).2 hk
  have nn : ∀ q : κ, (none : Option (κ × ι)).map Prod.fst ≠ some q := by simp
  refine hS.parted i hi (hb.own _ hin (nn _)) ⟨hb.map, fun p hp _ => hb.own p hp (nn _), fun p hp _ => hb.off p hp (nn _), fun p hp q hq _ _ => hb.apart p hp q hq (nn _) (nn _), ?_⟩ ?_ ?_ ?_
  · intro k' j e; cases e; exact ⟨x.2, hk⟩
  · intro b hx; exact .inr ⟨_, hin, nn _, hx⟩
  · rintro b (rfl | ⟨p, hp, _, hx⟩)
    · exact .inl rfl
    · exact .inr ⟨p, hp, nn _, hx⟩
  · intro b hx
    rintro (rfl | ⟨p, hp, hne, hy⟩)
    · exact hb.off _ hin (nn _) hx
    · exact hb.apart _ hin p hp (nn _) (nn _) (fun e => hne (by rw [← e]; rfl)) b hx hy
theorem pm_same {k : κ} {j : ι} {x y : β} : ∀ {m : PmM κ ι β}, mget m k = some (j, x) → (mset m k (j, y)).map (fun p => (ek p.1, pmV pv p.2)) = m.map (fun p => (ek p.1, pmV pv p.2))
  | [], h => by cases h
  | p :: q, h => by
    rw [mget_cons] at h
    unfold mset
    split at h
    · rename_i e; rw [if_pos e]; have := Option.some.inj h; simp only [List.map_cons, pmV, this, e]
    · rename_i e; rw [if_neg e]; simp only [List.map_cons]; rw [pm_same h]
theorem pm_set_mem {m : PmM κ ι β} (hn : (m.map Prod.fst).Nodup) {k : κ} {v : ι × β} : ∀ p ∈ mset m k v, (p.1 = k ∧ p.2 = v) ∨ (p.1 ≠ k ∧ p ∈ m) := by
  intro p hp
  have hg := (mem_iff_mget (nodup_mset hn k v) p.1 p.2).1 hp
  rw [mget_mset] at hg
  split at hg
  · rename_i e; left; exact ⟨e, (Option.some.inj hg).symm⟩
  · rename_i e; right; exact ⟨e, (mem_iff_mget hn p.1 p.2).2 hg⟩
theorem St.pmPut {j : ι} {y : β} {k : κ} (hS : St F (th j y :: os) h) (i : Nat) (hi : os[i]? = some (Ow.pm r ek pv th m (some (k, j)))) :
    St F (os.set i (Ow.pm r ek pv th (mset m k (j, y)) none)) h := by
  have hi' : (th j y :: os)[i + 1]? = some (Ow.pm r ek pv th m (some (k, j))) := by simpa using hi
  have hb : PmIs h r ek pv th m (some (k, j)) := hS.inv _ _ hi'
  have ho : (th j y).inv h := hS.inv 0 _ rfl
  have hap : ∀ b, (th j y).foot b → ¬ (b = r ∨ ∃ p ∈ m, some k ≠ some p.1 ∧ (th p.2.1 p.2.2).foot b) := fun b hv => hS.apart 0 (i + 1) _ _ (by omega) rfl hi' b hv
  have hlen : i < os.length := (List.getElem?_eq_some_iff.1 hi).1
  obtain ⟨x, hx⟩ := hb.hole k j rfl
  have mem := pm_set_mem (v := (j, y)) hb.map.nodup (k := k)
  have nk : ∀ {p : κ × ι × β}, p.1 ≠ k → (some (k, j)).map Prod.fst ≠ some p.1 := fun e q => e (Option.some.inj q).symm
  have hM : MapIs h r ek (pmV (β := β) pv) (mset m k (j, y)) := by
    obtain ⟨es, c, hbk, he⟩ := hb.map
    exact ⟨es, c, hbk, he.is.trans (pm_same hx).symm, he.born, he.apart, nodup_mset he.nodup k _⟩
  have J := (hS.joined i hi).turn i (List.getElem?_set_self hlen) (Ow.pm r ek pv th (mset m k (j, y)) none) (h' := h)
    ⟨hM, ?_, ?_, ?_, by simp⟩ ?_ (Nat.le_refl _) (fun _ _ _ => rfl)
  · rw [List.set_set] at J; exact J.1
  · intro p hp _
    rcases mem p hp with ⟨_, e⟩ | ⟨e, hp⟩
    · rw [e]; exact ho
    · exact hb.own p hp (nk e)
  · intro p hp _
    rcases mem p hp with ⟨_, e⟩ | ⟨e, hp⟩
    · rw [e]; exact fun q => hap r q (.inl rfl)
    · exact hb.off p hp (nk e)
  · intro p hp q hq _ _ hne b h1 h2
    rcases mem p hp with ⟨e1, e⟩ | ⟨e1, hp⟩ <;> rcases mem q hq with ⟨e2, e'⟩ | ⟨e2, hq⟩
    · exact hne (e1.trans e2.symm)
    · rw [e] at h1; exact hap b h1 (.inr ⟨q, hq, nk e2, h2⟩)
    · rw [e'] at h2; exact hap b h2 (.inr ⟨p, hp, nk e1, h1⟩)
    · exact hb.apart p hp q hq (nk e1) (nk e2) hne b h1 h2
  · rintro b (rfl | ⟨p, hp, _, hx⟩)
    · exact .inl (.inr (.inl rfl))
    · rcases mem p hp with ⟨_, e⟩ | ⟨e, hp⟩
      · rw [e] at hx; exact .inl (.inl hx)
      · exact .inl (.inr (.inr ⟨p, hp, nk e, hx⟩))
theorem st_pmSet {T K V : Nat} {z : Value} {x y u : Operand} {k : κ} {j : ι} {y0 : β} (hk : KeyAt P K ek) (hT : TMapK P T K V z)
    (hS : St F os h) (hi : os[i]? = some (Ow.pm r ek pv th m none)) (hx : ev f x = .map (some r)) (hy : ev f y = ek k) (hu : ev f u = pv j) :
    ES P (.mapUpdate T x y u) ty f h (fun h' => St F (os.set i (Ow.pm r ek pv th (mset m k (j, y0)) (some (k, j)))) h' ∧ Kp F h F h') := by
  have hb : PmIs h r ek pv th m none := hS.inv i _ hi
  have nn : ∀ q : κ, (none : Option (κ × ι)).map Prod.fst ≠ some q := by simp
  refine ES.imp (s_mapUpdate (v := (j, y0)) hk hT hb.map hx hy hu) fun h' ⟨o, hU, hM⟩ => ?_
  have mem : ∀ p ∈ mset m k (j, y0), (some (k, j)).map Prod.fst ≠ some p.1 → p ∈ m := by
    intro p hp hne
    rcases pm_set_mem hb.map.nodup p hp with ⟨e, _⟩ | ⟨_, hp⟩
    · exact absurd (by rw [e]; rfl) hne
    · exact hp
  have hold : ∀ b, b ≠ r → h'[b]? = h[b]? := fun b hne => hU.keep hne
  refine hS.turn i hi (Ow.pm r ek pv th (mset m k (j, y0)) (some (k, j))) ⟨hM, fun p hp hne => ?_, fun p hp hne => hb.off p (mem p hp hne) (nn _), fun p hp q hq h1 h2 => hb.apart p (mem p hp h1) q (mem q hq h2) (nn _) (nn _), ?_⟩ ?_ (by rw [hU.size]; exact Nat.le_refl _) (fun b _ hf => hold b fun e => hf (.inl e))
  · have hpm := mem p hp hne
    exact (th p.2.1 p.2.2).loc h h' (hb.own p hpm (nn _)) fun b hv => hold b fun q => hb.off p hpm (nn _) (q ▸ hv)
  · intro k' j' e; cases e; exact ⟨y0, by rw [mget_mset, if_pos rfl]⟩
  · rintro b (rfl | ⟨p, hp, hne, hx⟩)
    · exact .inl (.inl rfl)
    · exact .inl (.inr ⟨p, mem p hp hne, nn _, hx⟩)
theorem PmIs.less {m' : PmM κ ι β} (hb : PmIs h r ek pv th m none) (hM : MapIs h' r ek (pmV (β := β) pv) m') (hs : ∀ p ∈ m', p ∈ m) (hold : ∀ b, b ≠ r → h'[b]? = h[b]?) : PmIs h' r ek pv th m' none := by
  have nn : ∀ q : κ, (none : Option (κ × ι)).map Prod.fst ≠ some q := by simp
  exact ⟨hM, fun p hp _ => (th p.2.1 p.2.2).loc h h' (hb.own p (hs p hp) (nn _)) fun b hv => hold b fun q => hb.off p (hs p hp) (nn _) (q ▸ hv), fun p hp _ => hb.off p (hs p hp) (nn _),
    fun p hp q hq _ _ => hb.apart p (hs p hp) q (hs q hq) (nn _) (nn _), by simp⟩
theorem st_pmDelete {T K V : Nat} {z : Value} {x y : Operand} {ts : Array TypeId} {k : κ} (hS : St F os h) (hi : os[i]? = some (Ow.pm r ek pv th m none)) (hk : KeyAt P K ek) (hT : TMapK P T K V z)
    (hx : ev f x = .map (some r)) (hy : ev f y = ek k) (ht : ts[0]? = some T) :
    EV P (.call ⟨.builtin .delete, #[x, y], ts⟩) ty f h (fun v h' => v = .tuple #[] ∧ St F (os.set i (Ow.pm r ek pv th (mdel m k) none)) h' ∧ Kp F h F h') := by
  have hb : PmIs h r ek pv th m none := hS.inv i _ hi
  have nn : ∀ q : κ, (none : Option (κ × ι)).map Prod.fst ≠ some q := by simp
  refine EV.imp (e_delete hk hT hb.map hx hy ht) fun v h' ⟨hv, o, hU, hM⟩ => ⟨hv, ?_⟩
  have hs : ∀ p ∈ mdel m k, p ∈ m := fun p hp => (List.mem_filter.1 hp).1
  refine hS.turn i hi (Ow.pm r ek pv th (mdel m k) none) (hb.less hM hs fun b hne => hU.keep hne) ?_ (by rw [hU.size]; exact Nat.le_refl _) (fun b _ hf => hU.keep fun e => hf (.inl e))
  rintro b (rfl | ⟨p, hp, hne, hx⟩)
  · exact .inl (.inl rfl)
  · exact .inl (.inr ⟨p, hs p hp, nn _, hx⟩)
theorem q_pmYes {T K V : Nat} {z : Value} {x y : Operand} {k : κ} {v : ι × β} (hk : KeyAt P K ek) (hT : TMapK P T K V z) (hM : MapIs h r ek (pmV (β := β) pv) m)
    (hx : ev f x = .map (some r)) (hy : ev f y = ek k) (hv : mget m k = some v) : QV P (.lookup T x y false) ty f h (pv v.1) :=
  (q_lookup (k := k) hk hT hM hx hy).of_eq (by unfold mval; rw [hv]; rfl)
theorem q_pmNo {T K V : Nat} {z : Value} {x y : Operand} {k : κ} (hk : KeyAt P K ek) (hT : TMapK P T K V z) (hM : MapIs h r ek (pmV (β := β) pv) m)
    (hx : ev f x = .map (some r)) (hy : ev f y = ek k) (hv : mget m k = none) : QV P (.lookup T x y false) ty f h z :=
  (q_lookup (k := k) hk hT hM hx hy).of_eq (by unfold mval; rw [hv]; rfl)
theorem pm_some [Inhabited ι] [Inhabited β] {m : PmM κ ι β} {k : κ} (h : (mget m k).isSome = true) : mget m k = some ((mget0 m k).1, (mget0 m k).2) := by
  unfold mget0
  cases e : mget m k with
  | none => rw [e] at h; cases h
  | some x => rfl
theorem pm_none {m : PmM κ ι β} {k : κ} (h : (mget m k).isSome = false) : mget m k = none := by
  cases e : mget m k with
  | none => rfl
  | some x => rw [e] at h; cases h
end
theorem St.unboth {F : Fz} {os : List Ow} {h : Heap} {a b : Ow} (hS : St F (Ow.both a b :: os) h) (ha : ∀ x, a.foot x → ¬ b.foot x) : St F (a :: b :: os) h := by
  have h2 := hS.parted (o1 := a) (o2 := b) 0 rfl (hS.inv 0 _ rfl).1 (hS.inv 0 _ rfl).2 (fun x hx => .inl hx) (fun x hx => .inr hx) ha
  simpa using h2
theorem St.doboth {F : Fz} {os : List Ow} {h : Heap} {a b : Ow} (hS : St F (a :: b :: os) h) : St F (Ow.both a b :: os) h := by
  have := hS.joined 0 (o2 := b) rfl
  simpa using this
theorem box_map_apart {h : Heap} {b T r : Nat} {c : Array Value} {κ ν : Type} {ek : κ → Value} {en : ν → Value} {m : List (κ × ν)} (h1 : (Ow.box b T c).inv h) (h2 : (Ow.map r ek en m).inv h) : ∀ x, (Ow.box b T c).foot x → ¬ (Ow.map r ek en m).foot x := by
  intro x e1 e2
  have e1 : x = b := e1
  have e2 : x = r := e2
  subst e1; subst e2
  obtain ⟨es, c', hb, _⟩ := h2
  have h1 : Blk h x (.cells c T (0, 0)) := h1
  have := h1.symm.trans hb; cases this
section
variable {κ ν : Type} [DecidableEq κ] {ek : κ → Value} {en : ν → Value} {P : Program} {f : Slots} {ty : TypeId} {F : Fz} {os : List Ow} {h : Heap} {i it r : Nat} {m rem : List (κ × ν)} {p : κ × ν}
theorem KeyAt.inj {K : Nat} (hk : KeyAt P K ek) (w : World) {a b : κ} (e : ek a = ek b) : a = b := by
  have he : Ents ek (fun _ : Unit => Value.bool true) #[{ key := ek b, val := .bool true, born := 0 }] 1 [(b, ())] := ⟨rfl, by simp, by simp, by simp⟩
  have h1 := hk.find a he w
  have h2 := hk.find b he w
  rw [e, h2] at h1
  have h3 := congrArg (fun x => match x with | Result.ok a _ => a.isSome | _ => true) h1
  by_cases hab : a = b
  · exact hab
  · simp [List.findIdx?_cons, hab] at h3
theorem IterCur.idx (hinj : ∀ a b, ek a = ek b → a = b) {es : Array MapEntry} {clock : Nat} {seen : Array Nat} {e : Nat} (hA : IterAt h it r ek en m rem es clock seen) (hb : seen.back? = some e) {x : MapEntry} (hx : es.find? (·.born == e) = some x) (hk : x.key = ek p.1) :
    ∃ j, (m.findIdx? fun q => decide (p.1 = q.1)) = some j ∧ ∃ (hj : j < es.size), es[j].born ∈ seen.toList := by
  have hmem : x ∈ es := Array.mem_of_find?_eq_some hx
  have hbo : x.born = e := by have := Array.find?_some hx; simpa using this
  obtain ⟨j, hj, hjx⟩ := Array.mem_iff_getElem.1 hmem
  have hlen : es.size = m.length := by have := congrArg List.length hA.ents.is; simpa using this
  have hjm : j < m.length := by omega
  have hkey : ek m[j].1 = ek p.1 := by
    have h1 : (es.toList.map (fun e => (e.key, e.val)))[j]'(by simpa using hj) = (m.map fun p => (ek p.1, en p.2))[j]'(by simpa using hjm) := by simp only [hA.ents.is]
    simp only [List.getElem_map, Prod.mk.injEq, Array.getElem_toList] at h1
    rw [← h1.1, hjx, hk]
  have hmj := hinj _ _ hkey
  refine ⟨j, ?_, hj, ?_⟩
  · rw [List.findIdx?_eq_some_iff_getElem]
    refine ⟨hjm, by simp [hmj], ?_⟩
    intro k hk'
    have hnd := hA.ents.nodup
    simp only [decide_eq_true_eq, Bool.not_eq_true, decide_eq_false_iff_not]
    intro e'
    have h2 : (m.map Prod.fst)[k]'(by simp; omega) = (m.map Prod.fst)[j]'(by simpa using hjm) := by simp [hmj, ← e']
    have := (List.getElem_inj hnd).1 h2
    omega
  · rw [hjx, hbo]
    have := Array.back?_eq_some_iff.1 hb
    obtain ⟨s', rfl⟩ := this
    simp
theorem left_modify {es : Array MapEntry} {m : List (κ × ν)} {seen : Array Nat} {j : Nat} {g : MapEntry → MapEntry} (hg : ∀ e, (g e).born = e.born) {v : κ × ν} (hj : ∀ h : j < es.size, es[j].born ∈ seen.toList) (hl : es.size = m.length) :
    (Go.HL.leftOf (es.modify j g) (m.set j v) seen).map (·.2) = (Go.HL.leftOf es m seen).map (·.2) := by
  unfold Go.HL.leftOf
  rw [Array.toList_modify]
  have key : ∀ (l : List MapEntry) (m : List (κ × ν)) (j : Nat), l.length = m.length → (∀ h : j < l.length, l[j].born ∈ seen.toList) → (((l.modify j g).zip (m.set j v)).filter fun x => !seen.contains x.1.born).map (·.2) = ((l.zip m).filter fun x => !seen.contains x.1.born).map (·.2) := by
    intro l
    induction l with
    | nil => intro m j _ _; simp
    | cons a l ih =>
      intro m j hl hj
      match m, hl with
      | b :: m, hl =>
        cases j with
        | zero =>
          have : a.born ∈ seen.toList := hj (by simp)
          have h1 : a.born ∈ seen := by simpa using this
          have h2 : (g a).born ∈ seen := by rw [hg]; exact h1
          simp [List.filter_cons, h1, h2, List.modify_cons]
        | succ j =>
          have := ih m j (by simpa using hl) (fun h => by have := hj (by simpa using h); simpa using this)
          simp only [List.modify_succ_cons, List.set_cons_succ, List.zip_cons_cons, List.filter_cons]
          split
          · simp only [List.map_cons, this]
          · exact this
  exact key _ _ j (by simpa using hl) (fun h => by have := hj (by simpa using h); simpa using this)
theorem mset_at {m : List (κ × ν)} {k : κ} {v : ν} {j : Nat} (hj : (m.findIdx? fun q => decide (k = q.1)) = some j) : mset m k v = m.set j (k, v) := by
  induction m generalizing j with
  | nil => simp at hj
  | cons p r ih =>
    rw [List.findIdx?_cons] at hj
    unfold mset
    by_cases e : k = p.1
    · simp only [e, decide_true, if_true, Option.some.injEq] at hj
      subst hj; rw [if_pos e]; simp [e]
    · simp only [e, decide_false, Bool.false_eq_true, if_false, Option.map_eq_some_iff] at hj
      obtain ⟨j', hj', rfl⟩ := hj
      rw [if_neg e, ih hj']; simp
theorem left_erase {es : Array MapEntry} {m : List (κ × ν)} {seen : Array Nat} {j : Nat} (hj : ∀ h : j < es.size, es[j].born ∈ seen.toList) (hl : es.size = m.length) (hlt : j < es.size) :
    (Go.HL.leftOf (es.eraseIdxIfInBounds j) (m.eraseIdx j) seen).map (·.2) = (Go.HL.leftOf es m seen).map (·.2) := by
  unfold Go.HL.leftOf Array.eraseIdxIfInBounds
  rw [dif_pos hlt, Array.toList_eraseIdx]
  have key : ∀ (l : List MapEntry) (m : List (κ × ν)) (j : Nat), l.length = m.length → (∀ h : j < l.length, l[j].born ∈ seen.toList) → (((l.eraseIdx j).zip (m.eraseIdx j)).filter fun x => !seen.contains x.1.born).map (·.2) = ((l.zip m).filter fun x => !seen.contains x.1.born).map (·.2) := by
    intro l
    induction l with
    | nil => intro m j _ _; simp
    | cons a l ih =>
      intro m j hl hj
      match m, hl with
      | b :: m, hl =>
        cases j with
        | zero =>
          have : a.born ∈ seen.toList := hj (by simp)
          have h1 : a.born ∈ seen := by simpa using this
          simp [List.filter_cons, h1]
        | succ j =>
          have := ih m j (by simpa using hl) (fun h => by have := hj (by simpa using h); simpa using this)
          simp only [List.eraseIdx_cons_succ, List.zip_cons_cons, List.filter_cons]
          split
          · simp only [List.map_cons, this]
          · exact this
  exact key _ _ j (by simpa using hl) (fun h => by have := hj (by simpa using h); simpa using this)
def IterAtK (h : Heap) (it r : Nat) (ek : κ → Value) (en : ν → Value) (m rem : List (κ × ν)) (k : κ) (born : Nat) : Prop :=
  ∃ es clock seen j, IterAt h it r ek en m rem es clock seen ∧ (m.findIdx? fun q => decide (k = q.1)) = some j ∧ ∃ hj : j < es.size, es[j].born = born ∧ es[j].born ∈ seen.toList
theorem IterAtK.mapIs {k : κ} {born : Nat} (a : IterAtK h it r ek en m rem k born) : MapIs h r ek en m := let ⟨es, c, _, _, A, _⟩ := a; ⟨es, c, A.map, A.ents⟩
theorem iterAt_ne {es : Array MapEntry} {clock : Nat} {seen : Array Nat} (A : IterAt h it r ek en m rem es clock seen) : it ≠ r := by
  rintro rfl; have := A.iter.symm.trans A.map; cases this
theorem Ents.rekey {es : Array MapEntry} {clock : Nat} (he : Ents ek en es clock m) {k : κ} {i : Nat} (hi : (m.findIdx? fun p => decide (k = p.1)) = some i) : (es.modify i fun e => { e with key := ek k }) = es := by
  apply Array.ext
  · simp
  · intro j h1 h2
    rw [Array.getElem_modify]
    split
    · rename_i e; subst e
      have h1 := congrArg (fun l => (l[i]?).map Prod.fst) he.is
      simp only [List.getElem?_map, Array.getElem?_toList, Option.map_map] at h1
      obtain ⟨hlt, hki, _⟩ := List.findIdx?_eq_some_iff_getElem.1 hi
      rw [Array.getElem?_eq_getElem h2, List.getElem?_eq_getElem hlt] at h1
      simp only [Option.map_some, Function.comp_apply, Option.some.injEq] at h1
      have h4 : es[i].key = ek k := by rw [h1, of_decide_eq_true hki]
      have hq : ∀ e : MapEntry, e.key = ek k → { e with key := ek k } = e := fun e q => by cases e; simp only at q; rw [q]
      exact hq _ h4
    · rfl
theorem e_mapEntryCur {T K E : Nat} {z : Value} {x y : Operand} [Inhabited ν] (hk : KeyAt P K ek) (hT : TMapK P T K E z) (hC : IterCur h it r ek en m rem p)
    (hx : ev f x = .map (some r)) (hy : ev f y = ek p.1) :
    EV P (.mapEntry T x y) ty f h (fun v h' => ∃ born : Nat, v = .tuple #[en (mget0 m p.1), .int .i64 (born : Int)] ∧ ∃ o, Upd h r o h' ∧ IterAtK h' it r ek en m rem p.1 born) := by
  intro dst pos after guard w hw
  obtain ⟨es, clock, seen, e, A, hback, y', hfind, hkey', hval'⟩ := hC
  subst hw
  obtain ⟨i, hi, hil, hseen⟩ := IterCur.idx (fun a b => hk.inj w) A hback hfind hkey'
  have hb := A.map
  have he := A.ents
  have hnc : ∀ c t f, Obj.map es clock ≠ .cells c t f := fun _ _ _ e => by cases e
  have hpl := hk.plain false p.1 w
  have hfk := hk.find p.1 he w
  have hsome : mget m p.1 ≠ none := fun e => by rw [findIdx_none.2 e] at hi; cases hi
  obtain ⟨v, hv⟩ := Option.ne_none_iff_exists'.1 hsome
  have hd : mget0 m p.1 = v := by unfold mget0; rw [hv]; rfl
  have hre := Ents.rekey he hi
  have hkey : ((es[i]?).map (·.key)).getD (ek p.1) = ek p.1 := by
    have h1 := congrArg (fun l => (l[i]?).map (·.key)) hre
    simp only [Array.getElem?_modify, if_true, Option.map_map] at h1
    rw [← h1, Array.getElem?_eq_getElem hil]; rfl
  have hks : (Instr.keyThatStays (((es[i]?).map (·.key)).getD (ek p.1)) (ek p.1)).run P w = .ok (ek p.1) w := by
    rw [hkey]; unfold Instr.keyThatStays; rw [if_pos (hk.bits p.1)]; rfl
  have hU : Upd w.heap r (.map es clock) (w.heap.setIfInBounds r (.map es clock)) := ⟨hb.lt, rfl⟩
  refine ⟨.tuple #[en (mget0 m p.1), .int .i64 (es[i].born : Int)], { w with heap := w.heap.setIfInBounds r (.map es clock) }, ?_, ⟨rfl, rfl, rfl, fun _ => Nat.le_refl _⟩, _, rfl, _, hU, es, clock, seen, i, ⟨hU.blk rfl, he, A.iter.upd hU (iterAt_ne A), A.rem⟩, hi, hil, rfl, hseen⟩
  simp only [execOp, hx, hy, Instr.mapEntry, Sem.run_bind, run_underlying hT.und, Result.andThen_ok, run_getObj hb hnc, hpl, hfk, hi, Option.map_some, hks, run_setObj hb hnc, hv, Option.getD_some]
  rw [hd, Array.getElem?_eq_getElem hil, hre]; rfl
theorem s_entryStoreCur {T born : Nat} {x s u : Operand} {k : κ} {v : ν} (hM : IterAtK h it r ek en m rem k born) (hx : ev f x = .map (some r)) (hs : ev f s = .int .i64 (born : Int)) (hu : ev f u = en v) :
    ES P (.entryStore T x s u) ty f h (fun h' => ∃ o, Upd h r o h' ∧ IterIs h' it r ek en (mset m k v) rem) := by
  intro dst pos after guard w hw
  obtain ⟨es, clock, seen, i, A, hi, hil, hbi, hseen⟩ := hM
  subst hw
  have hb := A.map
  have he := A.ents
  have hnc : ∀ c t f, Obj.map es clock ≠ .cells c t f := fun _ _ _ e => by cases e
  have hlen : es.size = m.length := by have := congrArg List.length he.is; simpa using this
  have hfi : es.findIdx? (fun e => (e.born : Int) == (born : Int)) = some i := by
    rw [Array.findIdx?_eq_some_iff_getElem]
    refine ⟨hil, by simp [hbi], fun j hj => ?_⟩
    have hne : es[j].born ≠ born := by
      intro e
      have hap := he.apart
      have h1 : (es.toList.map (·.born))[j]'(by simp; omega) = (es.toList.map (·.born))[i]'(by simpa using hil) := by simp [e, hbi]
      have := (List.getElem_inj hap).1 h1
      omega
    simpa using fun e => hne (by exact_mod_cast e)
  have hkeep : es.modify i (fun e => { e with val := en v }) = es.modify i fun e => { e with key := ek k, val := en v } := by
    have hre := Ents.rekey he hi
    apply Array.ext
    · simp
    · intro j h1 h2
      simp only [Array.size_modify] at h1
      rw [Array.getElem_modify, Array.getElem_modify]
      split
      · rename_i e; subst e
        have h3 : (es.modify i fun e => { e with key := ek k })[i]'(by simpa using h1) = es[i] := by simp only [hre]
        rw [Array.getElem_modify] at h3
        simp only [if_true] at h3
        have h4 : es[i].key = ek k := by rw [← h3]
        simp only [h4]
      · rfl
  have hE := he.mset k v hi
  rw [← hkeep] at hE
  have hU : Upd w.heap r (.map (es.modify i fun e => { e with val := en v }) clock) (w.heap.setIfInBounds r (.map (es.modify i fun e => { e with val := en v }) clock)) := ⟨hb.lt, rfl⟩
  refine ⟨{ w with heap := w.heap.setIfInBounds r (.map (es.modify i fun e => { e with val := en v }) clock) }, ?_, ⟨rfl, rfl, rfl, fun _ => Nat.le_refl _⟩, _, hU, _, clock, seen, ⟨hU.blk rfl, hE, A.iter.upd hU (iterAt_ne A), ?_⟩⟩
  · simp only [execOp, hx, hs, hu, Instr.entryStore, Sem.run_bind, run_getObj hb hnc, Result.andThen_ok, asInt, asIntOf, pure, Sem.run]
    rw [hfi]; simp only [run_setObj hb hnc, Result.andThen_ok]
  · rw [mset_at hi]; exact (left_modify (g := fun e => { e with val := en v }) (fun _ => rfl) (fun _ => hseen) hlen).trans A.rem
theorem e_deleteCur {T K E : Nat} {z : Value} {x y : Operand} {ts : Array TypeId} (hk : KeyAt P K ek) (hT : TMapK P T K E z) (hC : IterCur h it r ek en m rem p)
    (hx : ev f x = .map (some r)) (hy : ev f y = ek p.1) (ht : ts[0]? = some T) :
    EV P (.call ⟨.builtin .delete, #[x, y], ts⟩) ty f h (fun v h' => v = .tuple #[] ∧ ∃ o, Upd h r o h' ∧ IterIs h' it r ek en (mdel m p.1) rem) := by
  intro dst pos after guard w hw
  obtain ⟨es, clock, seen, e, A, hback, y', hfind, hkey', hval'⟩ := hC
  subst hw
  obtain ⟨i, hi, hil, hseen⟩ := IterCur.idx (fun a b => hk.inj w) A hback hfind hkey'
  have hb := A.map
  have he := A.ents
  have hlen : es.size = m.length := by have := congrArg List.length he.is; simpa using this
  have hnc : ∀ c t f, Obj.map es clock ≠ .cells c t f := fun _ _ _ e => by cases e
  have hpl := hk.plain es.isEmpty p.1 w
  have hfk := hk.find p.1 he w
  have hargs : (#[x, y].map (ev f)) = #[.map (some r), ek p.1] := by simp [hx, hy]
  have hU : Upd w.heap r (.map (es.eraseIdxIfInBounds i) clock) (w.heap.setIfInBounds r (.map (es.eraseIdxIfInBounds i) clock)) := ⟨hb.lt, rfl⟩
  refine ⟨.tuple #[], { w with heap := w.heap.setIfInBounds r (.map (es.eraseIdxIfInBounds i) clock) }, ?_, ⟨rfl, rfl, rfl, fun _ => Nat.le_refl _⟩, rfl, _, hU, _, clock, seen, ⟨hU.blk rfl, he.mdel p.1 hi, A.iter.upd hU (iterAt_ne A), ?_⟩⟩
  · simp only [execOp, resolve, invoke, builtin, hargs, Sem.run_bind, pure, Sem.run, Result.andThen_ok, Builtin.delete_, ht]
    simp only [List.getElem?_toArray, List.getElem?_cons_zero, List.getElem?_cons_succ, Sem.run_bind, run_underlying hT.und, Result.andThen_ok, run_getObj hb hnc, hpl, hfk, hi, Option.map_some, run_setObj hb hnc, Sem.run]
  · rw [mdel_idx he.nodup hi, left_erase (fun _ => hseen) hlen hil, A.rem]
def Ow.iat (it r : Nat) (ek : κ → Value) (en : ν → Value) (m rem : List (κ × ν)) (k : κ) (born : Nat) : Ow where
  foot x := x = it ∨ x = r
  inv h := IterAtK h it r ek en m rem k born
  lt h x hi hx := by
    obtain ⟨es, c, s, j, A, _⟩ := hi
    rcases hx with rfl | rfl
    · exact A.iter.lt
    · exact A.map.lt
  loc h h' hi hk := let ⟨es, c, s, j, A, q⟩ := hi; ⟨es, c, s, j, ⟨(hk r (.inr rfl)).trans A.map, A.ents, (hk it (.inl rfl)).trans A.iter, A.rem⟩, q⟩
theorem st_mapEntryCur {T K E : Nat} {z : Value} {x y : Operand} [Inhabited ν] (hS : St F os h) (hi : os[i]? = some (Ow.cur it r ek en m rem p)) (hk : KeyAt P K ek) (hT : TMapK P T K E z)
    (hx : ev f x = .map (some r)) (hy : ev f y = ek p.1) :
    EV P (.mapEntry T x y) ty f h (fun v h' => ∃ born : Nat, v = .tuple #[en (mget0 m p.1), .int .i64 (born : Int)] ∧ St F (os.set i (Ow.iat it r ek en m rem p.1 born)) h' ∧ Kp F h F h') :=
  EV.imp (e_mapEntryCur hk hT (hS.cu i hi) hx hy) fun v h' ⟨born, hv, o, hu, hm⟩ => ⟨born, hv, hS.turn i hi (Ow.iat it r ek en m rem p.1 born) hm (fun b hb => .inl hb) (Nat.le_of_eq hu.size.symm) (fun b hb hne => hu.keep fun e => hne (.inr e))⟩
theorem St.ia {k : κ} {born : Nat} (hS : St F os h) (i : Nat) (hi : os[i]? = some (Ow.iat it r ek en m rem k born)) : IterAtK h it r ek en m rem k born := hS.inv i _ hi
theorem st_entryStoreCur {T born : Nat} {x s u : Operand} {k : κ} {v : ν} (hS : St F os h) (hi : os[i]? = some (Ow.iat it r ek en m rem k born)) (hx : ev f x = .map (some r)) (hs : ev f s = .int .i64 (born : Int)) (hu : ev f u = en v) :
    ES P (.entryStore T x s u) ty f h (fun h' => St F (os.set i (Ow.iter it r ek en (mset m k v) rem)) h' ∧ Kp F h F h') :=
  ES.imp (s_entryStoreCur (hS.ia i hi) hx hs hu) fun h' ⟨o, hu, hm⟩ => hS.turn i hi (Ow.iter it r ek en (mset m k v) rem) hm (fun b hb => .inl hb) (Nat.le_of_eq hu.size.symm) (fun b hb hne => hu.keep fun e => hne (.inr e))
theorem st_deleteCur {T K E : Nat} {z : Value} {x y : Operand} {ts : Array TypeId} (hS : St F os h) (hi : os[i]? = some (Ow.cur it r ek en m rem p)) (hk : KeyAt P K ek) (hT : TMapK P T K E z)
    (hx : ev f x = .map (some r)) (hy : ev f y = ek p.1) (ht : ts[0]? = some T) :
    EV P (.call ⟨.builtin .delete, #[x, y], ts⟩) ty f h (fun v h' => v = .tuple #[] ∧ St F (os.set i (Ow.iter it r ek en (mdel m p.1) rem)) h' ∧ Kp F h F h') :=
  EV.imp (e_deleteCur hk hT (hS.cu i hi) hx hy ht) fun v h' ⟨hv, o, hu, hm⟩ => ⟨hv, hS.turn i hi (Ow.iter it r ek en (mdel m p.1) rem) hm (fun b hb => .inl hb) (Nat.le_of_eq hu.size.symm) (fun b hb hne => hu.keep fun e => hne (.inr e))⟩
theorem Phi.of_cur [Inhabited ν] {k : κ} (hM : IterCur h it r ek en m rem p) : Phi h r ek en k (mget0 m k) := ⟨m, hM.is.mapIs, rfl⟩
theorem Phi.of_iat [Inhabited ν] {k k' : κ} {born : Nat} (hM : IterAtK h it r ek en m rem k' born) : Phi h r ek en k (mget0 m k) := ⟨m, hM.mapIs, rfl⟩
end
end Go.Wk
