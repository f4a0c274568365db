/- Maps of things that hold slices: what is known of the things a map holds. -/
import Derived.Test.YtmbkoonblmfdpaaGreatNest
import Derived.Test.YtmbkoonblmfdpaaGreatMapK
import Derived.Test.YtmbkoonblmfdpaaGreatBag
set_option linter.unusedSimpArgs false
set_option linter.unusedVariables false
set_option linter.unusedSectionVars false
namespace Go.Wk
open Go.HL
variable [DM]
variable {κ ν : Type} [DecidableEq κ]
def mgetD (z : ν) (m : List (κ × ν)) (k : κ) : ν := (mget m k).getD z
theorem mvalD {en : ν → Value} {z : ν} {zv : Value} (hz : en z = zv) (m : List (κ × ν)) (k : κ) : mval en zv m k = en (mgetD z m k) := by
  unfold mval mgetD; cases mget m k
  · exact hz.symm
  · rfl
theorem mset_sub {m : List (κ × ν)} {k : κ} {v : ν} : ∀ {p}, p ∈ mset m k v → p = (k, v) ∨ p ∈ m := by
  induction m with
  | nil => intro p hp; exact .inl (by simpa [mset] using hp)
  | cons a m ih =>
    intro p hp
    unfold mset at hp
    split at hp
    · rcases List.mem_cons.1 hp with e | e
      · exact .inl e
      · exact .inr (List.mem_cons_of_mem _ e)
    · rcases List.mem_cons.1 hp with e | e
      · exact .inr (by rw [e]; exact List.mem_cons_self ..)
      · exact (ih e).imp id (List.mem_cons_of_mem _)
section
variable {α β : Type}
def Nf.all (n : Nf β) : Nf (List β) where
  p F h l := NfL n F h l
  q h l := NfI n h l
  kp _ _ _ _ _ s k := s.kp k
  is _ _ _ s := s.is
  init _ _ s := NfL.init s
def hotL (z : α → α) (l : List α) : List α := l.dropLast ++ (l.getLast?.map z).toList
variable {n : Nf α} {F : Fz} {h : Heap} {l : List α} {z : α → α} {a : α} {i : Int}
theorem NfL.hot (hz : ∀ x, n.p F h x → n.p F h (z x)) (s : NfL n F h l) : NfL n F h (hotL z l) := ⟨fun x hx => by
  rcases List.mem_append.1 hx with e | e
  · exact s.all x (List.dropLast_subset l e)
  · cases hl : l.getLast? with
    | none => rw [hl] at e; cases e
    | some y =>
      rw [hl] at e
      have : x = z y := by simpa using e
      rw [this]; exact hz y (s.all y (List.mem_of_getLast? hl))⟩
theorem NfL.unhot (hz : ∀ x, l.getLast? = some x → n.p F h (z x) → n.p F h x) (s : NfL n F h (hotL z l)) : NfL n F h l := ⟨fun x hx => by
  cases hl : l.getLast? with
  | none => rw [List.getLast?_eq_none_iff] at hl; subst hl; cases hx
  | some y =>
    have e : l = l.dropLast ++ [y] := by
      have hne : l ≠ [] := by intro e; subst e; cases hl
      have h2 : l.getLast hne = y := by rw [List.getLast?_eq_some_getLast hne] at hl; exact Option.some.inj hl
      rw [← h2, List.dropLast_concat_getLast hne]
    rw [e] at hx
    rcases List.mem_append.1 hx with e1 | e1
    · exact s.all x (List.mem_append_left _ e1)
    · have : x = y := by simpa using e1
      subst this
      exact hz x hl (s.all _ (List.mem_append_right _ (by rw [hl]; simp)))⟩
theorem NfL.hotSet [Inhabited α] (s : NfL n F h (hotL z l)) (hi : i + 1 = (l.length : Int)) (ha : z a = z (gi l i)) : NfL n F h (hotL z (l.set i.toNat a)) := by
  by_cases hne : l = []
  · subst hne; exact s
  obtain ⟨r, y, rfl⟩ : ∃ r y, l = r ++ [y] := ⟨l.dropLast, l.getLast hne, (List.dropLast_concat_getLast hne).symm⟩
  have h0 : i.toNat = r.length := by simp at hi; omega
  have h1 : (r ++ [y]).set i.toNat a = r ++ [a] := by rw [h0, List.set_append_right _ _ (Nat.le_refl _)]; simp
  have h2 : gi (r ++ [y]) i = y := by
    have hlt : i < ((r ++ [y]).length : Int) := by omega
    have h3 : 0 ≤ i := by simp at hi; omega
    rw [gi_lt h3 hlt]; simp [h0]
  rw [h2] at ha; rw [h1]
  have h4 : ∀ u, hotL z (r ++ [u]) = r ++ [z u] := by intro u; simp [hotL]
  rw [h4, ha]; rw [h4] at s; exact s
end
variable {n : Nf ν} {F : Fz} {h : Heap} {m : List (κ × ν)} {k : κ} {x z : ν}
theorem NfL.mset (s : NfL n F h (m.map (·.2))) (k : κ) (p : n.p F h x) : NfL n F h ((mset m k x).map (·.2)) := ⟨fun y hy => by
  obtain ⟨q, hq, rfl⟩ := List.mem_map.1 hy
  rcases mset_sub hq with e | e
  · rw [e]; exact p
  · exact s.all _ (List.mem_map.2 ⟨q, e, rfl⟩)⟩
theorem NfL.mdel (s : NfL n F h (m.map (·.2))) (k : κ) : NfL n F h ((mdel m k).map (·.2)) := ⟨fun y hy => by
  obtain ⟨q, hq, rfl⟩ := List.mem_map.1 hy
  exact s.all _ (List.mem_map.2 ⟨q, (List.mem_filter.1 hq).1, rfl⟩)⟩
theorem NfL.mgetD (s : NfL n F h (m.map (·.2))) (k : κ) (hz : n.p F h z) : n.p F h (mgetD z m k) := by
  unfold Go.Wk.mgetD
  rcases hq : mget m k with _ | v
  · exact hz
  · unfold mget at hq
    rcases hf : m.find? (fun p => decide (k = p.1)) with _ | p
    · rw [hf] at hq; cases hq
    · rw [hf] at hq
      have : p.2 = v := by simpa using hq
      show n.p F h v
      rw [← this]
      exact s.all _ (List.mem_map.2 ⟨p, List.mem_of_find?_eq_some hf, rfl⟩)
theorem bagAt_cases {α : Type} (m : List (κ × (Value × List α))) (k : κ) : bagAt m k = (.slice none 0 0, []) ∨ ∃ p ∈ m, p.2 = bagAt m k := by
  unfold bagAt
  cases e : mget m k with
  | none => exact .inl rfl
  | some x => obtain ⟨p, hp, e⟩ := mget_mem e; exact .inr ⟨p, hp, e⟩
theorem NfL.bagAt {α : Type} {n : Nf α} {F : Fz} {h : Heap} {m : List (κ × (Value × List α))} (s : NfL (Nf.all n) F h (m.map (·.2.2))) (k : κ) : NfL n F h (Go.Wk.bagAt m k).2 := by
  rcases bagAt_cases m k with e | ⟨p, hp, e⟩
  · rw [e]; exact NfL.nil _ _ _
  · rw [← e]; exact s.all _ (List.mem_map.2 ⟨p, hp, rfl⟩)
theorem NfL.msetB {α : Type} {n : Nf α} {F : Fz} {h : Heap} {m : List (κ × (Value × List α))} {v : Value} {l : List α} (s : NfL (Nf.all n) F h (m.map (·.2.2))) (k : κ) (t : NfL n F h l) : NfL (Nf.all n) F h ((Go.HL.mset m k (v, l)).map (·.2.2)) := ⟨fun y hy => by
  obtain ⟨q, hq, rfl⟩ := List.mem_map.1 hy
  rcases mset_sub hq with e | e
  · rw [e]; exact t
  · exact s.all _ (List.mem_map.2 ⟨q, e, rfl⟩)⟩
section
variable {α : Type} {P : Program} {f : Slots} {ty : TypeId} {F F' : Fz} {os : List Ow} {h h' : Heap} {r E kk : Nat} {ek : κ → Value} {enc : α → List Value} {m : BagM κ α} {i : Nat}
def Ow.bagE (r : Nat) (ek : κ → Value) (E kk : Nat) (enc : α → List Value) (m : BagM κ α) (k : κ) (born : Nat) : Ow where
  foot x := x = r ∨ ∃ p ∈ m, k ≠ p.1 ∧ blockOf p.2.1 = some x
  inv h := MapAt h r ek bagV (mset m k (Go.Wk.bagAt m k)) k born ∧ (∀ p ∈ m, k ≠ p.1 → OwnIs h 0 E kk enc p.2.1 p.2.2) ∧ (∀ p ∈ m, k ≠ p.1 → blockOf p.2.1 ≠ some r) ∧
    (∀ p ∈ m, ∀ q ∈ m, k ≠ p.1 → k ≠ q.1 → p.1 ≠ q.1 → ∀ b, blockOf p.2.1 = some b → blockOf q.2.1 ≠ some b)
  lt h x hi hx := by
    rcases hx with rfl | ⟨p, hp, hb, hx⟩
    · exact hi.1.mapIs.lt
    · exact (hi.2.1 p hp hb).lt hx
  loc h h' hi hk := by
    refine ⟨?_, fun p hp hb => (hi.2.1 p hp hb).keep fun b hx => hk b (.inr ⟨p, hp, hb, hx⟩), hi.2.2⟩
    obtain ⟨es, c, j, hb, he⟩ := hi.1
    exact ⟨es, c, j, (hk r (.inl rfl)).trans hb, he⟩
theorem st_bagEntry {T K V : Nat} {x y : Operand} {k : κ} (hS : St F os h) (hi : os[i]? = some (Ow.bag r ek E kk enc m none)) (hk : KeyAt P K ek) (hT : TMapK P T K V (.slice none 0 0))
    (hx : ev f x = .map (some r)) (hy : ev f y = ek k) :
    EV P (.mapEntry T x y) ty f h (fun v h' => ∃ born : Nat, v = .tuple #[(Go.Wk.bagAt m k).1, .int .i64 (born : Int)] ∧ St F (Ow.own E kk enc (Go.Wk.bagAt m k).1 (Go.Wk.bagAt m k).2 :: os.set i (Ow.bagE r ek E kk enc m k born)) h' ∧ Kp F h F h') := by
  have h1 := hS.bagTake i hi k
  have hlen : i < os.length := (List.getElem?_eq_some_iff.1 hi).1
  have hi1 : (Ow.own E kk enc (Go.Wk.bagAt m k).1 (Go.Wk.bagAt m k).2 :: os.set i (Ow.bag r ek E kk enc m (some k)))[i + 1]? = some (Ow.bag r ek E kk enc m (some k)) := by
    rw [List.getElem?_cons_succ]; exact List.getElem?_set_self hlen
  have hb : BagIs h r ek E kk enc m (some k) := h1.inv _ _ hi1
  have nk : ∀ {p : κ × Value × List α}, k ≠ p.1 → some k ≠ some p.1 := fun e q => e (Option.some.inj q)
  letI : Inhabited (Value × List α) := ⟨(.slice none 0 0, [])⟩
  refine EV.imp (e_mapEntry (k := k) hk hT rfl hb.map hx hy) fun v h' ⟨born, hv, o, hu, hm⟩ => ⟨born, hv, ?_⟩
  have J := h1.turn (i + 1) hi1 (Ow.bagE r ek E kk enc m k born) (h' := h') ⟨hm, ?_, ?_, ?_⟩ ?_ (Nat.le_of_eq hu.size.symm) (fun b _ hf => hu.keep fun e => hf (.inl e))
  · rw [List.set_cons_succ, List.set_set] at J; exact J
  · intro p hp e
    exact (hb.own p hp (nk e)).keep fun b hv => hu.keep fun q => hb.off p hp (nk e) (q ▸ hv)
  · intro p hp e; exact hb.off p hp (nk e)
  · intro p hp q hq e1 e2; exact hb.apart p hp q hq (nk e1) (nk e2)
  · rintro b (rfl | ⟨p, hp, e, hx⟩)
    · exact .inl (.inl rfl)
    · exact .inl (.inr ⟨p, hp, nk e, hx⟩)
theorem st_bagStore {T born : Nat} {x s u : Operand} {k : κ} {v : Value} {l : List α} (hS : St F (Ow.own E kk enc v l :: os) h) (hi : os[i]? = some (Ow.bagE r ek E kk enc m k born))
    (hx : ev f x = .map (some r)) (hs : ev f s = .int .i64 (born : Int)) (hu : ev f u = v) :
    ES P (.entryStore T x s u) ty f h (fun h' => St F (os.set i (Ow.bag r ek E kk enc (Go.HL.mset m k (v, l)) none)) h' ∧ Kp F h F h') := by
  have hi' : (Ow.own E kk enc v l :: os)[i + 1]? = some (Ow.bagE r ek E kk enc m k born) := by simpa using hi
  obtain ⟨bM, bO, bF, bA⟩ := (hS.inv _ _ hi' : (Ow.bagE r ek E kk enc m k born).inv h)
  have ho : OwnIs h 0 E kk enc v l := hS.inv 0 _ rfl
  have hap : ∀ b, blockOf v = some b → ¬ (b = r ∨ ∃ p ∈ m, k ≠ p.1 ∧ blockOf p.2.1 = some b) := fun b hv => hS.apart 0 (i + 1) _ _ (by omega) rfl hi' b hv
  have hlen : i < os.length := (List.getElem?_eq_some_iff.1 hi).1
  refine ES.imp (s_entryStore (v := (v, l)) bM hx hs hu) fun h' ⟨o, hU, hM⟩ => ?_
  rw [mset_mset] at hM
  have mem : ∀ p ∈ Go.HL.mset m k (v, l), (p.1 = k ∧ p.2 = (v, l)) ∨ (k ≠ p.1 ∧ p ∈ m) := by
    intro p hp
    by_cases e : p.1 = k
    · have hg := (mem_iff_mget hM.nodup p.1 p.2).1 hp
      rw [mget_mset, if_pos e] at hg
      exact .inl ⟨e, (Option.some.inj hg).symm⟩
    · rcases mset_sub hp with q | q
      · exact absurd (congrArg Prod.fst q) e
      · exact .inr ⟨fun q => e q.symm, q⟩
  have hold : ∀ b, b ≠ r → h'[b]? = h[b]? := fun b hne => hU.keep hne
  have J := (hS.joined i hi).turn i (List.getElem?_set_self hlen) (Ow.bag r ek E kk enc (Go.HL.mset m k (v, l)) none) (h' := h')
    ⟨hM, ?_, ?_, ?_⟩ ?_ (by rw [hU.size]; exact Nat.le_refl _) (fun b _ hf => hold b fun e => hf (.inr (.inl e)))
  · rw [List.set_set] at J; exact J
  · intro p hp _
    rcases mem p hp with ⟨_, e⟩ | ⟨e, hp⟩
    · rw [e]; exact ho.keep fun b hv => hold b fun q => hap b hv (.inl q)
    · exact (bO p hp e).keep fun b hv => hold b fun q => bF p hp e (q ▸ hv)
  · intro p hp _
    rcases mem p hp with ⟨_, e⟩ | ⟨e, hp⟩
    · rw [e]; exact fun q => hap r q (.inl rfl)
    · exact bF p hp e
  · intro p hp q hq _ _ hne b h1 h2
    rcases mem p hp with ⟨e1, e⟩ | ⟨e1, hp⟩ <;> rcases mem q hq with ⟨e2, e'⟩ | ⟨e2, hq⟩
    · exact hne (e1.trans e2.symm)
    · rw [e] at h1; exact hap b h1 (.inr ⟨q, hq, e2, h2⟩)
    · rw [e'] at h2; exact hap b h2 (.inr ⟨p, hp, e1, h1⟩)
    · exact bA p hp q hq e1 e2 hne b h1 h2
  · rintro b (rfl | ⟨p, hp, _, hx⟩)
    · exact .inl (.inr (.inl rfl))
    · rcases mem p hp with ⟨_, e⟩ | ⟨e, hp⟩
      · rw [e] at hx; exact .inl (.inl hx)
      · exact .inl (.inr (.inr ⟨p, hp, e, hx⟩))
end
section
variable {α : Type} {P : Program} {f : Slots} {ty : TypeId} {F : Fz} {os : List Ow} {h : Heap} {E k : Nat} {enc : α → List Value} {v : Value} {l : List α} {i : Nat}
theorem flat_at (enc : α → List Value) (k : Nat) (l : List α) (he : ∀ x ∈ l, (enc x).length = k) (n : Nat) (hn : n < l.length) : ((l.flatMap enc).drop (n * k)).take k = enc l[n] := by
  have e : l = l.take n ++ l[n] :: l.drop (n + 1) := by rw [List.getElem_cons_drop, List.take_append_drop]
  have h1 : ((l.take n).flatMap enc).length = n * k := by rw [flat_len enc k _ fun x hx => he x (List.mem_of_mem_take hx), List.length_take, Nat.min_eq_left (by omega)]
  have h2 : (enc l[n]).length = k := he _ (List.getElem_mem hn)
  have h3 : l.flatMap enc = (l.take n).flatMap enc ++ (enc l[n] ++ (l.drop (n + 1)).flatMap enc) := by
    have := congrArg (List.flatMap enc) e
    rw [List.flatMap_append, List.flatMap_cons] at this; exact this
  rw [h3, ← h1, List.drop_left, ← h2, List.take_left]
theorem st_storeFieldAgg {T' m j : Nat} {x y : Operand} {a : α} {vs : Array Value} {t : Int} [Inhabited α] (hS : St F os h) (hi : os[i]? = some (Ow.own E k enc v l)) (hT : TAgg P T' m) (hx : ev f x = fieldPtr k v t.toNat j) (hb : 0 ≤ t ∧ t < (l.length : Int))
    (hj : j + m ≤ k) (hy : ev f y = .agg vs) (hm : vs.size = m) (ha : enc a = (enc (gi l t)).take j ++ vs.toList ++ (enc (gi l t)).drop (j + m)) (h1 : ∀ u ∈ vs.toList, u.oneCell' = true) :
    ES P (.store T' x y) ty f h (fun h' => St F (os.set i (Ow.own E k enc v (l.set t.toNat a))) h' ∧ Kp F h F h') := by
  have o := hS.own i hi
  have htl : t.toNat < l.length := by omega
  rw [gi_lt hb.1 hb.2] at ha
  rcases o.row.2 with ⟨_, e⟩ | ⟨g, cap, cur, hv, _, hg, hle, hcm, hcs, e7⟩
  · omega
  have h1k : t.toNat * k + k ≤ l.length * k := by rw [← Nat.succ_mul]; exact Nat.mul_le_mul_right _ (by omega)
  have h2k : l.length * k ≤ cap * k := Nat.mul_le_mul_right _ hle
  have hD : (cur.toList.drop (t.toNat * k)).take k = enc l[t.toNat] := by
    have := flat_at enc k l o.enc_len t.toNat htl
    rw [← e7, List.drop_take, List.take_take, Nat.min_eq_left (by omega)] at this; exact this
  have hDl : k ≤ (cur.toList.drop (t.toNat * k)).length := by rw [List.length_drop, Array.length_toList]; omega
  refine ES.imp (s_storeAgg (o := t.toNat * k + j) hT hg (by rw [hx, hv]; simp only [fieldPtr, add_mk, Nat.zero_add]) hy hm h1 (by rw [hm]; omega) rfl) fun h' hu => ?_
  obtain ⟨ho, hgr⟩ := own_put o hv hg t.toNat [a] (by
    intro x hx; simp at hx; subst hx; rw [ha]
    have := o.enc_len _ (List.getElem_mem htl)
    simp [this, hm]; omega) (by simp; omega) hu (by
      have q1 : cur.toList.take (t.toNat * k + j) = cur.toList.take (t.toNat * k) ++ (cur.toList.drop (t.toNat * k)).take j := List.take_add
      have q2 : (enc l[t.toNat]).take j = (cur.toList.drop (t.toNat * k)).take j := by rw [← hD, List.take_take, Nat.min_eq_left (by omega)]
      have q3 : cur.toList.drop (t.toNat * k + j + m) = (enc l[t.toNat]).drop (j + m) ++ cur.toList.drop (t.toNat * k + k) := by
        rw [← hD, ← List.drop_drop (i := k) (j := t.toNat * k), Nat.add_assoc, ← List.drop_drop (i := j + m) (j := t.toNat * k)]
        rw [← List.drop_append_of_le_length (by rw [List.length_take]; omega), List.take_append_drop]
      simp only [List.flatMap_cons, List.flatMap_nil, List.append_nil, List.length_cons, List.length_nil, Nat.zero_add, Nat.one_mul]
      rw [ha, hm, q1, q2, q3]; simp only [List.append_assoc])
  have hs : l.take t.toNat ++ [a] ++ l.drop (t.toNat + [a].length) = l.set t.toNat a := by
    rw [List.set_eq_take_append_cons_drop, if_pos htl]; simp
  rw [hs] at ho
  exact hS.grown hi ho hgr
end
theorem q_nilElem {P : Program} {f : Slots} {h : Heap} {ty : TypeId} {α : Type} {k : Nat} {enc : α → List Value} {v : Value} {l : List α} {x : Operand} {t : Int} (hS : SliceIs h k enc v l) (hx : ev f x = elemPtr k v t.toNat) (hb : 0 ≤ t ∧ t < (l.length : Int)) : QV P (.nilCheck x) ty f h (elemPtr k v t.toNat) := by
  obtain ⟨⟨a, cap, hv, h1, h2, h3⟩, h4⟩ := hS
  subst hv
  rcases h3 with h3 | ⟨b, off, ha, hb', hr⟩
  · subst h3; simp at hb; omega
  · subst ha
    exact q_nilCheck hx
end Go.Wk
