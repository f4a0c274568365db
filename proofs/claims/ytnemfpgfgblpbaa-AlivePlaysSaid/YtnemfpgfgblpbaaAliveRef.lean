/- A watch against its reference: the plain law. -/
import Derived.Test.YtnemfpgfgblpbaaAlive4I
set_option linter.unusedSimpArgs false
set_option linter.unusedVariables false
set_option linter.unusedSectionVars false
namespace Go.HL.CI
open Go.HL

/-- The place of a key in a list of pairs; -1: none. -/
def fndI {ν : Type} (L : List (Int × ν)) (id : Int) : Int := match L.findIdx? (fun p => decide (id = p.1)) with | some i => (i : Int) | none => -1
/-- Before all that is not below. -/
def insAt {ν : Type} (L : List (Int × ν)) (id : Int) : Nat := (L.takeWhile fun p => decide (p.1 < id)).length
/-- One more pair, in order of the keys; one of the key is turned. -/
def wput {ν : Type} (L : List (Int × ν)) (id : Int) (x : ν) : List (Int × ν) := if (mget L id).isSome then mset L id x else L.take (insAt L id) ++ [(id, x)] ++ L.drop (insAt L id)
def wrest (L : List (Int × Int)) : List (Int × Int) := (L.filter fun p => !decide (p.2 = 1)).map fun p => (p.1, p.2 - 1)
def wgone (L : List (Int × Int)) : List Int := (L.filter fun p => decide (p.2 = 1)).map Prod.fst

section
variable {ν : Type}
theorem fnd_some {L : List (Int × ν)} {id : Int} {i : Nat} (h : i < L.length) (hi : L[i].1 = id) (hz : ∀ j (h : j < L.length), j < i → L[j].1 ≠ id) : L.findIdx? (fun p => decide (id = p.1)) = some i := by
  rw [List.findIdx?_eq_some_iff_getElem]
  exact ⟨h, by simp [hi], fun j hj => by simpa using fun e => hz j (by omega) hj e.symm⟩
theorem fnd_none {L : List (Int × ν)} {id : Int} (hz : ∀ j (h : j < L.length), L[j].1 ≠ id) : L.findIdx? (fun p => decide (id = p.1)) = none := by
  rw [List.findIdx?_eq_none_iff]
  intro p hp; obtain ⟨j, hj, rfl⟩ := List.mem_iff_getElem.1 hp
  simpa using fun e => hz j hj e.symm
theorem fndI_cases (L : List (Int × ν)) (id : Int) : (fndI L id = -1 ∧ (mget L id).isSome = false) ∨ ∃ i, ∃ h : i < L.length, fndI L id = (i : Int) ∧ L.findIdx? (fun p => decide (id = p.1)) = some i ∧ L[i].1 = id ∧ mget L id = some L[i].2 := by
  unfold fndI
  cases hf : L.findIdx? (fun p => decide (id = p.1)) with
  | none =>
    left; refine ⟨rfl, ?_⟩
    rw [List.findIdx?_eq_none_iff] at hf
    rw [Option.isSome_eq_false_iff, Option.isNone_iff_eq_none, mget_none]
    intro hm; obtain ⟨p, hp, e⟩ := List.mem_map.1 hm
    have := hf p hp; simp [e] at this
  | some i =>
    right
    obtain ⟨h1, h2, h3⟩ := List.findIdx?_eq_some_iff_getElem.1 hf
    refine ⟨i, h1, rfl, rfl, by simpa using (of_decide_eq_true h2).symm, ?_⟩
    unfold mget
    rw [show L.find? (fun p => decide (id = p.1)) = some L[i] from ?_]; rfl
    rw [List.find?_eq_some_iff_getElem]
    exact ⟨h2, i, h1, rfl, fun j hj => by simpa using h3 j hj⟩
theorem mset_set {L : List (Int × ν)} {id : Int} {x : ν} {i : Nat} (hf : L.findIdx? (fun p => decide (id = p.1)) = some i) : mset L id x = L.set i (id, x) := by
  induction L generalizing i with
  | nil => simp at hf
  | cons p r ih =>
    rw [List.findIdx?_cons] at hf
    unfold mset
    by_cases e : id = p.1
    · simp only [e, decide_true, if_true, Option.some.injEq] at hf; subst hf; rw [if_pos e]; simp
    · simp only [e, decide_false, Bool.false_eq_true, if_false, Option.map_eq_some_iff] at hf
      obtain ⟨j, hj, rfl⟩ := hf
      rw [if_neg e, ih hj]; rfl
theorem insAt_eq {L : List (Int × ν)} {id : Int} {i : Nat} (hi : i ≤ L.length) (hz : ∀ j (h : j < L.length), j < i → L[j].1 < id) (he : ∀ h : i < L.length, ¬ L[i].1 < id) : insAt L id = i := by
  unfold insAt
  induction L generalizing i with
  | nil => simp at hi; simp [hi]
  | cons p r ih =>
    cases i with
    | zero =>
      have := he (by simp); simp only [List.getElem_cons_zero] at this
      rw [List.takeWhile_cons_of_neg (by simpa using this)]; rfl
    | succ i =>
      have := hz 0 (by simp) (by omega); simp only [List.getElem_cons_zero] at this
      rw [List.takeWhile_cons_of_pos (by simpa using this), List.length_cons]
      congr 1
      exact ih (by simpa using hi) (fun j hj hji => hz (j + 1) (by simpa using hj) (by omega)) (fun h => he (by simpa using h))
theorem insAt_le (L : List (Int × ν)) (id : Int) : insAt L id ≤ L.length := by
  unfold insAt; exact (List.takeWhile_sublist _).length_le

abbrev KSrt (L : List (Int × ν)) : Prop := L.Pairwise fun p q => p.1 < q.1
theorem ksrt_nodup {L : List (Int × ν)} (h : KSrt L) : (L.map Prod.fst).Nodup := by
  rw [List.nodup_iff_pairwise_ne, List.pairwise_map]; exact h.imp fun h => by omega
theorem mset_keys {L : List (Int × ν)} {id : Int} {x : ν} (h : (mget L id).isSome = true) : (mset L id x).map Prod.fst = L.map Prod.fst := by
  rw [keys_mset, if_pos]
  rw [Option.isSome_iff_ne_none] at h
  exact Decidable.byContradiction fun hn => h (mget_none.2 hn)
theorem ksrt_of_keys {L L' : List (Int × ν)} (h : KSrt L) (e : L'.map Prod.fst = L.map Prod.fst) : KSrt L' := by
  unfold KSrt at *
  have h1 : (L.map Prod.fst).Pairwise (· < ·) := by rw [List.pairwise_map]; exact h
  rw [← e, List.pairwise_map] at h1; exact h1
theorem ins_split (L : List (Int × ν)) (id : Int) (h : KSrt L) (hn : mget L id = none) :
    (∀ p ∈ L.take (insAt L id), p.1 < id) ∧ (∀ p ∈ L.drop (insAt L id), id < p.1) := by
  have hm : id ∉ L.map Prod.fst := mget_none.1 hn
  induction L with
  | nil => simp
  | cons q r ih =>
    simp only [List.map_cons, List.mem_cons, not_or] at hm
    unfold KSrt at h; rw [List.pairwise_cons] at h
    by_cases e : q.1 < id
    · have hi : insAt (q :: r) id = insAt r id + 1 := by unfold insAt; rw [List.takeWhile_cons_of_pos (by simpa using e)]; rfl
      have := ih h.2 (mget_none.2 hm.2) hm.2
      rw [hi, List.take_succ_cons, List.drop_succ_cons]
      refine ⟨fun p hp => ?_, this.2⟩
      rcases List.mem_cons.1 hp with rfl | hp
      · exact e
      · exact this.1 p hp
    · have hi : insAt (q :: r) id = 0 := by unfold insAt; rw [List.takeWhile_cons_of_neg (by simpa using e)]; rfl
      rw [hi]; refine ⟨by simp, fun p hp => ?_⟩
      simp only [List.drop_zero] at hp
      rcases List.mem_cons.1 hp with rfl | hp
      · omega
      · have := h.1 p hp; omega
theorem mget_append {A B : List (Int × ν)} {k : Int} : mget (A ++ B) k = (mget A k).or (mget B k) := by
  induction A with
  | nil => simp [mget_nil]
  | cons p r ih => rw [List.cons_append, mget_cons, mget_cons, ih]; split <;> simp
theorem wput_get {L : List (Int × ν)} {id : Int} {x : ν} (h : KSrt L) (k : Int) : mget (wput L id x) k = if k = id then some x else mget L k := by
  unfold wput
  split
  · exact mget_mset _ _ _ _
  · rename_i hs
    have hn : mget L id = none := by simpa using hs
    obtain ⟨h1, h2⟩ := ins_split L id h hn
    have hL : mget L k = (mget (L.take (insAt L id)) k).or (mget (L.drop (insAt L id)) k) := by rw [← mget_append, List.take_append_drop]
    rw [List.append_assoc, mget_append, mget_append, hL]
    by_cases e : k = id
    · subst e
      have : mget (L.take (insAt L k)) k = none := mget_none.2 (by intro hm; obtain ⟨p, hp, e⟩ := List.mem_map.1 hm; have := h1 p hp; omega)
      rw [if_pos rfl, this, mget_cons, if_pos rfl]; simp
    · rw [if_neg e, mget_cons, if_neg e, mget_nil]; simp
theorem wput_srt {L : List (Int × ν)} {id : Int} {x : ν} (h : KSrt L) : KSrt (wput L id x) := by
  unfold wput
  split
  · rename_i hs; exact ksrt_of_keys h (mset_keys hs)
  · rename_i hs
    obtain ⟨h1, h2⟩ := ins_split L id h (by simpa using hs)
    have h0 : KSrt (L.take (insAt L id) ++ L.drop (insAt L id)) := by rw [List.take_append_drop]; exact h
    unfold KSrt at *
    rw [List.append_assoc, List.pairwise_append, List.singleton_append, List.pairwise_cons]
    rw [List.pairwise_append] at h0
    refine ⟨h0.1, ⟨h2, h0.2.1⟩, ?_⟩
    intro p hp q hq
    rcases List.mem_cons.1 hq with rfl | hq
    · exact h1 p hp
    · exact h0.2.2 p hp q hq
theorem wput_len (L : List (Int × ν)) (id : Int) (x : ν) : (wput L id x).length ≤ L.length + 1 := by
  unfold wput; split
  · rename_i h; have := congrArg List.length (mset_keys (x := x) h); simp at this; omega
  · simp; have := insAt_le L id; omega
theorem wput_mem {L : List (Int × ν)} {id : Int} {x : ν} {p : Int × ν} (h : p ∈ wput L id x) (hs : KSrt L) : p = (id, x) ∨ p ∈ L := by
  have hn : ((wput L id x).map Prod.fst).Nodup := ksrt_nodup (wput_srt hs)
  have hg := (mem_iff_mget hn p.1 p.2).1 h
  rw [wput_get hs] at hg
  split at hg
  · rename_i e; injection hg with hg; left; rw [← e, hg]
  · right; exact (mem_iff_mget (ksrt_nodup hs) p.1 p.2).2 hg
theorem mdel_srt {L : List (Int × ν)} {id : Int} (h : KSrt L) : KSrt (mdel L id) := h.sublist List.filter_sublist
/-- Sorted lists of the same keys and values are one. -/
theorem ksrt_perm {L L' : List (Int × ν)} (h : L.Perm L') (h1 : KSrt L) (h2 : KSrt L') : L = L' :=
  h.eq_of_pairwise (le := fun p q => p.1 < q.1) (fun a b _ _ x y => by omega) h1 h2
end

/-- A watch's map, and who is there by the reference. -/
structure WR (m L : List (Int × Int)) (b D : Int) : Prop where
  srt : KSrt L
  eq : ∀ k, mget m k = (mget L k).map fun x => b + x
  bd : ∀ p ∈ L, 1 ≤ p.2 ∧ p.2 ≤ D

theorem wr_nil (b D : Int) : WR [] [] b D := ⟨List.Pairwise.nil, fun _ => rfl, by simp⟩
theorem WR.some {m L : List (Int × Int)} {b D : Int} (h : WR m L b D) (k : Int) : (mget m k).isSome = (mget L k).isSome := by rw [h.eq]; simp
theorem WR.ok {m L : List (Int × Int)} {b D : Int} (h : WR m L b D) (hD : D ≤ 1000) : WOk m b := by
  intro k v hk
  rw [h.eq, Option.map_eq_some_iff] at hk
  obtain ⟨x, hx, rfl⟩ := hk
  have := h.bd _ ((mem_iff_mget (ksrt_nodup h.srt) k x).2 hx)
  omega
theorem WR.left {m L : List (Int × Int)} {b D : Int} (h : WR m L b D) (k : Int) : wleft m b k = (mget L k).getD 0 := by
  unfold wleft mgetI
  rw [h.eq]
  cases mget L k with
  | none => simp
  | some x => simp; omega
theorem WR.hear {m L : List (Int × Int)} {b D : Int} (h : WR m L b D) (hD : 1 ≤ D) (id : Int) : WR (mset m id (b + D)) (wput L id D) b D := by
  refine ⟨wput_srt h.srt, fun k => ?_, fun p hp => ?_⟩
  · rw [mget_mset, wput_get h.srt, h.eq]; split <;> rfl
  · rcases wput_mem hp h.srt with rfl | hp
    · exact ⟨hD, Int.le_refl _⟩
    · exact h.bd p hp
theorem WR.cut {m L : List (Int × Int)} {b D : Int} (h : WR m L b D) (id : Int) : WR (mdel m id) (mdel L id) b D := by
  refine ⟨mdel_srt h.srt, fun k => ?_, fun p hp => h.bd p (List.mem_filter.1 hp).1⟩
  rw [mget_mdel, mget_mdel, h.eq]; split <;> rfl
theorem wrest_srt {L : List (Int × Int)} (h : KSrt L) : KSrt (wrest L) := by
  unfold wrest KSrt; rw [List.pairwise_map]; exact (h.sublist List.filter_sublist).imp fun h => h
theorem wrest_get {L : List (Int × Int)} (h : KSrt L) (k v : Int) : mget (wrest L) k = some v ↔ mget L k = some (v + 1) ∧ v + 1 ≠ 1 := by
  rw [← mem_iff_mget (ksrt_nodup (wrest_srt h)), ← mem_iff_mget (ksrt_nodup h)]
  unfold wrest
  rw [List.mem_map]
  constructor
  · rintro ⟨⟨a, c⟩, hm, e⟩
    injection e with e1 e2
    rw [List.mem_filter] at hm
    simp only at e1 e2
    subst e1
    have : c = v + 1 := by omega
    subst this
    exact ⟨hm.1, by simpa using hm.2⟩
  · rintro ⟨hm, hv⟩
    exact ⟨(k, v + 1), List.mem_filter.2 ⟨hm, by simpa using hv⟩, by simp⟩
theorem WR.beat {m L : List (Int × Int)} {b D : Int} (h : WR m L b D) (hn : (m.map Prod.fst).Nodup) : WR (m.filter fun p => decide (b + 1 < p.2)) (wrest L) (b + 1) D := by
  refine ⟨wrest_srt h.srt, fun k => ?_, fun p hp => ?_⟩
  · apply Option.ext; intro v
    rw [mget_filter hn, Option.map_eq_some_iff, h.eq, Option.map_eq_some_iff]
    constructor
    · rintro ⟨⟨x, hx, rfl⟩, hlt⟩
      simp only [decide_eq_true_eq] at hlt
      refine ⟨x - 1, (wrest_get h.srt _ _).2 ⟨by rw [hx]; congr 1; omega, by omega⟩, by omega⟩
    · rintro ⟨x, hx, rfl⟩
      obtain ⟨h1, h2⟩ := (wrest_get h.srt _ _).1 hx
      have := h.bd _ ((mem_iff_mget (ksrt_nodup h.srt) _ _).2 h1)
      refine ⟨⟨x + 1, h1, by omega⟩, by simp only [decide_eq_true_eq]; simp only at this; omega⟩
  · unfold wrest at hp; obtain ⟨q, hq, rfl⟩ := List.mem_map.1 hp
    rw [List.mem_filter] at hq
    have := h.bd q hq.1; have h2 := hq.2; simp only [Bool.not_eq_true', decide_eq_false_iff_not] at h2
    simp only; omega
theorem WR.due {m L : List (Int × Int)} {b D : Int} {l : List Int} (h : WR m L b D) (hn : (m.map Prod.fst).Nodup) (hd : DueIs (bef m) m (b + 1) l) : l = wgone L := by
  have hk : ∀ k, k ∈ l ↔ k ∈ wgone L := by
    intro k
    rw [hd.perm.mem_iff]; unfold wgone
    simp only [List.mem_map, List.mem_filter]
    constructor
    · rintro ⟨⟨a, v⟩, ⟨hm, hv⟩, rfl⟩
      rw [mem_iff_mget hn, h.eq, Option.map_eq_some_iff] at hm
      obtain ⟨x, hx, rfl⟩ := hm
      have := h.bd _ ((mem_iff_mget (ksrt_nodup h.srt) _ _).2 hx)
      simp only [decide_eq_true_eq] at hv; simp only at this
      exact ⟨(a, x), ⟨(mem_iff_mget (ksrt_nodup h.srt) _ _).2 hx, by simp; omega⟩, rfl⟩
    · rintro ⟨⟨a, x⟩, ⟨hm, hx⟩, rfl⟩
      simp only [decide_eq_true_eq] at hx; subst hx
      exact ⟨(a, b + 1), ⟨(mem_iff_mget hn _ _).2 (by rw [h.eq, (mem_iff_mget (ksrt_nodup h.srt) _ _).1 hm]; rfl), by simp⟩, rfl⟩
  have hg : (wgone L).Pairwise (· < ·) := by unfold wgone; rw [List.pairwise_map]; exact (h.srt.sublist List.filter_sublist).imp fun h => h
  have hln : l.Nodup := by
    rw [hd.perm.nodup_iff]; exact hn.sublist (List.filter_sublist.map _)
  have hall : ∀ k ∈ l, mgetI m k = b + 1 := by
    intro k hk'
    have := (hk k).1 hk'
    unfold wgone at this; obtain ⟨⟨a, x⟩, hm, rfl⟩ := List.mem_map.1 this
    rw [List.mem_filter] at hm
    have h2 := hm.2; simp only [decide_eq_true_eq] at h2; subst h2
    unfold mgetI; rw [h.eq, (mem_iff_mget (ksrt_nodup h.srt) _ _).1 hm.1]; rfl
  have hls : l.Pairwise (· < ·) := by
    have h1 : l.Pairwise fun x y => x ≠ y := hln
    have h2 := (hd.srt.and h1)
    refine h2.imp_of_mem ?_
    rintro x y hx hy ⟨k1, k2⟩
    rw [bef_lt] at k1
    have e1 := hall x hx; have e2 := hall y hy
    omega
  have hp : l.Perm (wgone L) := (List.perm_ext_iff_of_nodup hln (List.nodup_iff_pairwise_ne.2 (hg.imp fun h => by omega))).2 hk
  exact hp.eq_of_pairwise (le := (· < ·)) (fun a b _ _ x y => by omega) hls hg
theorem WR.list {m L : List (Int × Int)} {b D : Int} {l : List Int} (h : WR m L b D) (hn : (m.map Prod.fst).Nodup) (hp : l.Perm (m.map Prod.fst)) (hs : l.Pairwise (· ≤ ·)) : l = L.map Prod.fst := by
  have hk : ∀ k, k ∈ l ↔ k ∈ L.map Prod.fst := by
    intro k
    rw [hp.mem_iff]
    have : (k ∈ m.map Prod.fst) ↔ ¬ mget m k = none := by rw [mget_none]; exact Decidable.not_not.symm
    rw [this, h.eq]
    have : (k ∈ L.map Prod.fst) ↔ ¬ mget L k = none := by rw [mget_none]; exact Decidable.not_not.symm
    rw [this]; simp
  have hg : (L.map Prod.fst).Pairwise (· < ·) := by rw [List.pairwise_map]; exact h.srt
  have hln : l.Nodup := hp.nodup_iff.2 hn
  have hp' : l.Perm (L.map Prod.fst) := (List.perm_ext_iff_of_nodup hln (ksrt_nodup h.srt)).2 hk
  exact hp'.eq_of_pairwise (le := (· ≤ ·)) (fun a b _ _ x y => by omega) hs (hg.imp fun h => by omega)
theorem WR.len {m L : List (Int × Int)} {b D : Int} (h : WR m L b D) (hn : (m.map Prod.fst).Nodup) : m.length = L.length := by
  have hp : (m.map Prod.fst).Perm (L.map Prod.fst) := (List.perm_ext_iff_of_nodup hn (ksrt_nodup h.srt)).2 fun k => by
    have : (k ∈ m.map Prod.fst) ↔ ¬ mget m k = none := by rw [mget_none]; exact Decidable.not_not.symm
    rw [this, h.eq]
    have : (k ∈ L.map Prod.fst) ↔ ¬ mget L k = none := by rw [mget_none]; exact Decidable.not_not.symm
    rw [this]; simp
  simpa using hp.length_eq
end Go.HL.CI
