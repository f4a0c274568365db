/- Own slices: elements stored whole, ends cleared; strings cut. -/
import Derived.Test.YtmbkoonblmfdpaaGreatMapK
import Derived.Laws.Strings2
import Derived.Laws.Strings3
set_option linter.unusedSimpArgs false
set_option linter.unusedVariables false
set_option linter.unusedSectionVars false
namespace Go.Wk
open Go.HL
variable [DM]
section
variable {P : Program} {f : kT} {h : Heap} {ty : TypeId} {α : Type} {E k T : Nat} {enc : α -> List Value} {v : Value} {l : List α} {F : Fz} {os : List Ow} {i : Nat}
theorem acW (l : List α) (he : ∀ x ∈ l, (enc x).length = k) (n : Nat) (xs : List α) (hx : ∀ x ∈ xs, (enc x).length = k) (hn : n + xs.length <= l.length) :
    (l.take n ++ xs ++ l.drop (n + xs.length)).flatMap enc = (l.flatMap enc).take (n * k) ++ xs.flatMap enc ++ (l.flatMap enc).drop (n * k + xs.length * k) := by
  have htk : ∀ j, j <= l.length -> (l.take j).flatMap enc = (l.flatMap enc).take (j * k) /\ (l.drop j).flatMap enc = (l.flatMap enc).drop (j * k) := by
    intro j hj
    have hs : l.flatMap enc = (l.take j).flatMap enc ++ (l.drop j).flatMap enc := by rw [← List.flatMap_append, List.take_append_drop]
    have hl : ((l.take j).flatMap enc).length = j * k := by
      rw [x9 enc k _ (fun x hx => he x (List.mem_of_mem_take hx)), List.length_take]; congr 1; omega
    rw [hs]
    exact ⟨by rw [← hl, List.take_left'] ; rfl, by rw [← hl, List.drop_left']; rfl⟩
  rw [List.flatMap_append, List.flatMap_append, (htk n (by omega)).1, (htk (n + xs.length) (by omega)).2, Nat.add_mul]
theorem aag (o : kL h 0 E k enc v l) {h' : Heap} {g cap : Nat} {cur c' : Array Value} (hv : v = .slice (some ⟨g, 0, none⟩) l.length cap) (hb : h[g]? = some (.cells cur E (0, 0))) (n : Nat) (xs : List α) (hx : ∀ x ∈ xs, (enc x).length = k) (hn : n + xs.length <= l.length)
    (hu : N9 h g (.cells c' E (0, 0)) h') (hc : c'.toList = cur.toList.take (n * k) ++ xs.flatMap enc ++ cur.toList.drop (n * k + xs.length * k)) :
    kL h' 0 E k enc v (l.take n ++ xs ++ l.drop (n + xs.length)) /\ Grown h h' v v := by
  have hlen : (l.take n ++ xs ++ l.drop (n + xs.length)).length = l.length := by simp; omega
  have he' : ∀ x ∈ l.take n ++ xs ++ l.drop (n + xs.length), (enc x).length = k := by
    intro x hx'
    rcases List.mem_append.1 hx' with h1 | h1
    · rcases List.mem_append.1 h1 with h2 | h2
      · exact o.yx x (List.mem_of_mem_take h2)
      · exact hx x h2
    · exact o.yx x (List.mem_of_mem_drop h1)
  obtain ⟨cap', e4, e5, e6, e7⟩ : ∃ cap', l.length <= cap' /\ cap' <= maxLen /\ (cur.size = cap' * k /\ cap' = cap) /\ cur.toList.take (l.length * k) = l.flatMap enc := by
    rcases o.row.2 with ⟨e1, _⟩ | ⟨g', cap', cur', e1, _, e3, e4, e5, e6, e7⟩
    · rw [e1] at hv; cases hv
    · rw [e1] at hv; injection hv with a1 a2 a3; injection a1 with a1; injection a1 with a1
      subst a1; rw [hb] at e3; injection e3 with e3; injection e3 with e3
      subst e3; exact ⟨cap', e4, e5, ⟨e6, a3⟩, e7⟩
  obtain ⟨e6, rfl⟩ := e6
  have hxl : (xs.flatMap enc).length = xs.length * k := x9 enc k _ hx
  have hnk : n * k + xs.length * k <= l.length * k := by rw [← Nat.add_mul]; exact Nat.mul_le_mul_right _ hn
  have hlk : l.length * k <= cap' * k := Nat.mul_le_mul_right _ e4
  have hsz : c'.size = cap' * k := by
    have := congrArg List.length hc; simp only [Array.length_toList, List.length_append, List.length_take, List.length_drop, hxl] at this; omega
  refine ⟨⟨⟨x9 enc k _ he', .inr ⟨g, cap', c', by rw [hlen]; exact hv, Nat.zero_le _, hu.get, by rw [hlen]; exact e4, e5, hsz, ?_⟩⟩, he'⟩, Nat.le_of_eq hu.size.symm, ?_, fun _ hb => .inl hb⟩
  · rw [hlen, acW l o.yx n xs hx hn, hc, ← e7]
    have h1 : (cur.toList.take (l.length * k)).take (n * k) = cur.toList.take (n * k) := by rw [List.take_take]; congr 1; omega
    rw [h1, List.take_append, List.take_append]
    have h2 : (cur.toList.take (n * k)).length = n * k := by rw [List.length_take, Array.length_toList]; omega
    rw [List.length_append, h2, hxl]
    rw [List.take_of_length_le (l := cur.toList.take (n * k)) (by rw [h2]; omega), List.take_of_length_le (l := xs.flatMap enc) (by rw [hxl]; omega)]
    congr 1
    rw [List.drop_take]
  · intro b hb' hne
    refine hu.keep ?_
    rintro rfl; apply hne; rw [hv]; rfl
theorem Yq (o : kL h 0 E k enc v l) (hl : 0 < l.length) : ∃ g cap cur, v = .slice (some ⟨g, 0, none⟩) l.length cap /\ h[g]? = some (.cells cur E (0, 0)) /\ l.length <= cap /\ cur.size = cap * k := by
  rcases o.row.2 with ⟨_, e⟩ | ⟨g, cap, cur, e1, _, e3, e4, e5, e6, e7⟩
  · omega
  · exact ⟨g, cap, cur, e1, e3, e4, e6⟩
theorem Qr {T' : Nat} {x y : Operand} {a : α} {vs : Array Value} {t : Int} [Inhabited α] (hS : St F os h) (hi : os[i]? = some (Ow.own E k enc v l)) (hT : KF P T' k) (hx : ev f x = iE k v t.toNat) (hb : 0 <= t /\ t < (l.length : Int))
    (hy : ev f y = .agg vs) (ha : enc a = vs.toList) (hk : vs.size = k) (h1 : ∀ u ∈ vs.toList, u.oneCell' = true) :
    ES P (.store T' x y) ty f h (fun h' => St F (os.set i (Ow.own E k enc v (l.set t.toNat a))) h' /\ Kp F h F h') := by
  have o := hS.own i hi
  obtain ⟨g, cap, cur, hv, hg, hle, hcs⟩ := Yq o (by omega)
  have htl : t.toNat < l.length := by omega
  have hfit : t.toNat * k + k <= cur.size := by
    rw [hcs, ← Nat.succ_mul]; exact Nat.mul_le_mul_right _ (by omega)
  refine ES.imp (MV (o := t.toNat * k) hT hg (by rw [hx, hv]; simp only [iE, Dx, Nat.zero_add]) hy hk h1 (by rw [hk]; exact hfit) rfl) fun h' hu => ?_
  obtain ⟨ho, hgr⟩ := aag o hv hg t.toNat [a] (by intro x hx; simp at hx; subst hx; rw [ha]; simpa using hk) (by simp; omega) hu (by simp [ha, hk])
  have hs : l.take t.toNat ++ [a] ++ l.drop (t.toNat + [a].length) = l.set t.toNat a := by
    rw [List.set_eq_take_append_cons_drop, if_pos htl]; simp
  rw [hs] at ho
  exact hS.grown hi ho hgr
def clr {α : Type} [Inhabited α] (l : List α) (a b : Int) : List α := l.take a.toNat ++ List.replicate (b.toNat - a.toNat) default ++ l.drop b.toNat
theorem aaU [Inhabited α] (z : Array Value) (n : Nat) (hk : 0 < k) (hs : z.size = k) (hz : enc default = z.toList) : (Builtin.zeroCells z n).toList = (List.replicate n (default : α)).flatMap enc := by
  subst hs
  exact aa4 enc default z z.size n hk hz rfl
theorem Wh [Inhabited α] {bytes : Nat} {x : Operand} {lo hi : Int} {z : Value} {ts : Array TypeId} (hS : St F os h) (hi' : os[i]? = some (Ow.own E k enc v l)) (hT : ML P T E k bytes) (hz : Eu P E z) (hzd : enc default = z.cells.toList)
    (hone : ∀ u ∈ enc default, u.oneCell' = true) (hx : ev f x = cutV k v lo.toNat hi.toNat) (hb : 0 <= lo /\ lo <= hi /\ hi <= (l.length : Int)) (ht : ts[0]? = some T) :
    EV P (.call ⟨.builtin .clear, #[x], ts⟩) ty f h (fun u h' => u = .tuple #[] /\ St F (os.set i (Ow.own E k enc v (clr l lo hi))) h' /\ Kp F h F h') := by
  have o := hS.own i hi'
  obtain ⟨inf, zz, aiV, hzi, hik, hib, hzk⟩ := hT.info
  have hpos := hT.pos
  intro dst pos after guard w hw
  subst hw
  have hzz : zz = z := by
    have h1 : (zeroValue E).run P w = .ok zz w := by simp [zeroValue, typeInfo, aiV, hzi]
    have := hz w; rw [h1] at this; injection this
  subst hzz
  have hargs : (#[x].map (ev f)) = #[cutV k v lo.toNat hi.toNat] := by simp [hx]
  by_cases he : lo = hi
  · -- nothing is cleared
    have aiW : clr l lo hi = l := by unfold clr; subst he; simp
    have hrun : (Builtin.clear_ ts ty #[cutV k v lo.toNat hi.toNat]).run P w = .ok (.tuple #[]) w := by
      obtain ⟨a, cap, hv⟩ := oh o.slice
      have : cutV k v lo.toNat hi.toNat = .slice (if cap = lo.toNat then a else a.map (·.add (lo.toNat * k))) 0 (cap - lo.toNat) := by rw [hv]; simp only [cutV, sliced]; subst he; simp
      rw [this]
      unfold Builtin.clear_
      simp only [ht, List.getElem?_toArray, List.getElem?_cons_zero, Sem.run_bind, run_underlying hT.und, Result.andThen_ok]
      cases (if cap = lo.toNat then a else a.map (·.add (lo.toNat * k))) <;> rfl
    refine ⟨.tuple #[], w, ?_, Kept.refl w, rfl, ?_, Kp.refl F w.heap⟩
    · simp only [execOp, resolve, invoke, builtin, hargs, Sem.run_bind, pure, Sem.run, Result.andThen_ok, hrun]
    · rw [aiW]
      have hset : os.set i (Ow.own E k enc v l) = os := by
        apply List.ext_getElem?
        intro j; rw [List.getElem?_set]
        split
        · rename_i e; subst e; split
          · exact hi'.symm
          · rename_i hlt; rw [List.getElem?_eq_none (by omega)]
        · rfl
      rw [hset]; exact hS
  · obtain ⟨g, cap, cur, hv, hg, hle, hcs⟩ := Yq o (by omega)
    have hnn : hi.toNat - lo.toNat ≠ 0 := by omega
    have hcut : cutV k v lo.toNat hi.toNat = .slice (some ⟨g, lo.toNat * k, none⟩) (hi.toNat - lo.toNat) (cap - lo.toNat) := by
      rw [hv]; simp only [cutV, sliced]
      rw [if_neg (by omega)]; simp only [Option.map_some, Dx, Nat.zero_add]
    have hzf := aaU (enc := enc) zz.cells (hi.toNat - lo.toNat) hpos hzk hzd
    have aeE : (Builtin.zeroCells zz.cells (hi.toNat - lo.toNat)).toList.length = (hi.toNat - lo.toNat) * k := by
      rw [hzf, x9 enc k _ (by intro y hy; rw [(List.mem_replicate.1 hy).2, hzd]; simpa using hzk)]; simp
    have hfit : lo.toNat * k + (hi.toNat - lo.toNat) * k <= cur.size := by
      rw [hcs, ← Nat.add_mul]; exact Nat.mul_le_mul_right _ (by omega)
    have hone' : ∀ u ∈ (Builtin.zeroCells zz.cells (hi.toNat - lo.toNat)).toList, u.oneCell' = true := by
      intro u hu; rw [hzf] at hu
      obtain ⟨y, hy, huy⟩ := List.mem_flatMap.1 hu
      rw [(List.mem_replicate.1 hy).2] at huy; exact hone u huy
    have hst := run_storeCells_at (P := P) g (lo.toNat * k) E (Builtin.zeroCells zz.cells (hi.toNat - lo.toNat)).toList 0 cur w hg (by rw [aeE]; simpa using hfit) hone'
    have hrun : (Builtin.clear_ ts ty #[cutV k v lo.toNat hi.toNat]).run P w = .ok (.tuple #[]) (w.setRow g (cur.toList.take (lo.toNat * k + 0) ++ (Builtin.zeroCells zz.cells (hi.toNat - lo.toNat)).toList ++ cur.toList.drop (lo.toNat * k + 0 + (Builtin.zeroCells zz.cells (hi.toNat - lo.toNat)).toList.length)).toArray) := by
      rw [hcut]
      unfold Builtin.clear_
      simp only [ht, List.getElem?_toArray, List.getElem?_cons_zero, Sem.run_bind, run_underlying hT.und, Result.andThen_ok]
      match hq : hi.toNat - lo.toNat, hnn with
      | q + 1, _ =>
        rw [hq] at hst
        simp only [Sem.run_bind, hz w, Result.andThen_ok]
        rw [hst]; rfl
    have hub : N9 w.heap g (.cells (cur.toList.take (lo.toNat * k + 0) ++ (Builtin.zeroCells zz.cells (hi.toNat - lo.toNat)).toList ++ cur.toList.drop (lo.toNat * k + 0 + (Builtin.zeroCells zz.cells (hi.toNat - lo.toNat)).toList.length)).toArray E (0, 0))
        (w.setRow g (cur.toList.take (lo.toNat * k + 0) ++ (Builtin.zeroCells zz.cells (hi.toNat - lo.toNat)).toList ++ cur.toList.drop (lo.toNat * k + 0 + (Builtin.zeroCells zz.cells (hi.toNat - lo.toNat)).toList.length)).toArray).heap := by
      refine ⟨yK hg, ?_⟩
      have hlt := yK hg
      have hbe : w.heap[g] = .cells cur E (0, 0) := by rw [Array.getElem?_eq_getElem hlt] at hg; injection hg
      unfold World.setRow
      apply Array.ext
      · simp
      · intro i h1 h2
        simp only [Array.size_modify] at h1
        rw [Array.getElem_modify, Array.getElem_setIfInBounds]
        by_cases e : g = i
        · subst e; simp only [if_true]; rw [hbe]
        · simp only [e, if_false]
        · exact h1
    obtain ⟨ho, hgr⟩ := aag o hv hg lo.toNat (List.replicate (hi.toNat - lo.toNat) default) (by intro y hy; rw [(List.mem_replicate.1 hy).2, hzd]; simpa using hzk) (by simp; omega) hub (by rw [aeE, hzf]; simp)
    have hcl : l.take lo.toNat ++ List.replicate (hi.toNat - lo.toNat) default ++ l.drop (lo.toNat + (List.replicate (hi.toNat - lo.toNat) (default : α)).length) = clr l lo hi := by
      unfold clr; congr 2; simp; omega
    rw [hcl] at ho
    refine ⟨.tuple #[], w.setRow g (cur.toList.take (lo.toNat * k + 0) ++ (Builtin.zeroCells zz.cells (hi.toNat - lo.toNat)).toList ++ cur.toList.drop (lo.toNat * k + 0 + (Builtin.zeroCells zz.cells (hi.toNat - lo.toNat)).toList.length)).toArray, ?_, ⟨rfl, rfl, rfl, fun _ => Nat.le_refl _⟩, rfl, hS.grown hi' ho hgr⟩
    simp only [execOp, resolve, invoke, builtin, hargs, Sem.run_bind, pure, Sem.run, Result.andThen_ok, hrun]
theorem agw (a : Str) (lo hi : Int) (h0 : 0 <= lo) (h1 : lo <= hi) : (bs a).extract lo.toNat hi.toNat = bs (cut a lo hi) := by
  apply ByteArray.ext
  rw [ByteArray.data_extract]
  unfold bs cut
  simp
  rw [List.drop_take]
theorem afn {kh : _} {x z : Operand} {a : Str} {hi : Int} (hT : P.underlying T = some .string) (hx : ev f x = .string (bs a)) (hz : ev f z = .int kh hi) (hb : 0 <= hi /\ hi <= (a.length : Int)) :
    QV P (.slice T x none (some z) none) ty f h (.string (bs (cut a 0 hi))) := by
  intro dst pos after guard w _
  simp only [execOp, hx, Option.map_some, Option.map_none, hz]
  rw [Sem.run_bind, run_sliceAt_string (P := P) (w := w) T _ _ _ _ hT, run_slice_string_to_if (P := P) (w := w) T (bs a) kh hi hT, if_pos ⟨hb.1, by rw [aaL]; exact hb.2⟩, ← agw a 0 hi (Int.le_refl _) hb.1]
  rfl
end
end Go.Wk
