/- Own slices: elements stored whole, ends cleared; strings cut. -/
import Derived.Test.YtmbkoonblmfdpaaGreatMapK
import Derived.Laws.Strings2
import Derived.Laws.Strings3
set_option linter.unusedSimpArgs false
set_option linter.unusedVariables false
set_option linter.unusedSectionVars false
namespace Go.Wk
open Go.HL
variable [DM]
section
variable {P : Program} {f : Slots} {h : Heap} {ty : TypeId} {α : Type} {E k T : Nat} {enc : α → List Value} {v : Value} {l : List α} {F : Fz} {os : List Ow} {i : Nat}
theorem flat_put (l : List α) (he : ∀ x ∈ l, (enc x).length = k) (n : Nat) (xs : List α) (hx : ∀ x ∈ xs, (enc x).length = k) (hn : n + xs.length ≤ l.length) :
    (l.take n ++ xs ++ l.drop (n + xs.length)).flatMap enc = (l.flatMap enc).take (n * k) ++ xs.flatMap enc ++ (l.flatMap enc).drop (n * k + xs.length * k) := by
  have htk : ∀ j, j ≤ l.length → (l.take j).flatMap enc = (l.flatMap enc).take (j * k) ∧ (l.drop j).flatMap enc = (l.flatMap enc).drop (j * k) := by
    intro j hj
    have hs : l.flatMap enc = (l.take j).flatMap enc ++ (l.drop j).flatMap enc := by rw [← List.flatMap_append, List.take_append_drop]
    have hl : ((l.take j).flatMap enc).length = j * k := by
      rw [flat_len enc k _ (fun x hx => he x (List.mem_of_mem_take hx)), List.length_take]; congr 1; omega
    rw [hs]
    exact ⟨by rw [← hl, List.take_left'] ; rfl, by rw [← hl, List.drop_left']; rfl⟩
  rw [List.flatMap_append, List.flatMap_append, (htk n (by omega)).1, (htk (n + xs.length) (by omega)).2, Nat.add_mul]
theorem own_put (o : OwnIs h 0 E k enc v l) {h' : Heap} {g cap : Nat} {cur c' : Array Value} (hv : v = .slice (some ⟨g, 0, none⟩) l.length cap) (hb : h[g]? = some (.cells cur E (0, 0))) (n : Nat) (xs : List α) (hx : ∀ x ∈ xs, (enc x).length = k) (hn : n + xs.length ≤ l.length)
    (hu : Upd h g (.cells c' E (0, 0)) h') (hc : c'.toList = cur.toList.take (n * k) ++ xs.flatMap enc ++ cur.toList.drop (n * k + xs.length * k)) :
    OwnIs h' 0 E k enc v (l.take n ++ xs ++ l.drop (n + xs.length)) ∧ Grown h h' v v := by
  have hlen : (l.take n ++ xs ++ l.drop (n + xs.length)).length = l.length := by simp; omega
  have he' : ∀ x ∈ l.take n ++ xs ++ l.drop (n + xs.length), (enc x).length = k := by
    intro x hx'
    rcases List.mem_append.1 hx' with h1 | h1
    · rcases List.mem_append.1 h1 with h2 | h2
      · exact o.enc_len x (List.mem_of_mem_take h2)
      · exact hx x h2
    · exact o.enc_len x (List.mem_of_mem_drop h1)
  obtain ⟨cap', e4, e5, e6, e7⟩ : ∃ cap', l.length ≤ cap' ∧ cap' ≤ maxLen ∧ (cur.size = cap' * k ∧ cap' = cap) ∧ cur.toList.take (l.length * k) = l.flatMap enc := by
    rcases o.row.2 with ⟨e1, _⟩ | ⟨g', cap', cur', e1, _, e3, e4, e5, e6, e7⟩
    · rw [e1] at hv; cases hv
    · rw [e1] at hv; injection hv with a1 a2 a3; injection a1 with a1; injection a1 with a1
      subst a1; rw [hb] at e3; injection e3 with e3; injection e3 with e3
      subst e3; exact ⟨cap', e4, e5, ⟨e6, a3⟩, e7⟩
  obtain ⟨e6, rfl⟩ := e6
  have hxl : (xs.flatMap enc).length = xs.length * k := flat_len enc k _ hx
  have hnk : n * k + xs.length * k ≤ l.length * k := by rw [← Nat.add_mul]; exact Nat.mul_le_mul_right _ hn
  have hlk : l.length * k ≤ cap' * k := Nat.mul_le_mul_right _ e4
  have hsz : c'.size = cap' * k := by
    have := congrArg List.length hc; simp only [Array.length_toList, List.length_append, List.length_take, List.length_drop, hxl] at this; omega
  refine ⟨⟨⟨flat_len enc k _ he', .inr ⟨g, cap', c', by rw [hlen]; exact hv, Nat.zero_le _, hu.get, by rw [hlen]; exact e4, e5, hsz, ?_⟩⟩, he'⟩, Nat.le_of_eq hu.size.symm, ?_, fun _ hb => .inl hb⟩
  · rw [hlen, flat_put l o.enc_len n xs hx hn, hc, ← e7]
    have h1 : (cur.toList.take (l.length * k)).take (n * k) = cur.toList.take (n * k) := by rw [List.take_take]; congr 1; omega
    rw [h1, List.take_append, List.take_append]
    have h2 : (cur.toList.take (n * k)).length = n * k := by rw [List.length_take, Array.length_toList]; omega
    rw [List.length_append, h2, hxl]
    rw [List.take_of_length_le (l := cur.toList.take (n * k)) (by rw [h2]; omega), List.take_of_length_le (l := xs.flatMap enc) (by rw [hxl]; omega)]
    congr 1
    rw [List.drop_take]
  · intro b hb' hne
    refine hu.keep ?_
    rintro rfl; apply hne; rw [hv]; rfl
theorem bs_cut (a : Str) (lo hi : Int) (h0 : 0 ≤ lo) (h1 : lo ≤ hi) : (bs a).extract lo.toNat hi.toNat = bs (cut a lo hi) := by
  apply ByteArray.ext
  rw [ByteArray.data_extract]
  unfold bs cut
  simp
  rw [List.drop_take]
theorem q_strH {kh : _} {x z : Operand} {a : Str} {hi : Int} (hT : P.underlying T = some .string) (hx : ev f x = .string (bs a)) (hz : ev f z = .int kh hi) (hb : 0 ≤ hi ∧ hi ≤ (a.length : Int)) :
    QV P (.slice T x none (some z) none) ty f h (.string (bs (cut a 0 hi))) := by
  intro dst pos after guard w _
  simp only [execOp, hx, Option.map_some, Option.map_none, hz]
  rw [Sem.run_bind, run_sliceAt_string (P := P) (w := w) T _ _ _ _ hT, run_slice_string_to_if (P := P) (w := w) T (bs a) kh hi hT, if_pos ⟨hb.1, by rw [bs_size]; exact hb.2⟩, ← bs_cut a 0 hi (Int.le_refl _) hb.1]
  rfl
end
end Go.Wk
