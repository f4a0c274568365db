/- 'slices.Sorted(maps.Keys(m))' at a map of integers, by the memory alone. -/
import Derived.Test.YtnemfpgfgblpbaaIterI
import Derived.Test.YtnemfpgfgblpbaaClockI
set_option linter.unusedSimpArgs false
set_option linter.unusedVariables false
set_option linter.unusedSectionVars false
namespace Go.HL.CI
open Go.HL Go.Proofs

/-- A number of 64 bits. -/
def In64 (k : Int) : Prop := -9223372036854775808 ≤ k ∧ k ≤ 9223372036854775807

theorem owns_of {w : World} {r : Nat} {m : List (Int × Int)} (hM : MapIs w.heap r kI kI m) (hk : ∀ p ∈ m, In64 p.1) (hl : m.length ≤ maxLen) {P : Program} {K : TypeId} (hK : P.underlying K = some (.int .i64)) :
    ∃ D0 : DataW Unit, w.ownsMap P K (fun _ => some (.lit (.bool true), [])) r m.length D0 ∧ (intKeys D0).Perm (m.map Prod.fst) ∧ Maps.size D0 = m.length := by
  obtain ⟨es, clock, hb, he⟩ := hM
  have hsz : es.toList.length = m.length := by have := congrArg List.length he.is; simpa using this
  have hget : ∀ i (h : i < es.toList.length) (h' : i < m.length), (es.toList[i]).key = kI m[i].1 := by
    intro i h h'
    have h0 : (es.toList.map (fun e => (e.key, e.val)))[i]'(by simpa using h) = (m.map fun p => (kI p.1, kI p.2))[i]'(by simpa using h') := by simp only [he.is]
    simp only [List.getElem_map, Prod.mk.injEq] at h0
    exact h0.1
  have hkey : ∀ k : Int, In64 k → keyOf P K (kI k) = some (.int .i64 k) := by
    intro k hk
    simp only [keyOf, hK, mapKey, kI]
    rw [if_pos]
    refine ⟨by trivial, ?_⟩
    unfold In64 at hk
    simp [Lit.wf, IntKind.min, IntKind.max, IntKind.signed, IntKind.bits]; omega
  have hrd : ∀ i (h : i < es.toList.length) (h' : i < m.length), WideElems.rd (H := Unit) P K (fun _ => some (.lit (.bool true), [])) es.toList[i] = some (.int .i64 m[i].1, .lit (.bool true)) := by
    intro i h h'
    unfold WideElems.rd
    rw [hget i h h', hkey _ (hk _ (List.getElem_mem h'))]; rfl
  have hnk : (es.toList.map (·.key)).Nodup := by
    have h1 : es.toList.map (·.key) = (m.map Prod.fst).map kI := by
      have := congrArg (List.map Prod.fst) he.is
      rw [List.map_map, List.map_map] at this; rw [List.map_map]; exact this
    rw [h1]
    refine List.Pairwise.map _ ?_ he.nodup
    intro a b hab e; apply hab; unfold kI at e; injection e
  refine ⟨_, ⟨es, clock, hb, ⟨?_, ⟨he.born, he.apart, hnk⟩, ?_⟩, ?_, rfl⟩, ?_, ?_⟩
  · rw [← Array.length_toList]; omega
  · intro x hx
    obtain ⟨i, h, rfl⟩ := List.mem_iff_getElem.1 hx
    exact ⟨_, hrd i h (by omega)⟩
  · rw [← Array.length_toList]; omega
  · refine ((WideShapes.sorted_perm _).map fun p => intOf p.1).trans ?_
    apply List.Perm.of_eq
    apply List.ext_getElem (by simp only [List.length_map]; omega)
    intro i h1 h2
    simp only [List.length_map] at h1 h2
    simp only [List.getElem_map]
    rw [WideElems.rg_of (hrd i (by simpa using h1) h2)]; rfl
  · have h2 : ((es.toList.map (WideElems.rg (H := Unit) P K (fun _ => some (.lit (.bool true), [])))).foldr DataW.insert []).length = m.length := by
      rw [(WideShapes.sorted_perm _).length_eq]; simp only [List.length_map]; omega
    exact h2

theorem flat_encI (l : List Int) : l.flatMap encI = l.map encZ := by
  induction l with
  | nil => rfl
  | cons a l ih => rw [List.flatMap_cons, ih]; rfl

/-- slices.Sort's two contracts. -/
theorem sortsA (m : Nat) : AnyZI.SortsIn Try.prog Try.sortedA_ren Fence.wide m :=
  ⟨fun blk off cap ss W hH hblk hsz => callsIn_wide.2 (AnyM.slices_Sort_int Try.sortA blk off cap ss W hH hblk hsz),
   fun p cap W => callsIn_wide.2 (AnyM.slices_Sort_int_none Try.sortA p cap W)⟩

theorem mkeys_spec (r : Nat) (h : Heap) : HC Try.prog 122 #[.map (some r)] h fun u h' => ∃ b, u = .func (.func 139) #[] #[.pointer (some ⟨b, 0, none⟩)] ∧ Blk h' b (.cells #[.map (some r)] 157 (0, 0)) ∧ Ext h h' := by
  intro w hw
  subst hw
  refine (callsIn_wide.1 (AnyZI.keys_in Try.keysA Fence.wide 5 trivial rfl (some r) w)).mono ?_
  rintro e w' ⟨rfl, rfl⟩
  have hn : New w.heap (.cells #[.map (some r)] 157 (0, 0)) w.heap.size (w.alloc (.cells #[.map (some r)] 157)).heap := ⟨rfl, rfl⟩
  exact ⟨⟨rfl, rfl, rfl⟩, _, rfl, _, rfl, hn.blk, hn.ext⟩

theorem sorted_spec {b r : Nat} {m : List (Int × Int)} {h : Heap} (hB : Blk h b (.cells #[.map (some r)] 157 (0, 0))) (hM : MapIs h r kI kI m) (hk : ∀ p ∈ m, In64 p.1) (hl : m.length ≤ 1000000) :
    HC Try.prog 121 #[.func (.func 139) #[] #[.pointer (some ⟨b, 0, none⟩)]] h fun u h' => ∃ l : List Int, l.Perm (m.map Prod.fst) ∧ l.Pairwise (· ≤ ·) ∧ OwnIs h' h.size 3 1 encI u l ∧ Ext h h' := by
  intro w hw
  subst hw
  obtain ⟨D0, hown, hperm, hsize⟩ := owns_of hM hk (by unfold maxLen; omega) Try.underlying3
  have hseq : SeqGives Fence.wide 2 Try.prog 139 #[.pointer (some ⟨b, 0, none⟩)] encZ (fun ss => ss.Perm (intKeys D0)) (Maps.size D0) w :=
    AnyZI.keys_gives (ρ := Try.keysA_ren) { Try.keysA with } Fence.wide _ trivial rfl (by omega) b r m.length D0 w hB.lt (by rw [cell_eq, hcell_of hB]; rfl) hown
  have cS := AnyZI.sorted_in Try.sortedA Fence.wide 5 trivial trivial trivial trivial rfl (by omega) (sortsA _) (enters_of Try.func117 (by kernel_rfl) rfl) 139 #[.pointer (some ⟨b, 0, none⟩)] trivial (enters_of Try.func139 (by kernel_rfl) rfl) _ _ (by rw [hsize]; unfold maxLen; omega) (by rw [hsize]; omega) _ hseq
  change CallsIn _ _ Try.prog 121 _ _ _ at cS
  refine (callsIn_wide.1 cS).mono ?_
  rintro e w' ⟨v, ss, rfl, hS, hrow, hnil, hbel⟩
  refine ⟨⟨hbel.os, hbel.tape, hbel.output⟩, v, rfl, ss.mergeSort (fun x y => decide (x ≤ y)), ?_, ?_, ⟨?_, ?_⟩, ⟨hbel.size, hbel.block⟩⟩
  · exact (List.mergeSort_perm _ _).trans (hS.trans hperm)
  · refine (List.pairwise_mergeSort (le := fun x y : Int => decide (x ≤ y)) ?_ ?_ ss).imp ?_
    · intro a b c h1 h2; simp only [decide_eq_true_eq] at *; omega
    · intro a b; simp only [Bool.or_eq_true, decide_eq_true_eq]; omega
    · intro a b h; simpa using h
  · rw [List.length_mergeSort, flat_encI]; exact (HOwn_iff _ _ _ _ _ _ _).1 hrow
  · intro x _; rfl
end Go.HL.CI
