/- 'slices.Sorted(maps.Keys(m))' at a map of texts, over things owned. -/
import Derived.Test.YtfoebjicglgklaaGreatSrt
import Derived.Test.YtfoebjicglgklaaGreatLayK
import Derived.Shelf.SlIter.Sorted
set_option linter.unusedSimpArgs false
set_option linter.unusedVariables false
set_option linter.unusedSectionVars false
namespace Go.Wk
open Go.HL Go.Proofs Go.Shelf Go.RowKit Go.Maps Go.Sort
variable [DM]
theorem ownsT_of {w : World} {r : Nat} {ν : Type} {en : ν → Value} {m : List (Str × ν)} (hM : MapIs w.heap r kT en m) (hk : ∀ p ∈ m, p.1.length ≤ maxLen) (hl : m.length ≤ maxLen) {P : Program} {K : TypeId} (hK : P.underlying K = some .string) :
    ∃ D0 : DataW Unit, w.ownsMap P K (fun _ => some (.lit (.bool true), [])) r m.length D0 ∧ (strKeys D0).Perm (m.map Prod.fst) ∧ Maps.size D0 = m.length := by
  obtain ⟨es, clock, hb, he⟩ := hM
  have hsz : es.toList.length = m.length := by have := congrArg List.length he.is; simpa using this
  have hget : ∀ i (h : i < es.toList.length) (h' : i < m.length), (es.toList[i]).key = kT m[i].1 := by
    intro i h h'
    have h0 : (es.toList.map (fun e => (e.key, e.val)))[i]'(by simpa using h) = (m.map fun p => (kT p.1, en p.2))[i]'(by simpa using h') := by simp only [he.is]
    simp only [List.getElem_map, Prod.mk.injEq] at h0
    exact h0.1
  have hkey : ∀ k : Str, k.length ≤ maxLen → keyOf P K (kT k) = some (.string k) := by
    intro k hk
    simp only [keyOf, hK, mapKey, kT]
    rw [if_pos (by rw [bs_size]; exact hk)]
    simp [bs]
  have hrd : ∀ i (h : i < es.toList.length) (h' : i < m.length), WideElems.rd (H := Unit) P K (fun _ => some (.lit (.bool true), [])) es.toList[i] = some (.string m[i].1, .lit (.bool true)) := by
    intro i h h'
    unfold WideElems.rd
    rw [hget i h h', hkey _ (hk _ (List.getElem_mem h'))]; rfl
  have hnk : (es.toList.map (·.key)).Nodup := by
    have h1 : es.toList.map (·.key) = (m.map Prod.fst).map kT := by
      have := congrArg (List.map Prod.fst) he.is
      rw [List.map_map, List.map_map] at this; rw [List.map_map]; exact this
    rw [h1]
    refine List.Pairwise.map _ ?_ he.nodup
    intro a b hab e; apply hab; unfold kT at e; injection e with e; exact bs_inj.1 e
  refine ⟨_, ⟨es, clock, hb, ⟨?_, ⟨he.born, he.apart, hnk⟩, ?_⟩, ?_, rfl⟩, ?_, ?_⟩
  · rw [← Array.length_toList]; omega
  · intro x hx
    obtain ⟨i, h, rfl⟩ := List.mem_iff_getElem.1 hx
    exact ⟨_, hrd i h (by omega)⟩
  · rw [← Array.length_toList]; omega
  · refine ((WideShapes.sorted_perm _).map fun p => strOf p.1).trans ?_
    apply List.Perm.of_eq
    apply List.ext_getElem (by simp only [List.length_map]; omega)
    intro i h1 h2
    simp only [List.length_map] at h1 h2
    simp only [List.getElem_map]
    rw [WideElems.rg_of (hrd i (by simpa using h1) h2)]; rfl
  · have h2 : ((es.toList.map (WideElems.rg (H := Unit) P K (fun _ => some (.lit (.bool true), [])))).foldr DataW.insert []).length = m.length := by
      rw [(WideShapes.sorted_perm _).length_eq]; simp only [List.length_map]; omega
    exact h2
theorem sortsT (m : Nat) : AnyZ.SortsIn Tryz.prog Tryz.sortedT_ren Fence.wide m :=
  ⟨fun blk off cap ss W hH hblk hsz => callsIn_wide.2 (AnyM.slices_Sort_string Tryz.sortT blk off cap ss W hH hblk hsz),
   fun p cap W => callsIn_wide.2 (AnyM.slices_Sort_string_none Tryz.sortT p cap W)⟩
theorem mkeysT {F : Fz} {os : List Ow} {h : Heap} {r : Nat} (hS : St F os h) : HC Tryz.prog (Tryz.keysT_ren.f 7) #[.map (some r)] h fun u h' => ∃ b, u = .func (.func (Tryz.keysT_ren.f 10)) #[] #[.pointer (some ⟨b, 0, none⟩)] ∧ Kp F h F h' ∧ St F (Ow.box b (Tryz.keysT_ren.t 23) #[.map (some r)] :: os) h' := by
  intro w hw
  subst hw
  refine (callsIn_wide.1 (AnyZ.keys_in Tryz.keysT Fence.wide 5 trivial rfl (some r) w)).mono ?_
  rintro e w' ⟨rfl, rfl⟩
  have hn : New w.heap (.cells #[.map (some r)] (Tryz.keysT_ren.t 23) (0, 0)) w.heap.size (w.alloc (.cells #[.map (some r)] (Tryz.keysT_ren.t 23))).heap := ⟨rfl, rfl⟩
  obtain ⟨h1, h2⟩ := hS.cons (Ow.box w.heap.size (Tryz.keysT_ren.t 23) #[.map (some r)]) hn.blk (by rintro b rfl; exact Nat.le_refl _) hn.ext
  exact ⟨⟨rfl, rfl, rfl, fun _ => Nat.le_refl _⟩, _, rfl, _, rfl, h2, h1⟩
theorem sortedT {F : Fz} {os : List Ow} {h : Heap} {b r : Nat} {ν : Type} {en : ν → Value} {m : List (Str × ν)} (hD : DM.on = false) (hS : St F os h) (hB : Blk h b (.cells #[.map (some r)] (Tryz.keysT_ren.t 23) (0, 0))) (hM : MapIs h r kT en m) (hl : m.length ≤ 1000000) (hk : ∀ p ∈ m, p.1.length ≤ 1000000) :
    HC Tryz.prog (Tryz.sortedT_ren.f 6) #[.func (.func (Tryz.keysT_ren.f 10)) #[] #[.pointer (some ⟨b, 0, none⟩)]] h fun u h' => ∃ (l : List Str), Kp F h F h' ∧ St F (Ow.own (Tryz.sortedT_ren.t 26) 1 encT u l :: os) h' ∧ l.Perm (m.map Prod.fst) ∧ l.Pairwise fun x y => ¬ y < x := by
  intro w hw
  subst hw
  obtain ⟨D0, hown, hperm, hsize⟩ := ownsT_of hM (fun p hp => Nat.le_trans (hk p hp) (by unfold maxLen; omega)) (by unfold maxLen; omega) Tryz.keysT.t26
  have hseq : SeqGives Fence.wide 2 Tryz.prog (Tryz.keysT_ren.f 10) #[.pointer (some ⟨b, 0, none⟩)] encStr (fun ss => ss.Perm (strKeys D0)) (Maps.size D0) w :=
    AnyZ.keys_gives (ρ := Tryz.keysT_ren) { Tryz.keysT with } Fence.wide _ trivial rfl (by omega) b r m.length D0 w hB.lt (by rw [cell_eq, hcell_of hB]; rfl) hown
  have cS := AnyZ.sorted_in Tryz.sortedT Fence.wide 5 trivial trivial trivial trivial rfl (by omega) (sortsT _) (Tryz.sortT.f6.enters rfl) (Tryz.keysT_ren.f 10) #[.pointer (some ⟨b, 0, none⟩)] trivial (Tryz.keysT.f10.enters rfl) _ _ (by rw [hsize]; unfold maxLen; omega) (by rw [hsize]; omega) _ hseq
  refine (callsIn_wide.1 cS).mono ?_
  rintro e w' ⟨v, ss, rfl, hSS, hrow, hnil, hbel⟩
  have hO : OwnIs w'.heap w.heap.size (Tryz.sortedT_ren.t 26) 1 encT v (ss.mergeSort fun x y => decide (x ≤ y)) := by
    refine ⟨?_, fun x _ => rfl⟩
    rw [List.length_mergeSort, flatMap1 (enc1 := encStr) (enc := encT) (fun _ => rfl)]; exact (HOwn_iff _ _ _ _ _ _ _).1 hrow
  obtain ⟨h1, h2⟩ := hS.cons (Ow.own (Tryz.sortedT_ren.t 26) 1 encT v (ss.mergeSort fun x y => decide (x ≤ y))) (h' := w'.heap) (hO.mono (Nat.zero_le _)) (fun b hb => hO.ge hb) ⟨hbel.size, fun b hb' => hbel.block b hb'⟩
  refine ⟨⟨hbel.os, hbel.tape, hbel.output, fun q => by rw [hD] at q; cases q⟩, v, rfl, ss.mergeSort (fun x y => decide (x ≤ y)), h2, h1, (List.mergeSort_perm _ _).trans (hSS.trans hperm), ?_⟩
  refine (List.pairwise_mergeSort (le := fun x y : Str => decide (x ≤ y)) ?_ ?_ ss).imp ?_
  · intro a b c h1 h2; simp only [decide_eq_true_eq] at *; exact List.le_trans h1 h2
  · intro a b; simp only [Bool.or_eq_true, decide_eq_true_eq]; exact List.le_total a b
  · intro a b h; simp only [decide_eq_true_eq] at h; exact fun q => List.not_lt.2 h q
end Go.Wk
