/- The library's sorts of cells (slices.Sort at ints and strings; slices.SortFunc at elements of one cell), over things owned. -/
import Derived.Test.YtjliljlmgepmpaaGreatFn
import Derived.Shelf.SortM.Plain
import Derived.Shelf.SortM.SortNone
import Derived.Shelf.SlSortCmp.Whole1
set_option linter.unusedSimpArgs false
set_option linter.unusedVariables false
set_option linter.unusedSectionVars false
namespace Go.Wk
open Go.HL
variable [DM]
open Go.Shelf Go.RowKit Go.Lib Go.Sort Go.Proofs
variable {P : Program} {ρ : Ren} {α : Type} [Inhabited α]
theorem flat1 {enc1 : α → Value} {enc : α → List Value} (he : ∀ x, enc x = [enc1 x]) (d : Array α) : flatK enc 1 d = d.map enc1 := by
  apply Array.ext
  · simp
  · intro i h1 h2
    have hi : i < d.size * 1 := by simpa using h1
    have h := get_flatK enc 1 d i hi
    rw [getElem!_pos _ i h1] at h
    rw [h, he, Nat.div_one, Nat.mod_one, Array.getElem_map, getElem!_pos d i (by omega)]; rfl
theorem put1 {enc1 : α → Value} {enc : α → List Value} (he : ∀ x, enc x = [enc1 x]) (d : Array α) (c : Array Value) : putCells enc1 0 d c = putCells id 0 (flatK enc 1 d) c := by
  rw [flat1 he]
  apply Array.ext
  · simp [putCells]
  · intro i h1 h2
    simp only [putCells, Array.getElem_mapIdx, Array.size_map]
    split
    · rename_i hi
      have hj : i - 0 < d.size := by omega
      rw [getElem!_pos d _ hj, getElem!_pos (d.map enc1) _ (by simpa using hj), Array.getElem_map]; rfl
    · rfl
theorem flatMap1 {enc1 : α → Value} {enc : α → List Value} (he : ∀ x, enc x = [enc1 x]) : ∀ l : List α, l.flatMap enc = l.map enc1
  | [] => rfl
  | a :: l => by rw [List.flatMap_cons, flatMap1 he l, he]; rfl
theorem sort1_core {E : Nat} {enc1 : α → Value} {enc : α → List Value} (he : ∀ x, enc x = [enc1 x]) {F : Fz} {fr : List Ow} {w : World} {l : List α} {v : Value} (hS : St F (Ow.own E 1 enc v l :: fr) w.heap) :
    (l = [] ∧ ∃ p cap, v = .slice p 0 cap) ∨ ∃ b cap, v = .slice (some ⟨b, 0, none⟩) l.length cap ∧ b < w.heap.size ∧ Go.Sort.Holds enc1 w b 0 l.toArray ∧
      ∀ (m : Nat) (os : Array Obj) (dk : Array α), dk.size = l.length → St F (Ow.own E 1 enc v dk.toList :: fr) (grow (putRow enc1 (Sort.ahead w m) b 0 dk) os).heap ∧ Kp F w.heap F (grow (putRow enc1 (Sort.ahead w m) b 0 dk) os).heap ∧ Kept w (grow (putRow enc1 (Sort.ahead w m) b 0 dk) os) := by
  have hk : ∀ x, (enc x).length = 1 := fun x => by rw [he]; rfl
  have hown : OwnIs w.heap 0 E 1 enc v l := hS.own 0 rfl
  by_cases hl0 : l = []
  · refine .inl ⟨hl0, ?_⟩
    subst hl0
    rcases hown.row.2 with ⟨e, _⟩ | ⟨b, cap, _, e, _⟩
    · exact ⟨_, _, e⟩
    · exact ⟨_, _, e⟩
  · rcases hown.row.2 with ⟨_, e⟩ | ⟨b, cap, cur, rfl, _, hb, hle, hcap, hcs, htake⟩
    · exact absurd (List.length_eq_zero_iff.1 e) hl0
    · refine .inr ⟨b, cap, rfl, lt_of_get hb, ?_, ?_⟩
      · intro j hj
        have hj' : j < l.length := by simpa using hj
        have hjc : j < cur.size := by omega
        have hcell : cur[j]? = some (enc1 l.toArray[j]!) := by
          have h2 : (l.flatMap enc)[j]? = cur[j]? := by
            rw [← htake, List.getElem?_take, if_pos (by omega), Array.getElem?_toList]
          rw [← h2]
          have h3 : l.flatMap enc = l.map enc1 := flatMap1 he l
          rw [h3, List.getElem?_map, List.getElem?_eq_getElem hj', getElem!_pos l.toArray j hj]; rfl
        have hbb : w.heap[b]? = some (.cells cur E (0, 0)) := hb
        refine ⟨?_, ?_⟩
        · rw [cell_eq, Nat.zero_add, hcell_of hbb, hcell]
        · unfold World.frozen?; rw [hbb]; simp
      · intro m os dk hd
        have hheap : (grow (putRow enc1 (Sort.ahead w m) b 0 dk) os).heap = (sortWorldK enc 1 w b 0 m dk os).heap := by
          show (w.heap.modify b (onCells (putCells enc1 0 dk))) ++ os = (w.heap.modify b (onCells (putCells id 0 (flatK enc 1 dk)))) ++ os
          rw [show putCells enc1 0 dk = putCells id 0 (flatK enc 1 dk) from funext fun c => put1 he dk c]
        obtain ⟨k1, k2, k3⟩ := sortHeap enc 1 w b m dk os hb
        rw [hheap]
        have hd' : dk.toList.length = l.length := by simpa using hd
        have q := hS.turn 0 rfl (Ow.own E 1 enc (.slice (some ⟨b, 0, none⟩) l.length cap) dk.toList) (h' := (sortWorldK enc 1 w b 0 m dk os).heap) (by
          refine ⟨⟨flat_len enc 1 _ (fun x _ => hk x), .inr ⟨b, cap, _, by rw [hd'], Nat.zero_le _, k1, by omega, hcap, by simp [putCells, hcs], ?_⟩⟩, fun x _ => hk x⟩
          rw [hd', ← hd]; exact putFlat enc 1 hk (by decide) dk cur (by rw [hd]; omega)) (fun x hx => .inl hx) k3 (fun x hx hne => k2 x hx fun e => hne (by subst e; rfl))
        exact ⟨q.1, q.2, ⟨rfl, rfl, rfl, fun _ => Nat.le_add_right _ _⟩⟩
def Swo {α : Type} (cf : α → α → Int) : Prop := SWO (Go.Proofs.ltOf cf)
def isort (l : List Int) : List Int := l.mergeSort fun x y => decide (x ≤ y)
def ssort (l : List Str) : List Str := l.mergeSort fun x y => decide (x ≤ y)
theorem sortInt_own (L : SlLaysM.n5 P ρ) {E : Nat} {F : Fz} {fr : List Ow} {h0 : Heap} {l : List Int} {v : Value} (hS : St F (Ow.own E 1 encI v l :: fr) h0) (hsz : l.length < 4611686018427387904) :
    HC P (ρ.f 5) #[v] h0 fun u h' => u = .tuple #[] ∧ Kp F h0 F h' ∧ St F (Ow.own E 1 encI v (isort l) :: fr) h' := by
  intro w hw
  subst hw
  rcases sort1_core (enc1 := Value.int .i64) (fun _ => rfl) hS with ⟨rfl, p, cap, rfl⟩ | ⟨b, cap, rfl, hb, hH, hall⟩
  · refine (AnyM.slices_Sort_int_none L p cap w).mono ?_
    rintro e w' ⟨rfl, rfl⟩
    exact ⟨Kept.refl _, _, rfl, rfl, Kp.refl F _, by simpa [isort, ssort] using hS⟩
  · refine (AnyM.slices_Sort_int L b 0 cap l w hH hb hsz).mono ?_
    rintro e w' ⟨rfl, n, os, rfl⟩
    obtain ⟨a1, a2, a3⟩ := hall n os (l.mergeSort fun x y => decide (x ≤ y)).toArray (by simp)
    exact ⟨a3, _, rfl, rfl, a2, a1⟩
end Go.Wk
