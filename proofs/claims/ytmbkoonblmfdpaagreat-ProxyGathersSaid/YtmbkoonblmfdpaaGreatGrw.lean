/- slices.Grow of nothing: an own slice without a thing in it. -/
import Derived.Test.YtmbkoonblmfdpaaGreatRo
import Derived.Shelf.Spec.SlicesGrow
import Derived.Laws.AppendOwn
set_option linter.unusedSimpArgs false
set_option linter.unusedVariables false
set_option linter.unusedSectionVars false
namespace Go.Wk
open Go.HL
open Go.Proofs Go.Shelf
variable [DM]
theorem growNil_hc {P : Program} {ρ : Ren} {T E k bytes : Nat} {α : Type} {enc : α → List Value} {F : Fz} {os : List Ow} {h : Heap} (hD : DM.on = false) (L : Lays8.n4 P ρ) (hT : TElem P T E k bytes) (hE : ρ.t 25 = E) {a : Int} (h0 : 0 ≤ a) (hb : a.toNat * bytes ≤ 140737488355328) (hn : a ≤ 4611686018427387904) (hS : St F os h) :
    HC P (ρ.f 4) #[.slice none 0 0, .int .i64 a] h fun v h' => St F (Ow.own E k enc v ([] : List α) :: os) h' ∧ Kp F h F h' := by
  subst hE
  obtain ⟨n, rfl⟩ := Int.eq_ofNat_of_zero_le h0
  rw [Int.toNat_natCast] at hb
  clear h0
  obtain ⟨i0, z, hi, hz, hk, hby, hzk⟩ := hT.info
  intro w hw
  subst hw
  by_cases h0 : n = 0
  · subst h0
    refine (Any8.slices_Grow_room L none 0 0 0 w (Nat.le_refl _) (by omega) (by omega) (Nat.le_refl _)).mono ?_
    rintro e w' ⟨rfl, rfl⟩
    exact ⟨Kept.refl _, _, rfl, hS.nilOwn _ k enc, Kp.refl _ _⟩
  · refine (Any8.slices_Grow_grow L i0 z hi hz (by rw [hk]; exact hT.pos) none 0 0 n [] w (Nat.le_refl _) (by omega) (by rw [hby, Nat.zero_add]; exact hb) (by omega) (by simp) (fun _ => rfl) (fun a ha => by cases ha)).mono ?_
    rintro e w' ⟨rfl, rfl⟩
    have hg := grownCap_ge w (0 + n) 0 (ρ.t 25)
    have hg2 := grownCap_le_maxLen w (0 + n) 0 (ρ.t 25) (by unfold maxLen; omega)
    have hN : New w.heap (.cells (([] : List Value).toArray ++ Builtin.zeroCells z.cells (0 + n - 0) ++ Builtin.zeroCells z.cells (grownCap w (0 + n) 0 (ρ.t 25) - (0 + n))) (ρ.t 25) (0, 0)) w.heap.size (w.drew.alloc (.cells (([] : List Value).toArray ++ Builtin.zeroCells z.cells (0 + n - 0) ++ Builtin.zeroCells z.cells (grownCap w (0 + n) 0 (ρ.t 25) - (0 + n))) (ρ.t 25))).heap := ⟨rfl, rfl⟩
    refine ⟨⟨rfl, rfl, rfl, fun q => by rw [hD] at q; cases q⟩, _, rfl, hS.cons _ ?_ ?_ hN.ext⟩
    · refine ⟨⟨by simp, .inr ⟨w.heap.size, grownCap w (0 + n) 0 (ρ.t 25), _, by simp, Nat.zero_le _, hN.blk, by simp, hg2, ?_, by simp⟩⟩, by simp⟩
      simp only [Array.size_append, size_zeroCells, List.size_toArray, List.length_nil, hzk]
      rw [Nat.zero_add, ← Nat.add_mul]; congr 1; omega
    · intro x hx
      have : w.heap.size = x := Option.some.inj hx
      omega
end Go.Wk
