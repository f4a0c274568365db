/- The library's functions of texts, over things owned. -/
import Derived.Test.YtlnagjjldpgbpaaGreatDoorArr
import Derived.Shelf.Small.Strs
import Derived.Shelf.Strings.OnBuilder
import Derived.Shelf.Strconv.Itoa3
set_option linter.unusedSimpArgs false
set_option linter.unusedVariables false
set_option linter.unusedSectionVars false
namespace Go.Wk
open Go.HL Go.Shelf Go.Proofs
variable [DM]
variable {P : Program} {ρ : Ren}
def Dt (a b : Str) : Int := Lib.compareBytes a b
theorem Qr (L : Lays.n106 P ρ) (a b : Str) (h : Heap) : HC P (ρ.f 106) #[.string (bs a), .string (bs b)] h fun u h' => u = .int .i64 (Dt a b) /\ h' = h :=
  HC.of_same fun w => Any.strings_Compare L (bs a) (bs b) w
theorem HC.of_below {K : Nat} {args : Array Value} {h : Heap} {v : Value} {F : Fz} {os : List Ow} (hD : DM.on = false) (hS : St F os h) (hc : ∀ w, w.heap = h -> Calls P K args w fun e w' => e = .returned v /\ Go.RowKit.Below w.heap.size w w') :
    HC P K args h fun u h' => u = v /\ St F os h' /\ Kp F h F h' := by
  intro w hw
  refine (hc w hw).mono ?_
  rintro e w' ⟨rfl, hb⟩
  subst hw
  exact ⟨⟨hb.os, hb.tape, hb.output, fun q => by rw [hD] at q; cases q⟩, v, rfl, rfl, hS.ext ⟨hb.size, fun b hb' => hb.block b hb'⟩⟩
def gy (l : List Str) (s : Str) : Str := Lib.join l s
theorem Ia (hD : DM.on = false) (L : Lays.n156 P ρ) (X : Builder.Extra P ρ) {F : Fz} {os : List Ow} {h : Heap} {v : Value} {l : List Str} (s : Str) (hS : St F os h) (hL : gI h 1 kS v l) (hl : l.length <= 140737488355328) (hlen : (gy l s).length <= 140737488355328) :
    HC P (ρ.f 156) #[v, .string (bs s)] h fun u h' => u = .string (bs (gy l s)) /\ St F os h' /\ Kp F h F h' := by
  obtain ⟨⟨a, cap, rfl, hc1, hc2, h3⟩, h4⟩ := hL
  refine HC.of_below hD hS fun w hw => ?_
  rcases h3 with rfl | ⟨b, off, rfl, hb, hr⟩
  · refine (Any.strings_Join_none L X a cap (bs s) w).mono ?_
    rintro e w' ⟨rfl, rfl⟩
    exact ⟨rfl, Go.RowKit.Below.refl _ _⟩
  · have e1 : (l.map bs).map (·.data.toList) = l := by
      rw [List.map_map]
      exact (List.map_congr_left fun x _ => by simp [bs]).trans (List.map_id l)
    have e2 : (bs s).data.toList = s := by simp [bs]
    have := Any.strings_Join L X b off cap (l.map bs) (bs s) w (by
      intro j x hx
      rw [List.getElem?_map, Option.map_eq_some_iff] at hx
      obtain ⟨y, hy, rfl⟩ := hx
      obtain ⟨hj, rfl⟩ := List.getElem?_eq_some_iff.1 hy
      have := hr j hj 0 (by simp [kS])
      rw [Gy, hw]
      simpa [kS] using this) (by rw [hw]; exact hb) (by simpa using hl) (by simpa using hc1) (by rw [e1, e2]; exact hlen)
    rw [e1, e2, List.length_map] at this
    exact this
end Go.Wk
