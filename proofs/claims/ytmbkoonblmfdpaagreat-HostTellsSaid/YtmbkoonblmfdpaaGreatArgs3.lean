/- Readings of a law's arguments: arrays of bytes. -/
import Derived.Test.YtmbkoonblmfdpaaGreatArgs2
import Derived.Test.YtmbkoonblmfdpaaGreatArr
set_option linter.unusedSimpArgs false
set_option linter.unusedVariables false
set_option linter.unusedSectionVars false
namespace Go.Wk
open Go.HL
variable [DM]
variable {P : Program} {t : TypeId}
theorem abS : ∀ {l : List Int}, (∀ i (h : i < l.length), 0 <= l[i] /\ l[i] < 256) -> rng l
  | [], _ => trivial
  | a :: l, h => ⟨h 0 (by simp), abS fun i hi => h (i + 1) (by simpa using hi)⟩
theorem aiw {n e : Nat} (ht : P.underlying t = some (.array n e)) (he : P.underlying e = some (.int .u8)) (hc : P.cellsOf e = 1) (hct : P.cellsOf t = n) : Rd P t (fun x : Ba n => og x) (fun _ _ => True) := ⟨fun {H} {en} {w} {base} {sp} {held} {fuel} {cs} {x} h => by
  obtain ⟨xs, m, _, _, hl, hxl, hx⟩ := DataW.trod_array ht h
  rw [hct] at hl
  obtain ⟨l, hll, hle⟩ := aap n (fun i (a : Int) => cs[i]? = some (.int .u8 a) /\ 0 <= a /\ a < 256) (fun i hi => by
    have h1 := hx i hi
    rw [hc, Nat.mul_one, List.getElem?_eq_getElem (by omega)] at h1
    obtain ⟨a, ha, hb⟩ := (afm (P := P) he).read h1
    have h2 : ((cs.drop i).take 1)[0]? = some (.int .u8 a) := by rw [ha]; rfl
    rw [List.getElem?_take, if_pos (by decide), List.getElem?_drop, Nat.add_zero] at h2
    refine ⟨a, h2, ?_⟩
    have := hb; simp [okK, IntKind.min, IntKind.max, IntKind.signed, IntKind.bits] at this; omega)
  have hr : rng l := abS fun i hi => (hle i hi).2
  refine ⟨NK n l, ?_, trivial⟩
  rw [← Wu hll hr]
  apply List.ext_getElem?
  intro i
  by_cases hi : i < n
  · rw [(hle i (by omega)).1, List.getElem?_map, List.getElem?_eq_getElem (by omega)]; rfl
  · rw [List.getElem?_eq_none (by omega), List.getElem?_eq_none (by rw [List.length_map]; omega)]⟩
end Go.Wk
