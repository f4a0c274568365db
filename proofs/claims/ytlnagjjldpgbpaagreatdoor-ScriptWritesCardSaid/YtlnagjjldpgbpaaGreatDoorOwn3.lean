/- Own slices: elements stored whole, ends cleared; strings cut. -/
import Derived.Test.YtlnagjjldpgbpaaGreatDoorMapK
import Derived.Laws.Strings2
import Derived.Laws.Strings3
set_option linter.unusedSimpArgs false
set_option linter.unusedVariables false
set_option linter.unusedSectionVars false
namespace Go.Wk
open Go.HL
variable [DM]
section
variable {P : Program} {f : jk} {h : Heap} {ty : TypeId} {α : Type} {E k T : Nat} {enc : α -> List Value} {v : Value} {l : List α} {F : Fz} {os : List Ow} {i : Nat}
theorem Vk (a : Str) (lo hi : Int) (h0 : 0 <= lo) (h1 : lo <= hi) : (bs a).extract lo.toNat hi.toNat = bs (cut a lo hi) := by
  apply ByteArray.ext
  rw [ByteArray.data_extract]
  unfold bs cut
  simp
  rw [List.drop_take]
theorem Oq {kl kh : _} {x y z : Operand} {a : Str} {lo hi : Int} (hT : P.underlying T = some .string) (hx : ev f x = .string (bs a)) (hy : ev f y = .int kl lo) (hz : ev f z = .int kh hi) (hb : 0 <= lo /\ lo <= hi /\ hi <= (a.length : Int)) :
    QV P (.slice T x (some y) (some z) none) ty f h (.string (bs (cut a lo hi))) := by
  intro dst pos after guard w _
  simp only [execOp, hx, Option.map_some, Option.map_none, hy, hz]
  rw [Sem.run_bind, run_sliceAt_string (P := P) (w := w) T _ _ _ _ hT, run_slice_string (P := P) (w := w) T (bs a) kl kh lo hi hT hb.1 hb.2.1 (by rw [pR]; exact hb.2.2), Vk a lo hi hb.1 hb.2.1]
  rfl
theorem abK {kh : _} {x z : Operand} {a : Str} {hi : Int} (hT : P.underlying T = some .string) (hx : ev f x = .string (bs a)) (hz : ev f z = .int kh hi) (hb : 0 <= hi /\ hi <= (a.length : Int)) :
    QV P (.slice T x none (some z) none) ty f h (.string (bs (cut a 0 hi))) := by
  intro dst pos after guard w _
  simp only [execOp, hx, Option.map_some, Option.map_none, hz]
  rw [Sem.run_bind, run_sliceAt_string (P := P) (w := w) T _ _ _ _ hT, run_slice_string_to_if (P := P) (w := w) T (bs a) kh hi hT, if_pos ⟨hb.1, by rw [pR]; exact hb.2⟩, ← Vk a 0 hi (Int.le_refl _) hb.1]
  rfl
theorem GR {kl : _} {x y : Operand} {a : Str} {lo : Int} (hT : P.underlying T = some .string) (hx : ev f x = .string (bs a)) (hy : ev f y = .int kl lo) (hb : 0 <= lo /\ lo <= (a.length : Int)) :
    QV P (.slice T x (some y) none none) ty f h (.string (bs (cut a lo (a.length : Int)))) := by
  intro dst pos after guard w _
  simp only [execOp, hx, Option.map_some, Option.map_none, hy]
  rw [Sem.run_bind, run_sliceAt_string (P := P) (w := w) T _ _ _ _ hT, run_slice_string_from_if (P := P) (w := w) T (bs a) kl lo hT, if_pos ⟨hb.1, by rw [pR]; exact hb.2⟩, ← Vk a lo _ hb.1 hb.2, pR]
  rfl
end
end Go.Wk
