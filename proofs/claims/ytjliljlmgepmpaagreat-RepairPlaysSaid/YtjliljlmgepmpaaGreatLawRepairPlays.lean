/- RepairPlays holds at whatever. No conditions. -/
import Derived.Test.YtjliljlmgepmpaaGreatRows
import Derived.Test.YtjliljlmgepmpaaGreatArgs
import Derived.Test.YtjliljlmgepmpaaGreatArgs4
import Derived.Test.YtjliljlmgepmpaaGreatRqP
import Derived.WalkKit
import Derived.JoinedOf
import Derived.Handed
set_option linter.unusedSimpArgs false
set_option linter.unusedVariables false
set_option linter.unusedSectionVars false
namespace Go.Proofs.YtjliljlmgepmpaaGreat.repairPlays
open Go.ChangeShapes Go.WideShapes Go.ChangeAt Go.RowKit Go.HL Go.Wk
theorem own : ownKnob Tryz.prog.godebug = none := by kernel_rfl
theorem laid : laidOutB Tryz.prog = true := by kernel_rfl
theorem reads : ∀ t ∈ Tryz.f3.params.toList, Tryz.prog.readableRec t = true ∧ t < Tryz.prog.types.size := by
  rw [Tryz.params3]; intro t ht; simp at ht; rcases ht with rfl | rfl <;> exact ⟨by kernel_rfl, of_decide_eq_true (by kernel_rfl)⟩
local instance : DM := ⟨false⟩
set_option maxRecDepth 100000 in
theorem lifted (os : Os) (started : os.Started) (H : Type) (enc : TypeId × Value → H) :
    ReturnsInHanded {} Tryz.checked os 3 .any (Rows.repairPlaysSpec.pre6 enc Tryz.prog Tryz.f3 Rows.repairPlaysRow.domain false) (Rows.repairPlaysSpec.post enc Tryz.prog Tryz.f3 false true false false) := by
  refine returnsInHanded_of_change (C := Tryz.checked) own started (by kernel_rfl) Tryz.func3
    (ChangeSpec.witness6 (enc := enc) (C := Tryz.checked) false ⟨#[], #[.agg #[.int .i64 0, .slice none 0 0, .slice none 0 0, .int .u8 0], .slice none 0 0], []⟩ 8 (by kernel_rfl) (by kernel_rfl) (by kernel_rfl) (by kernel_rfl)) ?_
  intro W base args ds gs before hval hW _ _
  have hW' := hW
  obtain ⟨p, q, hA0, hV, rfl, hfz, hnd⟩ := hW
  have hA : DataW.TrodAll enc Tryz.prog W 0 (fun _ => true) true Tryz.f3.params.toList args.toList ds p := hA0
  rw [Tryz.params3] at hA hval
  obtain ⟨v0, vs0, d0, ds0, p0, q0, hargs, rfl, rfl, r0, s0⟩ := trodAll_cons hA
  obtain ⟨v1, vs1, d1, ds1, p1, q1, rfl, rfl, rfl, r1, s1⟩ := trodAll_cons s0
  obtain ⟨rfl, rfl, rfl⟩ := trodAll_nil s1
  obtain rfl : args = #[v0, v1] := by cases args; simp_all
  obtain ⟨⟨a_Root, ⟨va_Members, a_Members⟩, ⟨va_Services, a_Services⟩, a_Fan, _⟩, c0, ⟨ok_a_Root, ⟨hs_a_Members, ok_a_Members⟩, ⟨hs_a_Services, ok_a_Services⟩, ok_a_Fan, _⟩⟩ := ((rd_struct Tryz.underlying24 (by kernel_rfl) (RdF.cons (k := 1) rfl (by kernel_rfl) (rd_I Tryz.underlying3) (RdF.cons (k := 1) rfl (by kernel_rfl) (rd_slice (k := 1) Tryz.underlying22 (by kernel_rfl) (by decide) (rd_I Tryz.underlying3)) (RdF.cons (k := 1) rfl (by kernel_rfl) (rd_slice (k := 1) Tryz.underlying22 (by kernel_rfl) (by decide) (rd_I Tryz.underlying3)) (RdF.cons (k := 1) rfl (by kernel_rfl) (rd_N Tryz.underlying5) RdF.nil)))))).arg r0
  obtain ⟨xs0, rfl, _⟩ := okWide_struct Tryz.underlying24 (hval 0 24 v0 rfl rfl)
  obtain rfl : xs0 = #[.int .i64 a_Root, va_Members, va_Services, .int .u8 a_Fan] := Array.toList_inj.1 (c0)
  obtain ⟨⟨vmoves, moves⟩, c1, ⟨hs_moves, ok_moves⟩⟩ := ((rd_slice (k := 1) Tryz.underlying25 (by kernel_rfl) (by decide) (rd_8 Tryz.underlying5))).arg r1
  obtain ⟨a1, l1, k1, rfl⟩ := okWide_slice Tryz.underlying25 (hval 1 25 v1 rfl rfl)
  have e1 := cells_one rfl c1
  clear c1; subst e1
  refine ((show HC Tryz.prog 3 _ W.heap (fun u h' => u = .bool true ∧ Ext W.heap h') from (law34_RepairPlays_walk (fr := []) a_Root a_Members a_Services a_Fan moves _ _ _ (St.init W.heap) (SliceF.init hs_a_Members) (SliceF.init hs_a_Services) (SliceF.init hs_moves) rfl (Q := fun r => r = true) (repairPlays_ok (u8b ok_a_Fan) rfl)).mono (fun u h' ⟨F', r, hu, hk, _, _, _, _, hr⟩ => ⟨hu.trans (by rw [hr]), hk.ext⟩)) W rfl).mono fun e W' ⟨hk, v, he, hR⟩ => ?_
  obtain ⟨rfl, hE⟩ := hR
  exact ⟨_, he, law_post laid reads rfl Tryz.underlying4 rfl (fun ds hd => by
    match ds, hd with
    | [_, _], _ => rfl) hW' (below_of hk hE)⟩
theorem proved : Rows.RepairPlaysSaid :=
  OpenClaim.holds_of_wide 3 Tryz.f3 rfl rfl rfl rfl rfl rfl rfl ⟨rfl, rfl, rfl, rfl, rfl⟩ rfl rfl rfl rfl rfl (by kernel_rfl) Tryz.func3 (by kernel_rfl)
    (of_decide_eq_true (by kernel_rfl)) (by unfold Func.isWrapper; first | (rw [if_pos (by decide +kernel)]; kernel_rfl) | (rw [if_neg (by decide +kernel)]; exact ⟨rfl, rfl⟩))
    (fun os started H enc _ => lifted os started H enc)
end Go.Proofs.YtjliljlmgepmpaaGreat.repairPlays
