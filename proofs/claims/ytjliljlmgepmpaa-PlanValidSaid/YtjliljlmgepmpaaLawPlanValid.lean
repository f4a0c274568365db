/- PlanValid holds at whatever. No conditions. -/
import Derived.Test.YtjliljlmgepmpaaRows
import Derived.Test.YtjliljlmgepmpaaArgs
import Derived.Test.YtjliljlmgepmpaaArgs4
import Derived.Test.YtjliljlmgepmpaaPlnV
import Derived.WalkKit
import Derived.JoinedOf
import Derived.Handed
set_option linter.unusedSimpArgs false
set_option linter.unusedVariables false
set_option linter.unusedSectionVars false
namespace Go.Proofs.Ytjliljlmgepmpaa.planValid
open Go.ChangeShapes Go.WideShapes Go.ChangeAt Go.RowKit Go.HL Go.Wk
theorem own : ownKnob Try.prog.godebug = none := by kernel_rfl
theorem laid : laidOutB Try.prog = true := by kernel_rfl
theorem reads : ∀ t ∈ Try.f6.params.toList, Try.prog.readableRec t = true ∧ t < Try.prog.types.size := by
  rw [Try.params6]; intro t ht; simp at ht; rcases ht with rfl | rfl <;> exact ⟨by kernel_rfl, of_decide_eq_true (by kernel_rfl)⟩
local instance : DM := ⟨false⟩
theorem rd_e_api_Branch : Rd Try.prog 67 e_api_Branch (fun _ x => (I64 x.1 ∧ I64 x.2)) :=
  Rd.imp (rd_struct Try.underlying67 (by kernel_rfl) (RdF.cons (k := 1) rfl (by kernel_rfl) (rd_I Try.underlying3) (RdF.cons (k := 1) rfl (by kernel_rfl) (rd_I Try.underlying3) RdF.nil))) (fun p => (p.1, p.2.1)) (fun _ => rfl) (fun _ p h => ⟨h.1, h.2.1⟩)
set_option maxRecDepth 100000 in
theorem lifted (os : Os) (started : os.Started) (H : Type) (enc : TypeId × Value → H) :
    ReturnsInHanded {} Try.checked os 6 .any (Rows.planValidSpec.pre6 enc Try.prog Try.f6 Rows.planValidRow.domain false) (Rows.planValidSpec.post enc Try.prog Try.f6 false true false false) := by
  refine returnsInHanded_of_change_sized (C := Try.checked) own started (by kernel_rfl) Try.func6
    (ChangeSpec.witness6 (enc := enc) (C := Try.checked) false ⟨#[], #[.agg #[.int .i64 0, .slice none 0 0], .agg #[.int .i64 0, .slice none 0 0, .slice none 0 0, .int .u8 0]], []⟩ 8 (by kernel_rfl) (by kernel_rfl) (by kernel_rfl) (by kernel_rfl)) ?_
  intro W base args ds gs before hval hW _ hz _
  have hW' := hW
  obtain ⟨p, q, hA0, hV, rfl, hfz, hnd⟩ := hW
  have hA : DataW.TrodAll enc Try.prog W 0 (fun _ => true) true Try.f6.params.toList args.toList ds p := hA0
  rw [Try.params6] at hA hval
  obtain ⟨v0, vs0, d0, ds0, p0, q0, hargs, rfl, rfl, r0, s0⟩ := trodAll_cons hA
  obtain ⟨v1, vs1, d1, ds1, p1, q1, rfl, rfl, rfl, r1, s1⟩ := trodAll_cons s0
  obtain ⟨rfl, rfl, rfl⟩ := trodAll_nil s1
  obtain rfl : args = #[v0, v1] := by cases args; simp_all
  obtain ⟨⟨t_Root, ⟨vt_Links, t_Links⟩, _⟩, c0, ⟨ok_t_Root, ⟨⟨hs_t_Links, ok_t_Links⟩, lz_t_Links⟩, _⟩⟩ := ((rdz_struct Try.underlying46 (by kernel_rfl) (RdZF.cons (k := 1) rfl (by kernel_rfl) (RdZ.of (rd_I Try.underlying3)) (RdZF.cons (k := 1) rfl (by kernel_rfl) (rdz_slice (k := 2) Try.underlying44 (by kernel_rfl) (by decide) rd_e_api_Branch) RdZF.nil)))).arg r0 (fun m hm => by have := List.all_eq_true.1 hz m (DataW.weights_mem_each (j := 0) (t := 46) (d := d0) (by rw [Try.params6]; rfl) rfl m hm); simpa using this)
  obtain ⟨xs0, rfl, _⟩ := okWide_struct Try.underlying46 (hval 0 46 v0 rfl rfl)
  obtain rfl : xs0 = #[.int .i64 t_Root, vt_Links] := Array.toList_inj.1 (c0)
  obtain ⟨⟨a_Root, ⟨va_Members, a_Members⟩, ⟨va_Services, a_Services⟩, a_Fan, _⟩, c1, ⟨ok_a_Root, ⟨⟨hs_a_Members, ok_a_Members⟩, lz_a_Members⟩, ⟨⟨hs_a_Services, ok_a_Services⟩, lz_a_Services⟩, ok_a_Fan, _⟩⟩ := ((rdz_struct Try.underlying39 (by kernel_rfl) (RdZF.cons (k := 1) rfl (by kernel_rfl) (RdZ.of (rd_I Try.underlying3)) (RdZF.cons (k := 1) rfl (by kernel_rfl) (rdz_slice (k := 1) Try.underlying31 (by kernel_rfl) (by decide) (rd_I Try.underlying3)) (RdZF.cons (k := 1) rfl (by kernel_rfl) (rdz_slice (k := 1) Try.underlying31 (by kernel_rfl) (by decide) (rd_I Try.underlying3)) (RdZF.cons (k := 1) rfl (by kernel_rfl) (RdZ.of (rd_N Try.underlying5)) RdZF.nil)))))).arg r1 (fun m hm => by have := List.all_eq_true.1 hz m (DataW.weights_mem_each (j := 1) (t := 39) (d := d1) (by rw [Try.params6]; rfl) rfl m hm); simpa using this)
  obtain ⟨xs1, rfl, _⟩ := okWide_struct Try.underlying39 (hval 1 39 v1 rfl rfl)
  obtain rfl : xs1 = #[.int .i64 a_Root, va_Members, va_Services, .int .u8 a_Fan] := Array.toList_inj.1 (c1)
  refine ((show HC Try.prog 6 _ W.heap (fun u h' => u = .bool true ∧ Ext W.heap h') from (law33_PlanValid_walk (fr := []) t_Root t_Links a_Root a_Members a_Services a_Fan _ _ _ (St.init W.heap) (SliceF.init hs_t_Links) (SliceF.init hs_a_Members) (SliceF.init hs_a_Services) rfl (Q := fun r => r = true) (planValid_ok (room_of (c := 8) (by kernel_rfl) lz_a_Members) (room_of (c := 8) (by kernel_rfl) lz_a_Services) (u8b ok_a_Fan) rfl)).mono (fun u h' ⟨F', r, hu, hk, _, _, _, _, hr⟩ => ⟨hu.trans (by rw [hr]), hk.ext⟩)) W rfl).mono fun e W' ⟨hk, v, he, hR⟩ => ?_
  obtain ⟨rfl, hE⟩ := hR
  exact ⟨_, he, law_post laid reads rfl Try.underlying4 rfl (fun ds hd => by
    match ds, hd with
    | [_, _], _ => rfl) hW' (below_of hk hE)⟩
theorem proved : Rows.PlanValidSaid :=
  OpenClaim.holds_of_wide 6 Try.f6 rfl rfl rfl rfl rfl rfl rfl ⟨rfl, rfl, rfl, rfl, rfl⟩ rfl rfl rfl rfl rfl (by kernel_rfl) Try.func6 (by kernel_rfl)
    (of_decide_eq_true (by kernel_rfl)) (by unfold Func.isWrapper; first | (rw [if_pos (by decide +kernel)]; kernel_rfl) | (rw [if_neg (by decide +kernel)]; exact ⟨rfl, rfl⟩))
    (fun os started H enc _ => lifted os started H enc)
end Go.Proofs.Ytjliljlmgepmpaa.planValid
