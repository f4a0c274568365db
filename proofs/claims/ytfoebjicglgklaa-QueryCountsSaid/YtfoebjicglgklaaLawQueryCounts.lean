/- QueryCounts holds at whatever. No conditions. -/
import Derived.Test.YtfoebjicglgklaaRows
import Derived.Test.YtfoebjicglgklaaArgs
import Derived.Test.YtfoebjicglgklaaArgs3
import Derived.Test.YtfoebjicglgklaaQryC
import Derived.WalkKit
import Derived.JoinedOf
import Derived.Handed
set_option linter.unusedSimpArgs false
set_option linter.unusedVariables false
set_option linter.unusedSectionVars false
namespace Go.Proofs.Ytfoebjicglgklaa.queryCounts
open Go.ChangeShapes Go.WideShapes Go.ChangeAt Go.RowKit Go.HL Go.Wk
theorem own : ownKnob Try.prog.godebug = none := by kernel_rfl
theorem laid : laidOutB Try.prog = true := by kernel_rfl
theorem reads : ∀ t ∈ Try.f4.params.toList, Try.prog.readableRec t = true ∧ t < Try.prog.types.size := by
  rw [Try.params4]; intro t ht; simp at ht; rcases ht with rfl | rfl <;> exact ⟨by kernel_rfl, of_decide_eq_true (by kernel_rfl)⟩
local instance : DM := ⟨false⟩
theorem rd_e_api_Tune : Rd Try.prog 26 e_api_Tune (fun _ x => (I64 x.1 ∧ I64 x.2.1 ∧ I64 x.2.2.1 ∧ I64 x.2.2.2.1 ∧ I64 x.2.2.2.2)) :=
  Rd.imp (rd_struct Try.underlying26 (by kernel_rfl) (RdF.cons (k := 1) rfl (by kernel_rfl) (rd_I Try.underlying3) (RdF.cons (k := 1) rfl (by kernel_rfl) (rd_I Try.underlying3) (RdF.cons (k := 1) rfl (by kernel_rfl) (rd_I Try.underlying3) (RdF.cons (k := 1) rfl (by kernel_rfl) (rd_I Try.underlying3) (RdF.cons (k := 1) rfl (by kernel_rfl) (rd_I Try.underlying3) RdF.nil)))))) (fun p => (p.1, p.2.1, p.2.2.1, p.2.2.2.1, p.2.2.2.2.1)) (fun _ => rfl) (fun _ p h => ⟨h.1, h.2.1, h.2.2.1, h.2.2.2.1, h.2.2.2.2.1⟩)
theorem rd_e_api_Addr : Rd Try.prog 30 e_api_Addr (fun _ x => (True ∧ True)) :=
  Rd.imp (rd_struct Try.underlying30 (by kernel_rfl) (RdF.cons (k := 1) rfl (by kernel_rfl) (rd_bool Try.underlying4) (RdF.cons (k := 16) rfl (by kernel_rfl) (rd_B Try.underlying28 Try.underlying5 (by kernel_rfl) (by kernel_rfl)) RdF.nil))) (fun p => (p.1, p.2.1)) (fun _ => rfl) (fun _ p h => ⟨h.1, h.2.1⟩)
set_option maxRecDepth 100000 in
theorem lifted (os : Os) (started : os.Started) (H : Type) (enc : TypeId × Value → H) :
    ReturnsInHanded {} Try.checked os 4 .any (Rows.queryCountsSpec.pre6 enc Try.prog Try.f4 Rows.queryCountsRow.domain false) (Rows.queryCountsSpec.post enc Try.prog Try.f4 false true false false) := by
  refine returnsInHanded_of_change (C := Try.checked) own started (by kernel_rfl) Try.func4
    (ChangeSpec.witness6 (enc := enc) (C := Try.checked) false ⟨#[], #[.agg (e_api_Tune (0, 0, 0, 0, 0)).toArray, .agg #[.bool false, .int .u8 0, .int .u8 0, .int .u8 0, .int .u8 0, .int .u8 0, .int .u8 0, .int .u8 0, .int .u8 0, .int .u8 0, .int .u8 0, .int .u8 0, .int .u8 0, .int .u8 0, .int .u8 0, .int .u8 0, .int .u8 0, .bool false, .slice none 0 0]], []⟩ 8 (by kernel_rfl) (by kernel_rfl) (by kernel_rfl) (by kernel_rfl)) ?_
  intro W base args ds gs before hval hW _ _
  have hW' := hW
  obtain ⟨p, q, hA0, hV, rfl, hfz, hnd⟩ := hW
  have hA : DataW.TrodAll enc Try.prog W 0 (fun _ => true) true Try.f4.params.toList args.toList ds p := hA0
  rw [Try.params4] at hA hval
  obtain ⟨v0, vs0, d0, ds0, p0, q0, hargs, rfl, rfl, r0, s0⟩ := trodAll_cons hA
  obtain ⟨v1, vs1, d1, ds1, p1, q1, rfl, rfl, rfl, r1, s1⟩ := trodAll_cons s0
  obtain ⟨rfl, rfl, rfl⟩ := trodAll_nil s1
  obtain rfl : args = #[v0, v1] := by cases args; simp_all
  obtain ⟨t, c0, ok_t⟩ := (rd_e_api_Tune).arg r0
  obtain ⟨xs0, rfl, _⟩ := okWide_struct Try.underlying26 (hval 0 26 v0 rfl rfl)
  obtain rfl : xs0 = #[.int .i64 t.1, .int .i64 t.2.1, .int .i64 t.2.2.1, .int .i64 t.2.2.2.1, .int .i64 t.2.2.2.2] := Array.toList_inj.1 (c0)
  obtain ⟨⟨a_Group, a_All, ⟨va_Sources, a_Sources⟩, _⟩, c1, ⟨ok_a_Group, ok_a_All, ⟨hs_a_Sources, ok_a_Sources⟩, _⟩⟩ := ((rd_struct Try.underlying34 (by kernel_rfl) (RdF.cons (k := 17) rfl (by kernel_rfl) rd_e_api_Addr (RdF.cons (k := 1) rfl (by kernel_rfl) (rd_bool Try.underlying4) (RdF.cons (k := 1) rfl (by kernel_rfl) (rd_slice (k := 17) Try.underlying32 (by kernel_rfl) (by decide) rd_e_api_Addr) RdF.nil))))).arg r1
  obtain ⟨xs1, rfl, _⟩ := okWide_struct Try.underlying34 (hval 1 34 v1 rfl rfl)
  obtain rfl : xs1 = #[.bool a_Group.1, .int .u8 (b8 a_Group.2 0), .int .u8 (b8 a_Group.2 1), .int .u8 (b8 a_Group.2 2), .int .u8 (b8 a_Group.2 3), .int .u8 (b8 a_Group.2 4), .int .u8 (b8 a_Group.2 5), .int .u8 (b8 a_Group.2 6), .int .u8 (b8 a_Group.2 7), .int .u8 (b8 a_Group.2 8), .int .u8 (b8 a_Group.2 9), .int .u8 (b8 a_Group.2 10), .int .u8 (b8 a_Group.2 11), .int .u8 (b8 a_Group.2 12), .int .u8 (b8 a_Group.2 13), .int .u8 (b8 a_Group.2 14), .int .u8 (b8 a_Group.2 15), .bool a_All, va_Sources] := Array.toList_inj.1 (c1)
  refine ((show HC Try.prog 4 _ W.heap (fun u h' => u = .bool true ∧ Ext W.heap h') from (law22_QueryCounts_walk (fr := []) t a_Group a_All a_Sources _ (St.init W.heap) (SliceF.init hs_a_Sources) (Q := fun r => r = true) (queryCounts_ok rfl)).mono (fun u h' ⟨F', r, hu, hk, _, _, hr⟩ => ⟨hu.trans (by rw [hr]), hk.ext⟩)) W rfl).mono fun e W' ⟨hk, v, he, hR⟩ => ?_
  obtain ⟨rfl, hE⟩ := hR
  exact ⟨_, he, law_post laid reads rfl Try.underlying4 rfl (fun ds hd => by
    match ds, hd with
    | [_, _], _ => rfl) hW' (below_of hk hE)⟩
theorem proved : Rows.QueryCountsSaid :=
  OpenClaim.holds_of_wide 4 Try.f4 rfl rfl rfl rfl rfl rfl rfl ⟨rfl, rfl, rfl, rfl, rfl⟩ rfl rfl rfl rfl rfl (by kernel_rfl) Try.func4 (by kernel_rfl)
    (of_decide_eq_true (by kernel_rfl)) (by unfold Func.isWrapper; first | (rw [if_pos (by decide +kernel)]; kernel_rfl) | (rw [if_neg (by decide +kernel)]; exact ⟨rfl, rfl⟩))
    (fun os started H enc _ => lifted os started H enc)
end Go.Proofs.Ytfoebjicglgklaa.queryCounts
