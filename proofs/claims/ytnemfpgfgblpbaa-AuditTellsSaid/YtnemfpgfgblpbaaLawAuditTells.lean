/- AuditTells holds at whatever. No conditions. -/
import Derived.Test.YtnemfpgfgblpbaaRows
import Derived.Test.YtnemfpgfgblpbaaArgs
import Derived.Test.YtnemfpgfgblpbaaArgs2
import Derived.Test.YtnemfpgfgblpbaaAudP5
import Derived.WalkKit
import Derived.JoinedOf
import Derived.Handed
set_option linter.unusedSimpArgs false
set_option linter.unusedVariables false
set_option linter.unusedSectionVars false
namespace Go.Proofs.Ytnemfpgfgblpbaa.auditTells
open Go.ChangeShapes Go.WideShapes Go.ChangeAt Go.RowKit Go.HL Go.Wk
theorem own : ownKnob Try.prog.godebug = none := by kernel_rfl
theorem laid : laidOutB Try.prog = true := by kernel_rfl
theorem reads : ∀ t ∈ Try.f13.params.toList, Try.prog.readableRec t = true ∧ t < Try.prog.types.size := by
  rw [Try.params13]; intro t ht; simp at ht; rcases ht with rfl | rfl | rfl <;> exact ⟨by kernel_rfl, of_decide_eq_true (by kernel_rfl)⟩
local instance : DM := ⟨false⟩
theorem rd_e_api_Given : Rd Try.prog 112 e_api_Given (fun _ x => (I64 x.1 ∧ I64 x.2.1 ∧ I64 x.2.2.1 ∧ I64 x.2.2.2.1 ∧ x.2.2.2.2.length ≤ maxLen)) :=
  Rd.imp (rd_struct Try.underlying112 (by kernel_rfl) (RdF.cons (k := 1) rfl (by kernel_rfl) (rd_I Try.underlying3) (RdF.cons (k := 1) rfl (by kernel_rfl) (rd_I Try.underlying3) (RdF.cons (k := 1) rfl (by kernel_rfl) (rd_I Try.underlying3) (RdF.cons (k := 1) rfl (by kernel_rfl) (rd_I Try.underlying3) (RdF.cons (k := 1) rfl (by kernel_rfl) (rd_T Try.underlying9) RdF.nil)))))) (fun p => (p.1, p.2.1, p.2.2.1, p.2.2.2.1, p.2.2.2.2.1)) (fun _ => rfl) (fun _ p h => ⟨h.1, h.2.1, h.2.2.1, h.2.2.2.1, h.2.2.2.2.1⟩)
theorem rd_e_api_Spot : Rd Try.prog 100 e_api_Spot (fun _ x => (I64 x.1 ∧ I64 x.2)) :=
  Rd.imp (rd_struct Try.underlying100 (by kernel_rfl) (RdF.cons (k := 1) rfl (by kernel_rfl) (rd_I Try.underlying3) (RdF.cons (k := 1) rfl (by kernel_rfl) (rd_I Try.underlying3) RdF.nil))) (fun p => (p.1, p.2.1)) (fun _ => rfl) (fun _ p h => ⟨h.1, h.2.1⟩)
set_option maxRecDepth 100000 in
theorem lifted (os : Os) (started : os.Started) (H : Type) (enc : TypeId × Value → H) :
    ReturnsInHanded {} Try.checked os 13 .any (Rows.auditTellsSpec.pre6 enc Try.prog Try.f13 Rows.auditTellsRow.domain false) (Rows.auditTellsSpec.post enc Try.prog Try.f13 false true false false) := by
  refine returnsInHanded_of_change (C := Try.checked) own started (by kernel_rfl) Try.func13
    (ChangeSpec.witness6 (enc := enc) (C := Try.checked) false ⟨#[], #[.slice none 0 0, .slice none 0 0, .agg #[.int .i64 0, .int .i64 0, .slice none 0 0, .int .i64 0, .int .i64 0]], []⟩ 8 (by kernel_rfl) (by kernel_rfl) (by kernel_rfl) (by kernel_rfl)) ?_
  intro W base args ds gs before hval hW _ _
  have hW' := hW
  obtain ⟨p, q, hA0, hV, rfl, hfz, hnd⟩ := hW
  have hA : DataW.TrodAll enc Try.prog W 0 (fun _ => true) true Try.f13.params.toList args.toList ds p := hA0
  rw [Try.params13] at hA hval
  obtain ⟨v0, vs0, d0, ds0, p0, q0, hargs, rfl, rfl, r0, s0⟩ := trodAll_cons hA
  obtain ⟨v1, vs1, d1, ds1, p1, q1, rfl, rfl, rfl, r1, s1⟩ := trodAll_cons s0
  obtain ⟨v2, vs2, d2, ds2, p2, q2, rfl, rfl, rfl, r2, s2⟩ := trodAll_cons s1
  obtain ⟨rfl, rfl, rfl⟩ := trodAll_nil s2
  obtain rfl : args = #[v0, v1, v2] := by cases args; simp_all
  obtain ⟨⟨vx, x⟩, c0, ⟨hs_x, ok_x⟩⟩ := ((rd_slice (k := 5) Try.underlying97 (by kernel_rfl) (by decide) rd_e_api_Given)).arg r0
  obtain ⟨a0, l0, k0, rfl⟩ := okWide_slice Try.underlying97 (hval 0 97 v0 rfl rfl)
  have e0 := cells_one rfl c0
  clear c0; subst e0
  obtain ⟨⟨vy, y⟩, c1, ⟨hs_y, ok_y⟩⟩ := ((rd_slice (k := 5) Try.underlying97 (by kernel_rfl) (by decide) rd_e_api_Given)).arg r1
  obtain ⟨a1, l1, k1, rfl⟩ := okWide_slice Try.underlying97 (hval 1 97 v1 rfl rfl)
  have e1 := cells_one rfl c1
  clear c1; subst e1
  obtain ⟨⟨q_Id, q_Vlan, ⟨vq_Want, q_Want⟩, q_But, _⟩, c2, ⟨ok_q_Id, ok_q_Vlan, ⟨hs_q_Want, ok_q_Want⟩, ok_q_But, _⟩⟩ := ((rd_struct Try.underlying102 (by kernel_rfl) (RdF.cons (k := 1) rfl (by kernel_rfl) (rd_I Try.underlying3) (RdF.cons (k := 1) rfl (by kernel_rfl) (rd_I Try.underlying3) (RdF.cons (k := 1) rfl (by kernel_rfl) (rd_slice (k := 2) Try.underlying98 (by kernel_rfl) (by decide) rd_e_api_Spot) (RdF.cons (k := 2) rfl (by kernel_rfl) rd_e_api_Spot RdF.nil)))))).arg r2
  obtain ⟨xs2, rfl, _⟩ := okWide_struct Try.underlying102 (hval 2 102 v2 rfl rfl)
  obtain rfl : xs2 = #[.int .i64 q_Id, .int .i64 q_Vlan, vq_Want, .int .i64 q_But.1, .int .i64 q_But.2] := Array.toList_inj.1 (c2)
  refine ((show HC Try.prog 13 _ W.heap (fun u h' => u = .bool true ∧ Ext W.heap h') from (law44_AuditTells_walk (fr := []) x y q_Id q_Vlan q_Want q_But _ _ _ (St.init W.heap) (SliceF.init hs_x) (SliceF.init hs_y) (SliceF.init hs_q_Want) (Q := fun r => r = true) (auditTells_ok _ _ _ _ _ _ rfl)).mono (fun u h' ⟨F', r, hu, hk, _, _, _, _, hr⟩ => ⟨hu.trans (by rw [hr]), hk.ext⟩)) W rfl).mono fun e W' ⟨hk, v, he, hR⟩ => ?_
  obtain ⟨rfl, hE⟩ := hR
  exact ⟨_, he, law_post laid reads rfl Try.underlying4 rfl (fun ds hd => by
    match ds, hd with
    | [_, _, _], _ => rfl) hW' (below_of hk hE)⟩
theorem proved : Rows.AuditTellsSaid :=
  OpenClaim.holds_of_wide 13 Try.f13 rfl rfl rfl rfl rfl rfl rfl ⟨rfl, rfl, rfl, rfl, rfl⟩ rfl rfl rfl rfl rfl (by kernel_rfl) Try.func13 (by kernel_rfl)
    (of_decide_eq_true (by kernel_rfl)) (by unfold Func.isWrapper; first | (rw [if_pos (by decide +kernel)]; kernel_rfl) | (rw [if_neg (by decide +kernel)]; exact ⟨rfl, rfl⟩))
    (fun os started H enc _ => lifted os started H enc)
end Go.Proofs.Ytnemfpgfgblpbaa.auditTells
