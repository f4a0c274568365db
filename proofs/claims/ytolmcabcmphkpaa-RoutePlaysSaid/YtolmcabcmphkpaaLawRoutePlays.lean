/- RoutePlays holds at whatever. No conditions. -/
import Derived.Test.YtolmcabcmphkpaaRows
import Derived.Test.YtolmcabcmphkpaaArgs
import Derived.Test.YtolmcabcmphkpaaArgs3
import Derived.Test.YtolmcabcmphkpaaRouL
import Derived.WalkKit
import Derived.JoinedOf
import Derived.Handed
set_option linter.unusedSimpArgs false
set_option linter.unusedVariables false
set_option linter.unusedSectionVars false
namespace Go.Proofs.Ytolmcabcmphkpaa.routePlays
open Go.ChangeShapes Go.WideShapes Go.ChangeAt Go.RowKit Go.HL Go.Wk
theorem own : ownKnob Try.prog.godebug = none := by kernel_rfl
theorem laid : laidOutB Try.prog = true := by kernel_rfl
theorem reads : ∀ t ∈ Try.f6.params.toList, Try.prog.readableRec t = true ∧ t < Try.prog.types.size := by
  rw [Try.params6]; intro t ht; simp at ht; rcases ht with rfl | rfl | rfl <;> exact ⟨by kernel_rfl, of_decide_eq_true (by kernel_rfl)⟩
local instance : DM := ⟨false⟩
theorem rd_e_api_Tune : Rd Try.prog 50 e_api_Tune (fun _ x => (I64 x.1 ∧ I64 x.2.1 ∧ I64 x.2.2.1 ∧ I64 x.2.2.2.1 ∧ I64 x.2.2.2.2)) :=
  Rd.imp (rd_struct Try.underlying50 (by kernel_rfl) (RdF.cons (k := 1) rfl (by kernel_rfl) (rd_I Try.underlying3) (RdF.cons (k := 1) rfl (by kernel_rfl) (rd_I Try.underlying3) (RdF.cons (k := 1) rfl (by kernel_rfl) (rd_I Try.underlying3) (RdF.cons (k := 1) rfl (by kernel_rfl) (rd_I Try.underlying3) (RdF.cons (k := 1) rfl (by kernel_rfl) (rd_I Try.underlying3) RdF.nil)))))) (fun p => (p.1, p.2.1, p.2.2.1, p.2.2.2.1, p.2.2.2.2.1)) (fun _ => rfl) (fun _ p h => ⟨h.1, h.2.1, h.2.2.1, h.2.2.2.1, h.2.2.2.2.1⟩)
theorem rd_e_acequiaref23_Act : Rd Try.prog 61 e_acequiaref23_Act (fun _ x => (I64 x.1 ∧ I64 x.2.1 ∧ I64 x.2.2.1 ∧ True)) :=
  Rd.imp (rd_struct Try.underlying61 (by kernel_rfl) (RdF.cons (k := 1) rfl (by kernel_rfl) (rd_I Try.underlying3) (RdF.cons (k := 1) rfl (by kernel_rfl) (rd_I Try.underlying3) (RdF.cons (k := 1) rfl (by kernel_rfl) (rd_I Try.underlying3) (RdF.cons (k := 1) rfl (by kernel_rfl) (rd_bool Try.underlying4) RdF.nil))))) (fun p => (p.1, p.2.1, p.2.2.1, p.2.2.2.1)) (fun _ => rfl) (fun _ p h => ⟨h.1, h.2.1, h.2.2.1, h.2.2.2.1⟩)
set_option maxRecDepth 100000 in
theorem lifted (os : Os) (started : os.Started) (H : Type) (enc : TypeId × Value → H) :
    ReturnsInHanded {} Try.checked os 6 .any (Rows.routePlaysSpec.pre6 enc Try.prog Try.f6 Rows.routePlaysRow.domain false) (Rows.routePlaysSpec.post enc Try.prog Try.f6 false true false false) := by
  refine returnsInHanded_of_change (C := Try.checked) own started (by kernel_rfl) Try.func6
    (ChangeSpec.witness6 (enc := enc) (C := Try.checked) false ⟨#[], #[.int .i64 0, .agg (e_api_Tune (0, 0, 0, 0, 0)).toArray, .slice none 0 0], []⟩ 8 (by kernel_rfl) (by kernel_rfl) (by kernel_rfl) (by kernel_rfl)) ?_
  intro W base args ds gs before hval hW _ _
  have hW' := hW
  obtain ⟨p, q, hA0, hV, rfl, hfz, hnd⟩ := hW
  have hA : DataW.TrodAll enc Try.prog W 0 (fun _ => true) true Try.f6.params.toList args.toList ds p := hA0
  rw [Try.params6] at hA hval
  obtain ⟨v0, vs0, d0, ds0, p0, q0, hargs, rfl, rfl, r0, s0⟩ := trodAll_cons hA
  obtain ⟨v1, vs1, d1, ds1, p1, q1, rfl, rfl, rfl, r1, s1⟩ := trodAll_cons s0
  obtain ⟨v2, vs2, d2, ds2, p2, q2, rfl, rfl, rfl, r2, s2⟩ := trodAll_cons s1
  obtain ⟨rfl, rfl, rfl⟩ := trodAll_nil s2
  obtain rfl : args = #[v0, v1, v2] := by cases args; simp_all
  obtain ⟨n, c0, ok_n⟩ := ((rd_I Try.underlying3)).arg r0
  obtain ⟨n0, rfl⟩ := okWide_int Try.underlying3 (hval 0 3 v0 rfl rfl)
  have e0 := cells_one rfl c0
  clear c0; injection e0 with _ e0; replace e0 := e0.symm; subst e0
  obtain ⟨t, c1, ok_t⟩ := (rd_e_api_Tune).arg r1
  obtain ⟨xs1, rfl, _⟩ := okWide_struct Try.underlying50 (hval 1 50 v1 rfl rfl)
  obtain rfl : xs1 = #[.int .i64 t.1, .int .i64 t.2.1, .int .i64 t.2.2.1, .int .i64 t.2.2.2.1, .int .i64 t.2.2.2.2] := Array.toList_inj.1 (c1)
  obtain ⟨⟨vacts, acts⟩, c2, ⟨hs_acts, ok_acts⟩⟩ := ((rd_slice (k := 4) Try.underlying51 (by kernel_rfl) (by decide) rd_e_acequiaref23_Act)).arg r2
  obtain ⟨a2, l2, k2, rfl⟩ := okWide_slice Try.underlying51 (hval 2 51 v2 rfl rfl)
  have e2 := cells_one rfl c2
  clear c2; subst e2
  refine ((show HC Try.prog 6 _ W.heap (fun u h' => u = .bool true ∧ Ext W.heap h') from (law23_RoutePlays_walk (fr := []) n t acts _ (St.init W.heap) (SliceF.init hs_acts) (Q := fun r => r = true) (routePlays_ok rfl)).mono (fun u h' ⟨F', r, hu, hk, _, _, hr⟩ => ⟨hu.trans (by rw [hr]), hk.ext⟩)) W rfl).mono fun e W' ⟨hk, v, he, hR⟩ => ?_
  obtain ⟨rfl, hE⟩ := hR
  exact ⟨_, he, law_post laid reads rfl Try.underlying4 rfl (fun ds hd => by
    match ds, hd with
    | [_, _, _], _ => rfl) hW' (below_of hk hE)⟩
theorem proved : Rows.RoutePlaysSaid :=
  OpenClaim.holds_of_wide 6 Try.f6 rfl rfl rfl rfl rfl rfl rfl ⟨rfl, rfl, rfl, rfl, rfl⟩ rfl rfl rfl rfl rfl (by kernel_rfl) Try.func6 (by kernel_rfl)
    (of_decide_eq_true (by kernel_rfl)) (by unfold Func.isWrapper; first | (rw [if_pos (by decide +kernel)]; kernel_rfl) | (rw [if_neg (by decide +kernel)]; exact ⟨rfl, rfl⟩))
    (fun os started H enc _ => lifted os started H enc)
end Go.Proofs.Ytolmcabcmphkpaa.routePlays
