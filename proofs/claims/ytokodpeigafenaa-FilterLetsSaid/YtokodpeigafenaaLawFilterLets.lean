/- FilterLets holds at whatever. No conditions. -/
import Derived.Test.YtokodpeigafenaaRows
import Derived.Test.YtokodpeigafenaaArgs
import Derived.Test.YtokodpeigafenaaArgs3
import Derived.Test.YtokodpeigafenaaFilL2
import Derived.WalkKit
import Derived.JoinedOf
import Derived.Handed
set_option linter.unusedSimpArgs false
set_option linter.unusedVariables false
set_option linter.unusedSectionVars false
namespace Go.Proofs.Ytokodpeigafenaa.filterLets
open Go.ChangeShapes Go.WideShapes Go.ChangeAt Go.RowKit Go.HL Go.Wk
theorem own : ownKnob Try.prog.godebug = none := by kernel_rfl
theorem laid : laidOutB Try.prog = true := by kernel_rfl
theorem reads : ∀ t ∈ Try.f5.params.toList, Try.prog.readableRec t = true ∧ t < Try.prog.types.size := by
  rw [Try.params5]; intro t ht; simp at ht; rcases ht with rfl | rfl | rfl <;> exact ⟨by kernel_rfl, of_decide_eq_true (by kernel_rfl)⟩
local instance : DM := ⟨false⟩
theorem rd_e_api_Addr : Rd Try.prog 34 e_api_Addr (fun _ x => (True ∧ True)) :=
  Rd.imp (rd_struct Try.underlying34 (by kernel_rfl) (RdF.cons (k := 1) rfl (by kernel_rfl) (rd_bool Try.underlying4) (RdF.cons (k := 16) rfl (by kernel_rfl) (rd_B Try.underlying32 Try.underlying5 (by kernel_rfl) (by kernel_rfl)) RdF.nil))) (fun p => (p.1, p.2.1)) (fun _ => rfl) (fun _ p h => ⟨h.1, h.2.1⟩)
set_option maxRecDepth 100000 in
theorem lifted (os : Os) (started : os.Started) (H : Type) (enc : TypeId × Value → H) :
    ReturnsInHanded {} Try.checked os 5 .any (Rows.filterLetsSpec.pre6 enc Try.prog Try.f5 Rows.filterLetsRow.domain false) (Rows.filterLetsSpec.post enc Try.prog Try.f5 false true false false) := by
  refine returnsInHanded_of_change (C := Try.checked) own started (by kernel_rfl) Try.func5
    (ChangeSpec.witness6 (enc := enc) (C := Try.checked) false ⟨#[], #[.agg #[.bool false, .slice none 0 0, .slice none 0 0], .agg #[.bool false, .int .u8 0, .int .u8 0, .int .u8 0, .int .u8 0, .int .u8 0, .int .u8 0, .int .u8 0, .int .u8 0, .int .u8 0, .int .u8 0, .int .u8 0, .int .u8 0, .int .u8 0, .int .u8 0, .int .u8 0, .int .u8 0], .slice none 0 0], []⟩ 8 (by kernel_rfl) (by kernel_rfl) (by kernel_rfl) (by kernel_rfl)) ?_
  intro W base args ds gs before hval hW _ _
  have hW' := hW
  obtain ⟨p, q, hA0, hV, rfl, hfz, hnd⟩ := hW
  have hA : DataW.TrodAll enc Try.prog W 0 (fun _ => true) true Try.f5.params.toList args.toList ds p := hA0
  rw [Try.params5] at hA hval
  obtain ⟨v0, vs0, d0, ds0, p0, q0, hargs, rfl, rfl, r0, s0⟩ := trodAll_cons hA
  obtain ⟨v1, vs1, d1, ds1, p1, q1, rfl, rfl, rfl, r1, s1⟩ := trodAll_cons s0
  obtain ⟨v2, vs2, d2, ds2, p2, q2, rfl, rfl, rfl, r2, s2⟩ := trodAll_cons s1
  obtain ⟨rfl, rfl, rfl⟩ := trodAll_nil s2
  obtain rfl : args = #[v0, v1, v2] := by cases args; simp_all
  obtain ⟨⟨s_Exclude, ⟨vs_On, s_On⟩, ⟨vs_Off, s_Off⟩, _⟩, c0, ⟨ok_s_Exclude, ⟨hs_s_On, ok_s_On⟩, ⟨hs_s_Off, ok_s_Off⟩, _⟩⟩ := ((rd_struct Try.underlying24 (by kernel_rfl) (RdF.cons (k := 1) rfl (by kernel_rfl) (rd_bool Try.underlying4) (RdF.cons (k := 1) rfl (by kernel_rfl) (rd_slice (k := 17) Try.underlying22 (by kernel_rfl) (by decide) rd_e_api_Addr) (RdF.cons (k := 1) rfl (by kernel_rfl) (rd_slice (k := 17) Try.underlying22 (by kernel_rfl) (by decide) rd_e_api_Addr) RdF.nil))))).arg r0
  obtain ⟨xs0, rfl, _⟩ := okWide_struct Try.underlying24 (hval 0 24 v0 rfl rfl)
  obtain rfl : xs0 = #[.bool s_Exclude, vs_On, vs_Off] := Array.toList_inj.1 (c0)
  obtain ⟨a, c1, ok_a⟩ := (rd_e_api_Addr).arg r1
  obtain ⟨xs1, rfl, _⟩ := okWide_struct Try.underlying34 (hval 1 34 v1 rfl rfl)
  obtain rfl : xs1 = #[.bool a.1, .int .u8 (b8 a.2 0), .int .u8 (b8 a.2 1), .int .u8 (b8 a.2 2), .int .u8 (b8 a.2 3), .int .u8 (b8 a.2 4), .int .u8 (b8 a.2 5), .int .u8 (b8 a.2 6), .int .u8 (b8 a.2 7), .int .u8 (b8 a.2 8), .int .u8 (b8 a.2 9), .int .u8 (b8 a.2 10), .int .u8 (b8 a.2 11), .int .u8 (b8 a.2 12), .int .u8 (b8 a.2 13), .int .u8 (b8 a.2 14), .int .u8 (b8 a.2 15)] := Array.toList_inj.1 (c1)
  obtain ⟨⟨vl, l⟩, c2, ⟨hs_l, ok_l⟩⟩ := ((rd_slice (k := 17) Try.underlying22 (by kernel_rfl) (by decide) rd_e_api_Addr)).arg r2
  obtain ⟨a2, l2, k2, rfl⟩ := okWide_slice Try.underlying22 (hval 2 22 v2 rfl rfl)
  have e2 := cells_one rfl c2
  clear c2; subst e2
  refine ((show HC Try.prog 5 _ W.heap (fun u h' => u = .bool true ∧ Ext W.heap h') from (law15_FilterLets_walk (fr := []) s_Exclude s_On s_Off a l _ _ _ (St.init W.heap) (SliceF.init hs_s_On) (SliceF.init hs_s_Off) (SliceF.init hs_l) (Q := fun r => r = true) (filterLets_ok _ _ _ _ _ rfl)).mono (fun u h' ⟨F', r, hu, hk, _, _, _, _, hr⟩ => ⟨hu.trans (by rw [hr]), hk.ext⟩)) W rfl).mono fun e W' ⟨hk, v, he, hR⟩ => ?_
  obtain ⟨rfl, hE⟩ := hR
  exact ⟨_, he, law_post laid reads rfl Try.underlying4 rfl (fun ds hd => by
    match ds, hd with
    | [_, _, _], _ => rfl) hW' (below_of hk hE)⟩
theorem proved : Rows.FilterLetsSaid :=
  OpenClaim.holds_of_wide 5 Try.f5 rfl rfl rfl rfl rfl rfl rfl ⟨rfl, rfl, rfl, rfl, rfl⟩ rfl rfl rfl rfl rfl (by kernel_rfl) Try.func5 (by kernel_rfl)
    (of_decide_eq_true (by kernel_rfl)) (by unfold Func.isWrapper; first | (rw [if_pos (by decide +kernel)]; kernel_rfl) | (rw [if_neg (by decide +kernel)]; exact ⟨rfl, rfl⟩))
    (fun os started H enc _ => lifted os started H enc)
end Go.Proofs.Ytokodpeigafenaa.filterLets
