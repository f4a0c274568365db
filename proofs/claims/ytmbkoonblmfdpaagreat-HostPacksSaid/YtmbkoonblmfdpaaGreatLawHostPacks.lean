/- HostPacks holds at whatever. No conditions. -/
import Derived.Test.YtmbkoonblmfdpaaGreatRows
import Derived.Test.YtmbkoonblmfdpaaGreatArgs
import Derived.Test.YtmbkoonblmfdpaaGreatArgs4
import Derived.Test.YtmbkoonblmfdpaaGreatHzX
import Derived.WalkKit
import Derived.JoinedOf
import Derived.Handed
set_option linter.unusedSimpArgs false
set_option linter.unusedVariables false
set_option linter.unusedSectionVars false
namespace Go.Proofs.YtmbkoonblmfdpaaGreat.hostPacks
open Go.ChangeShapes Go.WideShapes Go.ChangeAt Go.RowKit Go.HL Go.Wk
theorem own : ownKnob Tryz.prog.godebug = none := by kernel_rfl
theorem laid : laidOutB Tryz.prog = true := by kernel_rfl
theorem reads : ∀ t ∈ Tryz.f3.params.toList, Tryz.prog.readableRec t = true ∧ t < Tryz.prog.types.size := by
  rw [Tryz.params3]; intro t ht; simp at ht; rcases ht with rfl | rfl | rfl <;> exact ⟨by kernel_rfl, of_decide_eq_true (by kernel_rfl)⟩
local instance : DM := ⟨false⟩
theorem rd_e_api_Addr : Rd Tryz.prog 28 e_api_Addr (fun _ x => (True ∧ True)) :=
  Rd.imp (rd_struct Tryz.underlying28 (by kernel_rfl) (RdF.cons (k := 1) rfl (by kernel_rfl) (rd_bool Tryz.underlying4) (RdF.cons (k := 16) rfl (by kernel_rfl) (rd_B Tryz.underlying26 Tryz.underlying5 (by kernel_rfl) (by kernel_rfl)) RdF.nil))) (fun p => (p.1, p.2.1)) (fun _ => rfl) (fun _ p h => ⟨h.1, h.2.1⟩)
theorem rd_e_api_Record : Rd Tryz.prog 89 e_api_Record (fun h x => (nf_api_Record).q h x) :=
  Rd.imp (rd_struct Tryz.underlying89 (by kernel_rfl) (RdF.cons (k := 1) rfl (by kernel_rfl) (rd_I Tryz.underlying3) (RdF.cons (k := 17) rfl (by kernel_rfl) rd_e_api_Addr (RdF.cons (k := 1) rfl (by kernel_rfl) (rd_slice (k := 17) Tryz.underlying29 (by kernel_rfl) (by decide) rd_e_api_Addr) RdF.nil)))) (fun p => (p.1, p.2.1, p.2.2.1)) (fun _ => rfl) (fun _ p h => h.2.2.1.1)
set_option maxRecDepth 100000 in
theorem lifted (os : Os) (started : os.Started) (H : Type) (enc : TypeId × Value → H) :
    ReturnsInHanded {} Tryz.checked os 3 .any (Rows.hostPacksSpec.pre6 enc Tryz.prog Tryz.f3 Rows.hostPacksRow.domain false) (Rows.hostPacksSpec.post enc Tryz.prog Tryz.f3 false true false false) := by
  refine returnsInHanded_of_change (C := Tryz.checked) own started (by kernel_rfl) Tryz.func3
    (ChangeSpec.witness6 (enc := enc) (C := Tryz.checked) false ⟨#[], #[.bool false, .slice none 0 0, .int .u8 0], []⟩ 8 (by kernel_rfl) (by kernel_rfl) (by kernel_rfl) (by kernel_rfl)) ?_
  intro W base args ds gs before hval hW _ _
  have hW' := hW
  obtain ⟨p, q, hA0, hV, rfl, hfz, hnd⟩ := hW
  have hA : DataW.TrodAll enc Tryz.prog W 0 (fun _ => true) true Tryz.f3.params.toList args.toList ds p := hA0
  rw [Tryz.params3] at hA hval
  obtain ⟨v0, vs0, d0, ds0, p0, q0, hargs, rfl, rfl, r0, s0⟩ := trodAll_cons hA
  obtain ⟨v1, vs1, d1, ds1, p1, q1, rfl, rfl, rfl, r1, s1⟩ := trodAll_cons s0
  obtain ⟨v2, vs2, d2, ds2, p2, q2, rfl, rfl, rfl, r2, s2⟩ := trodAll_cons s1
  obtain ⟨rfl, rfl, rfl⟩ := trodAll_nil s2
  obtain rfl : args = #[v0, v1, v2] := by cases args; simp_all
  obtain ⟨v6, c0, ok_v6⟩ := ((rd_bool Tryz.underlying4)).arg r0
  obtain ⟨n0, rfl⟩ := okWide_bool Tryz.underlying4 (hval 0 4 v0 rfl rfl)
  have e0 := cells_one rfl c0
  clear c0; injection e0 with e0; replace e0 := e0.symm; subst e0
  obtain ⟨⟨vl, l⟩, c1, ⟨hs_l, ok_l⟩⟩ := ((rd_slice (k := 19) Tryz.underlying22 (by kernel_rfl) (by decide) rd_e_api_Record)).arg r1
  obtain ⟨a1, l1, k1, rfl⟩ := okWide_slice Tryz.underlying22 (hval 1 22 v1 rfl rfl)
  have e1 := cells_one rfl c1
  clear c1; subst e1
  obtain ⟨times, c2, ok_times⟩ := ((rd_N Tryz.underlying5)).arg r2
  obtain ⟨n2, rfl⟩ := okWide_int Tryz.underlying5 (hval 2 5 v2 rfl rfl)
  have e2 := cells_one rfl c2
  clear c2; injection e2 with _ e2; replace e2 := e2.symm; subst e2
  refine ((show HC Tryz.prog 3 _ W.heap (fun u h' => u = .bool true ∧ Ext W.heap h') from (law20_HostPacks_walk (fr := []) v6 l times _ (St.init W.heap) (NfL.init ⟨ok_l⟩) (SliceF.init hs_l) (Q := fun r => r = true) (hostPacks_ok (u8b ok_times) rfl)).mono (fun u h' ⟨F', r, hu, hk, _, _, _, hr⟩ => ⟨hu.trans (by rw [hr]), hk.ext⟩)) W rfl).mono fun e W' ⟨hk, v, he, hR⟩ => ?_
  obtain ⟨rfl, hE⟩ := hR
  exact ⟨_, he, law_post laid reads rfl Tryz.underlying4 rfl (fun ds hd => by
    match ds, hd with
    | [_, _, _], _ => rfl) hW' (below_of hk hE)⟩
theorem proved : Rows.HostPacksSaid :=
  OpenClaim.holds_of_wide 3 Tryz.f3 rfl rfl rfl rfl rfl rfl rfl ⟨rfl, rfl, rfl, rfl, rfl⟩ rfl rfl rfl rfl rfl (by kernel_rfl) Tryz.func3 (by kernel_rfl)
    (of_decide_eq_true (by kernel_rfl)) (by unfold Func.isWrapper; first | (rw [if_pos (by decide +kernel)]; kernel_rfl) | (rw [if_neg (by decide +kernel)]; exact ⟨rfl, rfl⟩))
    (fun os started H enc _ => lifted os started H enc)
end Go.Proofs.YtmbkoonblmfdpaaGreat.hostPacks
