/- AlivePlays holds: for every number of beats, all calls and every one asked for. No conditions. -/
import Derived.Test.YtnemfpgfgblpbaaRows
import Derived.Test.YtnemfpgfgblpbaaArgs
import Derived.Test.YtnemfpgfgblpbaaAlive6I
import Derived.WalkKit
import Derived.JoinedOf
import Derived.Handed
set_option linter.unusedSimpArgs false
set_option linter.unusedVariables false
set_option linter.unusedSectionVars false
namespace Go.Proofs.Ytnemfpgfgblpbaa.alivePlays
open Go.ChangeShapes Go.WideShapes Go.ChangeAt Go.RowKit Go.HL Go.HL.CI
theorem own : ownKnob Try.prog.godebug = none := by kernel_rfl
theorem laid : laidOutB Try.prog = true := by kernel_rfl
theorem reads : ∀ t ∈ Try.f4.params.toList, Try.prog.readableRec t = true ∧ t < Try.prog.types.size := by
  rw [Try.params4]; intro t ht; simp at ht; rcases ht with rfl | rfl | rfl <;> exact ⟨by kernel_rfl, of_decide_eq_true (by kernel_rfl)⟩
theorem rd_act : Rd Try.prog 35 encII (fun _ p => In64 p.1 ∧ In64 p.2) :=
  Rd.imp (rd_struct Try.underlying35 (by kernel_rfl) (RdF.cons (k := 1) rfl (by kernel_rfl) (rd_int Try.underlying3) (RdF.cons (k := 1) rfl (by kernel_rfl) (rd_int Try.underlying3) RdF.nil))) (fun p => (p.1, p.2.1)) (fun _ => rfl) (fun _ p h => ⟨by simpa [okK, In64, IntKind.min, IntKind.max, IntKind.signed, IntKind.bits] using h.1, by simpa [okK, In64, IntKind.min, IntKind.max, IntKind.signed, IntKind.bits] using h.2.1⟩)
set_option maxRecDepth 100000 in
theorem lifted (os : Os) (started : os.Started) (H : Type) (enc : TypeId × Value → H) :
    ReturnsInHanded {} Try.checked os 4 .any (Rows.alivePlaysSpec.pre6 enc Try.prog Try.f4 Rows.alivePlaysRow.domain false) (Rows.alivePlaysSpec.post enc Try.prog Try.f4 false true false false) := by
  refine returnsInHanded_of_change (C := Try.checked) own started (by kernel_rfl) Try.func4
    (ChangeSpec.witness6 (enc := enc) (C := Try.checked) false ⟨#[], #[.int .i64 0, .slice none 0 0, .int .i64 0], []⟩ 8 (by kernel_rfl) (by kernel_rfl) (by kernel_rfl) (by kernel_rfl)) ?_
  intro W base args ds gs before hval hW _ _
  have hW' := hW
  obtain ⟨p, q, hA0, hV, rfl, hfz, hnd⟩ := hW
  have hA : DataW.TrodAll enc Try.prog W 0 (fun _ => true) true Try.f4.params.toList args.toList ds p := hA0
  rw [Try.params4] at hA hval
  obtain ⟨v0, vs0, d0, ds0, p0, q0, hargs, rfl, rfl, r0, s0⟩ := trodAll_cons hA
  obtain ⟨v1, vs1, d1, ds1, p1, q1, rfl, rfl, rfl, r1, s1⟩ := trodAll_cons s0
  obtain ⟨v2, vs2, d2, ds2, p2, q2, rfl, rfl, rfl, r2, s2⟩ := trodAll_cons s1
  obtain ⟨rfl, rfl, rfl⟩ := trodAll_nil s2
  obtain rfl : args = #[v0, v1, v2] := by cases args; simp_all
  obtain ⟨dead, c0, hd⟩ := (rd_int Try.underlying3).arg r0
  obtain ⟨n0, rfl⟩ := okWide_int Try.underlying3 (hval 0 3 v0 rfl rfl)
  have e0 := cells_one rfl c0
  clear c0; injection e0 with _ e0; replace e0 := e0.symm; subst e0
  obtain ⟨⟨va, A⟩, c1, hSA, hAk⟩ := (rd_slice (k := 2) Try.underlying31 (by kernel_rfl) (by decide) rd_act).arg r1
  obtain ⟨a1, l1, k1, rfl⟩ := okWide_slice Try.underlying31 (hval 1 31 v1 rfl rfl)
  have e1 := cells_one rfl c1
  clear c1; subst e1
  obtain ⟨ask, c2, _⟩ := (rd_int Try.underlying3).arg r2
  obtain ⟨n2, rfl⟩ := okWide_int Try.underlying3 (hval 2 3 v2 rfl rfl)
  have e2 := cells_one rfl c2
  clear c2; injection e2 with _ e2; replace e2 := e2.symm; subst e2
  refine ((alive_plays dead ask _ A W.heap hSA (fun p hp => (hAk p hp).2)) W rfl).mono fun e W' ⟨hk, v, he, hR⟩ => ?_
  obtain ⟨rfl, hE⟩ := hR
  exact ⟨_, he, law_post laid reads rfl Try.underlying4 rfl (fun ds hd => by
    match ds, hd with
    | [_, _, _], _ => rfl) hW' (below_of hk hE)⟩
theorem proved : Rows.AlivePlaysSaid :=
  OpenClaim.holds_of_wide 4 Try.f4 rfl rfl rfl rfl rfl rfl rfl ⟨rfl, rfl, rfl, rfl, rfl⟩ rfl rfl rfl rfl rfl (by kernel_rfl) Try.func4 (by kernel_rfl)
    (of_decide_eq_true (by kernel_rfl)) (by unfold Func.isWrapper; first | (rw [if_pos (by decide +kernel)]; kernel_rfl) | (rw [if_neg (by decide +kernel)]; exact ⟨rfl, rfl⟩))
    (fun os started H enc _ => lifted os started H enc)
end Go.Proofs.Ytnemfpgfgblpbaa.alivePlays
