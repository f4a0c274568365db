/- RouteStays holds: for every tune, every waits and every port: where a router is heard often enough it is, all the time, and not any longer. No conditions. -/
import Derived.Test.YtnemfpgfgblpbaaRows
import Derived.Test.YtnemfpgfgblpbaaArgs
import Derived.Test.YtnemfpgfgblpbaaRoute3I
import Derived.WalkKit
import Derived.JoinedOf
import Derived.Handed
set_option linter.unusedSimpArgs false
set_option linter.unusedVariables false
set_option linter.unusedSectionVars false
namespace Go.Proofs.Ytnemfpgfgblpbaa.routeStays
open Go.ChangeShapes Go.WideShapes Go.ChangeAt Go.RowKit Go.HL Go.HL.CI
theorem own : ownKnob Try.prog.godebug = none := by kernel_rfl
theorem laid : laidOutB Try.prog = true := by kernel_rfl
theorem reads : ∀ t ∈ Try.f9.params.toList, Try.prog.readableRec t = true ∧ t < Try.prog.types.size := by
  rw [Try.params9]; intro t ht; simp at ht; rcases ht with rfl | rfl | rfl <;> exact ⟨by kernel_rfl, of_decide_eq_true (by kernel_rfl)⟩
theorem rd_tune : Rd Try.prog 71 (fun p : Int × Int × Int × Int × Int => [.int .i64 p.1, .int .i64 p.2.1, .int .i64 p.2.2.1, .int .i64 p.2.2.2.1, .int .i64 p.2.2.2.2]) (fun _ _ => True) :=
  Rd.imp (rd_struct Try.underlying71 (by kernel_rfl) (RdF.cons (k := 1) rfl (by kernel_rfl) (rd_int Try.underlying3) (RdF.cons (k := 1) rfl (by kernel_rfl) (rd_int Try.underlying3) (RdF.cons (k := 1) rfl (by kernel_rfl) (rd_int Try.underlying3) (RdF.cons (k := 1) rfl (by kernel_rfl) (rd_int Try.underlying3) (RdF.cons (k := 1) rfl (by kernel_rfl) (rd_int Try.underlying3) RdF.nil)))))) (fun p => (p.1, p.2.1, p.2.2.1, p.2.2.2.1, p.2.2.2.2.1)) (fun _ => rfl) (fun _ _ _ => trivial)
set_option maxRecDepth 100000 in
theorem lifted (os : Os) (started : os.Started) (H : Type) (enc : TypeId × Value → H) :
    ReturnsInHanded {} Try.checked os 9 .any (Rows.routeStaysSpec.pre6 enc Try.prog Try.f9 Rows.routeStaysRow.domain false) (Rows.routeStaysSpec.post enc Try.prog Try.f9 false true false false) := by
  refine returnsInHanded_of_change (C := Try.checked) own started (by kernel_rfl) Try.func9
    (ChangeSpec.witness6 (enc := enc) (C := Try.checked) false ⟨#[], #[.agg #[.int .i64 0, .int .i64 0, .int .i64 0, .int .i64 0, .int .i64 0], .slice none 0 0, .int .u8 0], []⟩ 8 (by kernel_rfl) (by kernel_rfl) (by kernel_rfl) (by kernel_rfl)) ?_
  intro W base args ds gs before hval hW _ _
  have hW' := hW
  obtain ⟨p, q, hA0, hV, rfl, hfz, hnd⟩ := hW
  have hA : DataW.TrodAll enc Try.prog W 0 (fun _ => true) true Try.f9.params.toList args.toList ds p := hA0
  rw [Try.params9] at hA hval
  obtain ⟨v0, vs0, d0, ds0, p0, q0, hargs, rfl, rfl, r0, s0⟩ := trodAll_cons hA
  obtain ⟨v1, vs1, d1, ds1, p1, q1, rfl, rfl, rfl, r1, s1⟩ := trodAll_cons s0
  obtain ⟨v2, vs2, d2, ds2, p2, q2, rfl, rfl, rfl, r2, s2⟩ := trodAll_cons s1
  obtain ⟨rfl, rfl, rfl⟩ := trodAll_nil s2
  obtain rfl : args = #[v0, v1, v2] := by cases args; simp_all
  obtain ⟨⟨t0, t1, t2, t3, t4⟩, c0, ht⟩ := (rd_tune).arg r0
  obtain ⟨xs0, rfl, _⟩ := okWide_struct Try.underlying71 (hval 0 71 v0 rfl rfl)
  obtain rfl : xs0 = #[.int .i64 t0, .int .i64 t1, .int .i64 t2, .int .i64 t3, .int .i64 t4] := Array.toList_inj.1 (by simpa [Value.cells] using c0)
  obtain ⟨⟨vw, l⟩, c1, hS, hl⟩ := (rd_slice (k := 1) Try.underlying72 (by kernel_rfl) (by decide) (rd_int Try.underlying77)).arg r1
  obtain ⟨a1, l1, k1, rfl⟩ := okWide_slice Try.underlying72 (hval 1 72 v1 rfl rfl)
  have e1 := cells_one rfl c1
  clear c1; subst e1
  obtain ⟨port, c2, hp⟩ := (rd_int Try.underlying5).arg r2
  obtain ⟨n2, rfl⟩ := okWide_int Try.underlying5 (hval 2 5 v2 rfl rfl)
  have e2 := cells_one rfl c2
  clear c2; injection e2 with _ e2; replace e2 := e2.symm; subst e2
  refine ((route_stays t0 t1 t2 t3 t4 port _ l W.heap hS (fun x hx => by simpa [okK, IntKind.min, IntKind.max, IntKind.signed, IntKind.bits] using hl x hx) (by simpa [okK, IntKind.min, IntKind.max, IntKind.signed, IntKind.bits] using hp)) W rfl).mono fun e W' ⟨hk, v, he, hR⟩ => ?_
  obtain ⟨rfl, hE⟩ := hR
  exact ⟨_, he, law_post laid reads rfl Try.underlying4 rfl (fun ds hd => by
    match ds, hd with
    | [_, _, _], _ => rfl) hW' (below_of hk hE)⟩
theorem proved : Rows.RouteStaysSaid :=
  OpenClaim.holds_of_wide 9 Try.f9 rfl rfl rfl rfl rfl rfl rfl ⟨rfl, rfl, rfl, rfl, rfl⟩ rfl rfl rfl rfl rfl (by kernel_rfl) Try.func9 (by kernel_rfl)
    (of_decide_eq_true (by kernel_rfl)) (by unfold Func.isWrapper; first | (rw [if_pos (by decide +kernel)]; kernel_rfl) | (rw [if_neg (by decide +kernel)]; exact ⟨rfl, rfl⟩))
    (fun os started H enc _ => lifted os started H enc)
end Go.Proofs.Ytnemfpgfgblpbaa.routeStays
