/- ClockPlays holds at whatever. No conditions. -/
import Derived.Test.YtolmcabcmphkpaaRows
import Derived.Test.YtolmcabcmphkpaaArgs
import Derived.Test.YtolmcabcmphkpaaArgs3
import Derived.Test.YtolmcabcmphkpaaClkL
import Derived.WalkKit
import Derived.JoinedOf
import Derived.Handed
set_option linter.unusedSimpArgs false
set_option linter.unusedVariables false
set_option linter.unusedSectionVars false
namespace Go.Proofs.Ytolmcabcmphkpaa.clockPlays
open Go.ChangeShapes Go.WideShapes Go.ChangeAt Go.RowKit Go.HL Go.Wk
theorem own : ownKnob Try.prog.godebug = none := by kernel_rfl
theorem laid : laidOutB Try.prog = true := by kernel_rfl
theorem reads : ∀ t ∈ Try.f3.params.toList, Try.prog.readableRec t = true ∧ t < Try.prog.types.size := by
  rw [Try.params3]; intro t ht; simp at ht; rcases ht with rfl | rfl <;> exact ⟨by kernel_rfl, of_decide_eq_true (by kernel_rfl)⟩
local instance : DM := ⟨false⟩
theorem rd_e_acequiaref12_Act : Rd Try.prog 28 e_acequiaref12_Act (fun _ x => (I64 x.1 ∧ x.2.1.length ≤ maxLen ∧ I64 x.2.2)) :=
  Rd.imp (rd_struct Try.underlying28 (by kernel_rfl) (RdF.cons (k := 1) rfl (by kernel_rfl) (rd_I Try.underlying3) (RdF.cons (k := 1) rfl (by kernel_rfl) (rd_T Try.underlying9) (RdF.cons (k := 1) rfl (by kernel_rfl) (rd_I Try.underlying3) RdF.nil)))) (fun p => (p.1, p.2.1, p.2.2.1)) (fun _ => rfl) (fun _ p h => ⟨h.1, h.2.1, h.2.2.1⟩)
set_option maxRecDepth 100000 in
theorem lifted (os : Os) (started : os.Started) (H : Type) (enc : TypeId × Value → H) :
    ReturnsInHanded {} Try.checked os 3 .any (Rows.clockPlaysSpec.pre6 enc Try.prog Try.f3 Rows.clockPlaysRow.domain false) (Rows.clockPlaysSpec.post enc Try.prog Try.f3 false true false false) := by
  refine returnsInHanded_of_change (C := Try.checked) own started (by kernel_rfl) Try.func3
    (ChangeSpec.witness6 (enc := enc) (C := Try.checked) false ⟨#[], #[.slice none 0 0, .string (bs [])], []⟩ 8 (by kernel_rfl) (by kernel_rfl) (by kernel_rfl) (by kernel_rfl)) ?_
  intro W base args ds gs before hval hW _ _
  have hW' := hW
  obtain ⟨p, q, hA0, hV, rfl, hfz, hnd⟩ := hW
  have hA : DataW.TrodAll enc Try.prog W 0 (fun _ => true) true Try.f3.params.toList args.toList ds p := hA0
  rw [Try.params3] at hA hval
  obtain ⟨v0, vs0, d0, ds0, p0, q0, hargs, rfl, rfl, r0, s0⟩ := trodAll_cons hA
  obtain ⟨v1, vs1, d1, ds1, p1, q1, rfl, rfl, rfl, r1, s1⟩ := trodAll_cons s0
  obtain ⟨rfl, rfl, rfl⟩ := trodAll_nil s1
  obtain rfl : args = #[v0, v1] := by cases args; simp_all
  obtain ⟨⟨vacts, acts⟩, c0, ⟨hs_acts, ok_acts⟩⟩ := ((rd_slice (k := 3) Try.underlying22 (by kernel_rfl) (by decide) rd_e_acequiaref12_Act)).arg r0
  obtain ⟨a0, l0, k0, rfl⟩ := okWide_slice Try.underlying22 (hval 0 22 v0 rfl rfl)
  have e0 := cells_one rfl c0
  clear c0; subst e0
  obtain ⟨ask, c1, ok_ask⟩ := ((rd_T Try.underlying9)).arg r1
  obtain ⟨n1, rfl⟩ := okWide_string Try.underlying9 (hval 1 9 v1 rfl rfl)
  have e1 := cells_one rfl c1
  clear c1; injection e1 with e1; replace e1 := e1.symm; subst e1
  refine ((show HC Try.prog 3 _ W.heap (fun u h' => u = .bool true ∧ Ext W.heap h') from (law12_ClockPlays_walk (fr := []) acts ask _ (St.init W.heap) (SliceF.init hs_acts) rfl (Q := fun r => r = true) (clockPlays_ok rfl)).mono (fun u h' ⟨F', r, hu, hk, _, _, hr⟩ => ⟨hu.trans (by rw [hr]), hk.ext⟩)) W rfl).mono fun e W' ⟨hk, v, he, hR⟩ => ?_
  obtain ⟨rfl, hE⟩ := hR
  exact ⟨_, he, law_post laid reads rfl Try.underlying4 rfl (fun ds hd => by
    match ds, hd with
    | [_, _], _ => rfl) hW' (below_of hk hE)⟩
theorem proved : Rows.ClockPlaysSaid :=
  OpenClaim.holds_of_wide 3 Try.f3 rfl rfl rfl rfl rfl rfl rfl ⟨rfl, rfl, rfl, rfl, rfl⟩ rfl rfl rfl rfl rfl (by kernel_rfl) Try.func3 (by kernel_rfl)
    (of_decide_eq_true (by kernel_rfl)) (by unfold Func.isWrapper; first | (rw [if_pos (by decide +kernel)]; kernel_rfl) | (rw [if_neg (by decide +kernel)]; exact ⟨rfl, rfl⟩))
    (fun os started H enc _ => lifted os started H enc)
end Go.Proofs.Ytolmcabcmphkpaa.clockPlays
