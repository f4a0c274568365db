/- HostTells holds at whatever. No conditions. -/
import Derived.Test.YtmbkoonblmfdpaaGreatRows
import Derived.Test.YtmbkoonblmfdpaaGreatArgs
import Derived.Test.YtmbkoonblmfdpaaGreatArgs4
import Derived.Test.YtmbkoonblmfdpaaGreatHtL
import Derived.WalkKit
import Derived.JoinedOf
import Derived.Handed
set_option linter.unusedSimpArgs false
set_option linter.unusedVariables false
set_option linter.unusedSectionVars false
namespace Go.Proofs.YtmbkoonblmfdpaaGreat.hostTells
open Go.ChangeShapes Go.WideShapes Go.ChangeAt Go.RowKit Go.HL Go.Wk
theorem own : ownKnob Tryz.prog.godebug = none := by kernel_rfl
theorem laid : laidOutB Tryz.prog = true := by kernel_rfl
theorem reads : ∀ t ∈ Tryz.f4.params.toList, Tryz.prog.readableRec t = true /\ t < Tryz.prog.types.size := by
  rw [Tryz.params4]; intro t ht; simp at ht; rcases ht with rfl <;> exact ⟨by kernel_rfl, of_decide_eq_true (by kernel_rfl)⟩
local instance : DM := ⟨false⟩
theorem Ir : Rd Tryz.prog 28 ae (fun _ x => (True /\ True)) :=
  Rd.imp (O3 Tryz.underlying28 (by kernel_rfl) (WO.cons (k := 1) rfl (by kernel_rfl) (Xc Tryz.underlying4) (WO.cons (k := 16) rfl (by kernel_rfl) (aiw Tryz.underlying26 Tryz.underlying5 (by kernel_rfl) (by kernel_rfl)) WO.nil))) (fun p => (p.1, p.2.1)) (fun _ => rfl) (fun _ p h => ⟨h.1, h.2.1⟩)
theorem Tt : Rd Tryz.prog 50 XI (fun h x => (df).q h x) :=
  Rd.imp (O3 Tryz.underlying50 (by kernel_rfl) (WO.cons (k := 1) rfl (by kernel_rfl) (Xc Tryz.underlying4) (WO.cons (k := 1) rfl (by kernel_rfl) (Yk (k := 17) Tryz.underlying29 (by kernel_rfl) (by decide) Ir) WO.nil))) (fun p => (p.1, p.2.1)) (fun _ => rfl) (fun _ p h => h.2.1.1)
theorem MZ : Rd Tryz.prog 52 pO (fun h x => (o7).q h x) :=
  Rd.imp (O3 Tryz.underlying52 (by kernel_rfl) (WO.cons (k := 17) rfl (by kernel_rfl) Ir (WO.cons (k := 2) rfl (by kernel_rfl) Tt WO.nil))) (fun p => (p.1, p.2.1)) (fun _ => rfl) (fun _ p h => h.2.1)
set_option maxRecDepth 100000 in
theorem lifted (os : Os) (started : os.Started) (H : Type) (enc : TypeId × Value -> H) :
    ReturnsInHanded {} Tryz.checked os 4 .any (Rows.hostTellsSpec.pre6 enc Tryz.prog Tryz.f4 Rows.hostTellsRow.domain false) (Rows.hostTellsSpec.post enc Tryz.prog Tryz.f4 false true false false) := by
  refine returnsInHanded_of_change (C := Tryz.checked) own started (by kernel_rfl) Tryz.func4
    (ChangeSpec.witness6 (enc := enc) (C := Tryz.checked) false ⟨#[], #[.agg #[.bool false, .slice none 0 0, .bool false, .int .u8 0, .int .u8 0, .int .u8 0, .int .u8 0, .int .u8 0, .int .u8 0, .int .u8 0, .int .u8 0, .int .u8 0, .int .u8 0, .int .u8 0, .int .u8 0, .int .u8 0, .int .u8 0, .int .u8 0, .int .u8 0, .bool false, .int .u8 0, .int .u8 0, .int .u8 0, .int .u8 0, .int .u8 0, .int .u8 0, .int .u8 0, .int .u8 0, .int .u8 0, .int .u8 0, .int .u8 0, .int .u8 0, .int .u8 0, .int .u8 0, .int .u8 0, .int .u8 0]], []⟩ 8 (by kernel_rfl) (by kernel_rfl) (by kernel_rfl) (by kernel_rfl)) ?_
  intro W base args ds gs before hval hW _ _
  have hW' := hW
  obtain ⟨p, q, hA0, hV, rfl, hfz, hnd⟩ := hW
  have hA : DataW.TrodAll enc Tryz.prog W 0 (fun _ => true) true Tryz.f4.params.toList args.toList ds p := hA0
  rw [Tryz.params4] at hA hval
  obtain ⟨v0, vs0, d0, ds0, p0, q0, hargs, rfl, rfl, r0, s0⟩ := trodAll_cons hA
  obtain ⟨rfl, rfl, rfl⟩ := trodAll_nil s0
  obtain rfl : args = #[v0] := by cases args; simp_all
  obtain ⟨⟨rP, ⟨FQ, Jv⟩, xG, wZ, _⟩, c0, ⟨aie, ⟨afv, afr⟩, aiz, aiA, _⟩⟩ := ((O3 Tryz.underlying41 (by kernel_rfl) (WO.cons (k := 1) rfl (by kernel_rfl) (Xc Tryz.underlying4) (WO.cons (k := 1) rfl (by kernel_rfl) (Yk (k := 19) Tryz.underlying39 (by kernel_rfl) (by decide) MZ) (WO.cons (k := 17) rfl (by kernel_rfl) Ir (WO.cons (k := 17) rfl (by kernel_rfl) Ir WO.nil)))))).arg r0
  obtain ⟨xs0, rfl, _⟩ := okWide_struct Tryz.underlying41 (hval 0 41 v0 rfl rfl)
  obtain rfl : xs0 = #[.bool rP, FQ, .bool xG.1, .int .u8 (b8 xG.2 0), .int .u8 (b8 xG.2 1), .int .u8 (b8 xG.2 2), .int .u8 (b8 xG.2 3), .int .u8 (b8 xG.2 4), .int .u8 (b8 xG.2 5), .int .u8 (b8 xG.2 6), .int .u8 (b8 xG.2 7), .int .u8 (b8 xG.2 8), .int .u8 (b8 xG.2 9), .int .u8 (b8 xG.2 10), .int .u8 (b8 xG.2 11), .int .u8 (b8 xG.2 12), .int .u8 (b8 xG.2 13), .int .u8 (b8 xG.2 14), .int .u8 (b8 xG.2 15), .bool wZ.1, .int .u8 (b8 wZ.2 0), .int .u8 (b8 wZ.2 1), .int .u8 (b8 wZ.2 2), .int .u8 (b8 wZ.2 3), .int .u8 (b8 wZ.2 4), .int .u8 (b8 wZ.2 5), .int .u8 (b8 wZ.2 6), .int .u8 (b8 wZ.2 7), .int .u8 (b8 wZ.2 8), .int .u8 (b8 wZ.2 9), .int .u8 (b8 wZ.2 10), .int .u8 (b8 wZ.2 11), .int .u8 (b8 wZ.2 12), .int .u8 (b8 wZ.2 13), .int .u8 (b8 wZ.2 14), .int .u8 (b8 wZ.2 15)] := Array.toList_inj.1 (c0)
  refine ((show HC Tryz.prog 4 _ W.heap (fun u h' => u = .bool true /\ Ext W.heap h') from (OE (fr := []) rP Jv xG wZ _ (St.init W.heap) (jq.init ⟨afr⟩) (az.init afv) (Q := fun r => r = true) (Xl rfl)).mono (fun u h' ⟨F', r, hu, hk, _, _, _, hr⟩ => ⟨hu.trans (by rw [hr]), hk.ext⟩)) W rfl).mono fun e W' ⟨hk, v, he, hR⟩ => ?_
  obtain ⟨rfl, hE⟩ := hR
  exact ⟨_, he, aco laid reads rfl Tryz.underlying4 rfl (fun ds hd => by
    match ds, hd with
    | [_], _ => rfl) hW' (adu hk hE)⟩
theorem proved : Rows.HostTellsSaid :=
  OpenClaim.holds_of_wide 4 Tryz.f4 rfl rfl rfl rfl rfl rfl rfl ⟨rfl, rfl, rfl, rfl, rfl⟩ rfl rfl rfl rfl rfl (by kernel_rfl) Tryz.func4 (by kernel_rfl)
    (of_decide_eq_true (by kernel_rfl)) (by unfold Func.isWrapper; first | (rw [if_pos (by decide +kernel)]; kernel_rfl) | (rw [if_neg (by decide +kernel)]; exact ⟨rfl, rfl⟩))
    (fun os started H enc _ => lifted os started H enc)
end Go.Proofs.YtmbkoonblmfdpaaGreat.hostTells
