/- TreeChanges holds at whatever; its card. -/
import Derived.Test.YtjliljlmgepmpaaGreatDoorRows
import Derived.Test.YtjliljlmgepmpaaGreatDoorArgs
import Derived.Test.YtjliljlmgepmpaaGreatDoorArgs3
import Derived.Test.YtjliljlmgepmpaaGreatDoorTreC
import Derived.Test.YtjliljlmgepmpaaGreatDoorVars
import Derived.WalkKit
import Derived.JoinedOf
import Derived.Handed
import Derived.Test.YtjliljlmgepmpaaGreatDoorTie
import Derived.Test.YtjliljlmgepmpaaGreatDoorCards
import Derived.LaidMore
import Derived.OpenShut
import Derived.LaidHandle
import Derived.SevenTiedAt
import Derived.Lay
import Derived.MakeChecks
set_option linter.unusedSimpArgs false
set_option linter.unusedVariables false
set_option linter.unusedSectionVars false
namespace Go.Proofs.YtjliljlmgepmpaaGreatDoor.treeChanges
open Go.ChangeShapes Go.WideShapes Go.ChangeAt Go.RowKit Go.HL Go.Wk
theorem own : ownKnob Tryz.prog.godebug = none := by kernel_rfl
theorem laid : laidOutB Tryz.prog = true := by kernel_rfl
theorem reads : ∀ t ∈ Tryz.f5.params.toList, Tryz.prog.readableRec t = true ∧ t < Tryz.prog.types.size := by
  rw [Tryz.params5]; intro t ht; simp at ht; rcases ht with rfl | rfl <;> exact ⟨by kernel_rfl, of_decide_eq_true (by kernel_rfl)⟩
local instance : DM := ⟨false⟩
theorem rd_e_api_Branch : Rd Tryz.prog 46 e_api_Branch (fun _ x => (I64 x.1 ∧ I64 x.2)) :=
  Rd.imp (rd_struct Tryz.underlying46 (by kernel_rfl) (RdF.cons (k := 1) rfl (by kernel_rfl) (rd_I Tryz.underlying3) (RdF.cons (k := 1) rfl (by kernel_rfl) (rd_I Tryz.underlying3) RdF.nil))) (fun p => (p.1, p.2.1)) (fun _ => rfl) (fun _ p h => ⟨h.1, h.2.1⟩)
set_option maxRecDepth 100000 in
theorem lifted (os : Os) (started : os.Started) (H : Type) (enc : TypeId × Value → H) :
    ReturnsInHanded {} Tryz.checked os 5 .any (fun w args => (Rows.treeChangesSpec.pre enc Tryz.prog Tryz.f5 [] false w args ∧ laidMetH Tryz.prog (Rows.treeChangesRow.laid) w) ∧ sizedMet enc Tryz.prog Tryz.f5 (OpenSpec.ofChange Rows.treeChangesSpec) false w args) (Rows.treeChangesSpec.post enc Tryz.prog Tryz.f5 false true false false) := by
  refine returns_shaped (C := Tryz.checked) (X := fun w _ => laidMetH Tryz.prog (Rows.treeChangesRow.laid) w) (fun _ _ _ hh h => h.of_heap hh) own started (by kernel_rfl) Tryz.func5
    (ChangeSpec.witness_shaped (enc := enc) (C := Tryz.checked) (os := os) (X := fun w _ => laidMetH Tryz.prog (Rows.treeChangesRow.laid) w) false (World.laidAll Tryz.prog os Rows.treeChangesRow.laid) #[.agg #[.int .i64 0, .slice none 0 0], .agg #[.int .i64 0, .slice none 0 0]] 8 (World.laidAll_os _ _ _) (World.shaped_of_ZipB (by kernel_rfl) (by kernel_rfl)) (by kernel_rfl) (by kernel_rfl) (by kernel_rfl) (by rw [MakeChecks.laidMetH_plain _ _ _ (by kernel_rfl)]; exact laidMet_laidAll _ (by kernel_rfl) (by kernel_rfl))) ?_
  intro W base args ds gs before hval hW hX hsh
  have hL : laidMet Tryz.prog (Rows.treeChangesRow.laid) W := laid_plain (by kernel_rfl) hX
  obtain ⟨gvS, hE_gvS, hG_0⟩ := gl_err (g := 0) (T := 53) (z := #[.nilIface]) hsh (of_decide_eq_true (by kernel_rfl)) (by kernel_rfl) (by kernel_rfl) (by kernel_rfl) Tryz.underlying53 (laidMet.tail (laidMet.tail (laidMet.tail (laidMet.tail (laidMet.tail hL)))))
  obtain ⟨gvR, hE_gvR, hG_1⟩ := gl_err (g := 1) (T := 53) (z := #[.nilIface]) hsh (of_decide_eq_true (by kernel_rfl)) (by kernel_rfl) (by kernel_rfl) (by kernel_rfl) Tryz.underlying53 (laidMet.tail (laidMet.tail (laidMet.tail (laidMet.tail hL))))
  obtain ⟨gm, hG_2⟩ := gl_int (k := .i64) (g := 2) (T := 3) (z := #[.int .i64 0]) hsh (of_decide_eq_true (by kernel_rfl)) (by kernel_rfl) rfl (by kernel_rfl) (by kernel_rfl) Tryz.underlying3
  have hG_5 : RoF (Ow.box 5 163 (tab10 ()).toArray) (allF W.heap) W.heap := by
    have q := gl_tab (zs := Lib.pow10Tab) (k := .u64) (g := 5) (T := 163) (z := #[.int .u64 0, .int .u64 0, .int .u64 0, .int .u64 0, .int .u64 0, .int .u64 0, .int .u64 0, .int .u64 0, .int .u64 0, .int .u64 0, .int .u64 0, .int .u64 0, .int .u64 0, .int .u64 0, .int .u64 0, .int .u64 0, .int .u64 0, .int .u64 0, .int .u64 0, .int .u64 0]) hsh (of_decide_eq_true (by kernel_rfl)) (by kernel_rfl) (by kernel_rfl) (by kernel_rfl) Tryz.underlying163 Tryz.underlying112 (by kernel_rfl) (by kernel_rfl) (laidMet.tail (laidMet.tail hL))
    rw [show (Lib.pow10Tab.map fun z => Value.int .u64 z) = (tab10 ()) from by kernel_rfl] at q
    exact q
  have hW' := hW
  obtain ⟨p, q, hA0, hV, rfl, hfz, hnd⟩ := hW
  have hA : DataW.TrodAll enc Tryz.prog W 0 (fun _ => true) true Tryz.f5.params.toList args.toList ds p := hA0
  rw [Tryz.params5] at hA hval
  obtain ⟨v0, vs0, d0, ds0, p0, q0, hargs, rfl, rfl, r0, s0⟩ := trodAll_cons hA
  obtain ⟨v1, vs1, d1, ds1, p1, q1, rfl, rfl, rfl, r1, s1⟩ := trodAll_cons s0
  obtain ⟨rfl, rfl, rfl⟩ := trodAll_nil s1
  obtain rfl : args = #[v0, v1] := by cases args; simp_all
  obtain ⟨⟨a_Root, ⟨va_Links, a_Links⟩, _⟩, c0, ⟨ok_a_Root, ⟨hs_a_Links, ok_a_Links⟩, _⟩⟩ := ((rd_struct Tryz.underlying24 (by kernel_rfl) (RdF.cons (k := 1) rfl (by kernel_rfl) (rd_I Tryz.underlying3) (RdF.cons (k := 1) rfl (by kernel_rfl) (rd_slice (k := 2) Tryz.underlying22 (by kernel_rfl) (by decide) rd_e_api_Branch) RdF.nil)))).arg r0
  obtain ⟨xs0, rfl, _⟩ := okWide_struct Tryz.underlying24 (hval 0 24 v0 rfl rfl)
  obtain rfl : xs0 = #[.int .i64 a_Root, va_Links] := Array.toList_inj.1 (c0)
  obtain ⟨⟨b_Root, ⟨vb_Links, b_Links⟩, _⟩, c1, ⟨ok_b_Root, ⟨hs_b_Links, ok_b_Links⟩, _⟩⟩ := ((rd_struct Tryz.underlying24 (by kernel_rfl) (RdF.cons (k := 1) rfl (by kernel_rfl) (rd_I Tryz.underlying3) (RdF.cons (k := 1) rfl (by kernel_rfl) (rd_slice (k := 2) Tryz.underlying22 (by kernel_rfl) (by decide) rd_e_api_Branch) RdF.nil)))).arg r1
  obtain ⟨xs1, rfl, _⟩ := okWide_struct Tryz.underlying24 (hval 1 24 v1 rfl rfl)
  obtain rfl : xs1 = #[.int .i64 b_Root, vb_Links] := Array.toList_inj.1 (c1)
  refine ((show HC Tryz.prog 5 _ W.heap (fun u h' => u = .bool true ∧ Ext W.heap h') from (law32_TreeChanges_walk (fr := []) a_Root a_Links b_Root b_Links _ _ _ _ _ _ _ (St.init W.heap) (SliceF.init hs_a_Links) (SliceF.init hs_b_Links) hG_0 ⟨hE_gvS⟩ hG_1 ⟨hE_gvR⟩ hG_2 hG_5 rfl (Q := fun r => r = true) (treeChanges_ok rfl)).mono (fun u h' ⟨F', r, hu, hk, _, _, _, _, _, _, _, _, _, hr⟩ => ⟨hu.trans (by rw [hr]), hk.ext⟩)) W rfl).mono fun e W' ⟨hk, v, he, hR⟩ => ?_
  obtain ⟨rfl, hE⟩ := hR
  exact ⟨_, he, law_post laid reads rfl Tryz.underlying4 rfl (fun ds hd => by
    match ds, hd with
    | [_, _], _ => rfl) hW' (below_of hk hE)⟩
theorem row_proved : Rows.TreeChangesSaid :=
  OpenClaim.holds_of_wide 5 Tryz.f5 rfl rfl rfl rfl rfl rfl rfl ⟨rfl, rfl, rfl, rfl, rfl⟩ rfl rfl rfl rfl rfl (by kernel_rfl) Tryz.func5 (by kernel_rfl)
    (of_decide_eq_true (by kernel_rfl)) (by unfold Func.isWrapper; first | (rw [if_pos (by decide +kernel)]; kernel_rfl) | (rw [if_neg (by decide +kernel)]; exact ⟨rfl, rfl⟩))
    (fun os started H enc _ => lifted os started H enc)
theorem proved : Rows.TreeChangesCardSaid :=
  Claim7.holds_tied_plain_at .later [] [.data, .data, .data, .data, .sentinel, .sentinel, .pinned] true (true, "50984f50693e7be55a679a5055dc961fcea6e2acaf7be71725dacff2e38b2468") true
    row_proved (fun _ h => by cases h) (by kernel_rfl) (fun _ h => by cases h) treeChanges_row_tie rfl ⟨rfl, rfl⟩ (by kernel_rfl) rfl
    (fun f fn hf hfn => by
      obtain rfl : f = 5 := Option.some.inj ((show Tryz.prog.funcNamed "acequia/acequialaw32.TreeChanges" = some 5 by kernel_rfl).symm.trans hf) |>.symm
      obtain rfl : fn = Tryz.f5 := (Option.some.inj (Tryz.func5.symm.trans hfn)).symm
      refine ⟨by kernel_rfl, fun j t ht => ?_⟩
      rw [Tryz.params5] at ht
      have hm := Array.mem_of_getElem? ht
      simp at hm
      rcases hm with rfl | rfl <;> exact (show Tryz.prog.wantsStandIn _ = false by kernel_rfl)) (by kernel_rfl)
end Go.Proofs.YtjliljlmgepmpaaGreatDoor.treeChanges
