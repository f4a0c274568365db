/- MergeChanges holds at whatever; its card. -/
import Derived.Test.YtokodpeigafenaaDoorRows
import Derived.Test.YtokodpeigafenaaDoorArgs
import Derived.Test.YtokodpeigafenaaDoorArgs3
import Derived.Test.YtokodpeigafenaaDoorMrcP
import Derived.WalkKit
import Derived.JoinedOf
import Derived.Handed
import Derived.Test.YtokodpeigafenaaDoorTie
import Derived.Test.YtokodpeigafenaaDoorCards
import Derived.LaidMore
import Derived.OpenShut
import Derived.LaidHandle
import Derived.SevenTiedAt
set_option linter.unusedSimpArgs false
set_option linter.unusedVariables false
set_option linter.unusedSectionVars false
namespace Go.Proofs.YtokodpeigafenaaDoor.mergeChanges
open Go.ChangeShapes Go.WideShapes Go.ChangeAt Go.RowKit Go.HL Go.Wk
theorem own : ownKnob Tryd.prog.godebug = none := by kernel_rfl
theorem laid : laidOutB Tryd.prog = true := by kernel_rfl
theorem reads : ∀ t ∈ Tryd.f3.params.toList, Tryd.prog.readableRec t = true ∧ t < Tryd.prog.types.size := by
  rw [Tryd.params3]; intro t ht; simp at ht; rcases ht with rfl <;> exact ⟨by kernel_rfl, of_decide_eq_true (by kernel_rfl)⟩
local instance : DM := ⟨false⟩
theorem rd_e_api_Addr : Rd Tryd.prog 27 e_api_Addr (fun _ x => (True ∧ True)) :=
  Rd.imp (rd_struct Tryd.underlying27 (by kernel_rfl) (RdF.cons (k := 1) rfl (by kernel_rfl) (rd_bool Tryd.underlying4) (RdF.cons (k := 16) rfl (by kernel_rfl) (rd_B Tryd.underlying25 Tryd.underlying5 (by kernel_rfl) (by kernel_rfl)) RdF.nil))) (fun p => (p.1, p.2.1)) (fun _ => rfl) (fun _ p h => ⟨h.1, h.2.1⟩)
theorem door_met (os : Os) (args : Array Value) : laidMetH Tryd.prog (Rows.mergeChangesRow.laid) ((World.doorLaid Tryd.prog 400 os).forCall (fun _ _ => 0) ⟨#[], args, []⟩).memory :=
  laidMetH_of_parts3 (fuel := 8) (laidMet_of_run' 8 (by kernel_rfl) (by kernel_rfl)) (by kernel_rfl) (by kernel_rfl)
set_option maxRecDepth 100000 in
theorem lifted (os : Os) (started : os.Started) (H : Type) (enc : TypeId × Value → H) :
    ReturnsInHanded {} Tryd.checked os 3 .any (fun w args => (Rows.mergeChangesSpec.pre enc Tryd.prog Tryd.f3 [] false w args ∧ laidMetH Tryd.prog (Rows.mergeChangesRow.laid) w) ∧ sizedMet enc Tryd.prog Tryd.f3 (OpenSpec.ofChange Rows.mergeChangesSpec) false w args) (Rows.mergeChangesSpec.post enc Tryd.prog Tryd.f3 false true false false) := by
  refine returnsInHanded_of_change_and (C := Tryd.checked) (X := fun w _ => laidMetH Tryd.prog (Rows.mergeChangesRow.laid) w) (fun _ _ _ hh h => h.of_heap hh) own started (by kernel_rfl) Tryd.func3
    (ChangeSpec.witness_shaped (enc := enc) (C := Tryd.checked) (os := os) (X := fun w _ => laidMetH Tryd.prog (Rows.mergeChangesRow.laid) w) false (World.doorLaid Tryd.prog 400 os) #[.agg #[.bool false, .slice none 0 0, .bool false, .slice none 0 0, .bool false, .int .u8 0, .int .u8 0, .int .u8 0, .int .u8 0, .int .u8 0, .int .u8 0, .int .u8 0, .int .u8 0, .int .u8 0, .int .u8 0, .int .u8 0, .int .u8 0, .int .u8 0, .int .u8 0, .int .u8 0, .int .u8 0, .bool false, .int .u8 0, .int .u8 0, .int .u8 0, .int .u8 0, .int .u8 0, .int .u8 0, .int .u8 0, .int .u8 0, .int .u8 0, .int .u8 0, .int .u8 0, .int .u8 0, .int .u8 0, .int .u8 0, .int .u8 0, .int .u8 0, .slice none 0 0]] 8 rfl (World.shaped_of_RefB (by kernel_rfl) (by kernel_rfl)) (by kernel_rfl) (by kernel_rfl) (by kernel_rfl) (door_met os _)) ?_
  intro W base args ds gs before hval hW _ _ _ _
  have hW' := hW
  obtain ⟨p, q, hA0, hV, rfl, hfz, hnd⟩ := hW
  have hA : DataW.TrodAll enc Tryd.prog W 0 (fun _ => true) true Tryd.f3.params.toList args.toList ds p := hA0
  rw [Tryd.params3] at hA hval
  obtain ⟨v0, vs0, d0, ds0, p0, q0, hargs, rfl, rfl, r0, s0⟩ := trodAll_cons hA
  obtain ⟨rfl, rfl, rfl⟩ := trodAll_nil s0
  obtain rfl : args = #[v0] := by cases args; simp_all
  obtain ⟨⟨⟨x_F_Exclude, ⟨vx_F_Sources, x_F_Sources⟩, _⟩, ⟨x_O_Exclude, ⟨vx_O_Sources, x_O_Sources⟩, _⟩, x_G, x_A, ⟨vx_L, x_L⟩, _⟩, c0, ⟨⟨ok_x_F_Exclude, ⟨hs_x_F_Sources, ok_x_F_Sources⟩, _⟩, ⟨ok_x_O_Exclude, ⟨hs_x_O_Sources, ok_x_O_Sources⟩, _⟩, ok_x_G, ok_x_A, ⟨hs_x_L, ok_x_L⟩, _⟩⟩ := ((rd_struct Tryd.underlying29 (by kernel_rfl) (RdF.cons (k := 2) rfl (by kernel_rfl) (rd_struct Tryd.underlying24 (by kernel_rfl) (RdF.cons (k := 1) rfl (by kernel_rfl) (rd_bool Tryd.underlying4) (RdF.cons (k := 1) rfl (by kernel_rfl) (rd_slice (k := 17) Tryd.underlying22 (by kernel_rfl) (by decide) rd_e_api_Addr) RdF.nil))) (RdF.cons (k := 2) rfl (by kernel_rfl) (rd_struct Tryd.underlying24 (by kernel_rfl) (RdF.cons (k := 1) rfl (by kernel_rfl) (rd_bool Tryd.underlying4) (RdF.cons (k := 1) rfl (by kernel_rfl) (rd_slice (k := 17) Tryd.underlying22 (by kernel_rfl) (by decide) rd_e_api_Addr) RdF.nil))) (RdF.cons (k := 17) rfl (by kernel_rfl) rd_e_api_Addr (RdF.cons (k := 17) rfl (by kernel_rfl) rd_e_api_Addr (RdF.cons (k := 1) rfl (by kernel_rfl) (rd_slice (k := 17) Tryd.underlying22 (by kernel_rfl) (by decide) rd_e_api_Addr) RdF.nil))))))).arg r0
  obtain ⟨xs0, rfl, _⟩ := okWide_struct Tryd.underlying29 (hval 0 29 v0 rfl rfl)
  obtain rfl : xs0 = #[.bool x_F_Exclude, vx_F_Sources, .bool x_O_Exclude, vx_O_Sources, .bool x_G.1, .int .u8 (b8 x_G.2 0), .int .u8 (b8 x_G.2 1), .int .u8 (b8 x_G.2 2), .int .u8 (b8 x_G.2 3), .int .u8 (b8 x_G.2 4), .int .u8 (b8 x_G.2 5), .int .u8 (b8 x_G.2 6), .int .u8 (b8 x_G.2 7), .int .u8 (b8 x_G.2 8), .int .u8 (b8 x_G.2 9), .int .u8 (b8 x_G.2 10), .int .u8 (b8 x_G.2 11), .int .u8 (b8 x_G.2 12), .int .u8 (b8 x_G.2 13), .int .u8 (b8 x_G.2 14), .int .u8 (b8 x_G.2 15), .bool x_A.1, .int .u8 (b8 x_A.2 0), .int .u8 (b8 x_A.2 1), .int .u8 (b8 x_A.2 2), .int .u8 (b8 x_A.2 3), .int .u8 (b8 x_A.2 4), .int .u8 (b8 x_A.2 5), .int .u8 (b8 x_A.2 6), .int .u8 (b8 x_A.2 7), .int .u8 (b8 x_A.2 8), .int .u8 (b8 x_A.2 9), .int .u8 (b8 x_A.2 10), .int .u8 (b8 x_A.2 11), .int .u8 (b8 x_A.2 12), .int .u8 (b8 x_A.2 13), .int .u8 (b8 x_A.2 14), .int .u8 (b8 x_A.2 15), vx_L] := Array.toList_inj.1 (c0)
  refine ((show HC Tryd.prog 3 _ W.heap (fun u h' => u = .bool true ∧ Ext W.heap h') from (law19_MergeChanges_walk (fr := []) x_F_Exclude x_F_Sources x_O_Exclude x_O_Sources x_G x_A x_L _ _ _ (St.init W.heap) (SliceF.init hs_x_F_Sources) (SliceF.init hs_x_O_Sources) (SliceF.init hs_x_L) rfl (Q := fun r => r = true) (mergeChanges_ok rfl)).mono (fun u h' ⟨F', r, hu, hk, _, _, _, _, hr⟩ => ⟨hu.trans (by rw [hr]), hk.ext⟩)) W rfl).mono fun e W' ⟨hk, v, he, hR⟩ => ?_
  obtain ⟨rfl, hE⟩ := hR
  exact ⟨_, he, law_post laid reads rfl Tryd.underlying4 rfl (fun ds hd => by
    match ds, hd with
    | [_], _ => rfl) hW' (below_of hk hE)⟩
theorem row_proved : Rows.MergeChangesSaid :=
  OpenClaim.holds_of_wide 3 Tryd.f3 rfl rfl rfl rfl rfl rfl rfl ⟨rfl, rfl, rfl, rfl, rfl⟩ rfl rfl rfl rfl rfl (by kernel_rfl) Tryd.func3 (by kernel_rfl)
    (of_decide_eq_true (by kernel_rfl)) (by unfold Func.isWrapper; first | (rw [if_pos (by decide +kernel)]; kernel_rfl) | (rw [if_neg (by decide +kernel)]; exact ⟨rfl, rfl⟩))
    (fun os started H enc _ => lifted os started H enc)
theorem proved : Rows.MergeChangesCardSaid :=
  Claim7.holds_tied_plain_at .later [] [.data, .data, .data] true (true, "5014a6b77b8499d5bbe7f77057726b22189ad6f59324b89241ff0729a2ed9100") false
    row_proved (fun _ h => by cases h) (by kernel_rfl) (fun _ h => by cases h) mergeChanges_row_tie rfl ⟨rfl, rfl⟩ (by kernel_rfl) rfl
    (fun f fn hf hfn => by
      obtain rfl : f = 3 := Option.some.inj ((show Tryd.prog.funcNamed "acequia/acequialaw19.MergeChanges" = some 3 by kernel_rfl).symm.trans hf) |>.symm
      obtain rfl : fn = Tryd.f3 := (Option.some.inj (Tryd.func3.symm.trans hfn)).symm
      refine ⟨by kernel_rfl, fun j t ht => ?_⟩
      rw [Tryd.params3] at ht
      have hm := Array.mem_of_getElem? ht
      simp at hm
      rcases hm with rfl <;> exact (show Tryd.prog.wantsStandIn _ = false by kernel_rfl)) (by kernel_rfl)
end Go.Proofs.YtokodpeigafenaaDoor.mergeChanges
