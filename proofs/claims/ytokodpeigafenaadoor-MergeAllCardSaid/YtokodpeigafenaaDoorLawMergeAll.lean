/- MergeAll holds at whatever; its card. -/
import Derived.Test.YtokodpeigafenaaDoorRows
import Derived.Test.YtokodpeigafenaaDoorArgs
import Derived.Test.YtokodpeigafenaaDoorArgs3
import Derived.Test.YtokodpeigafenaaDoorMrgL
import Derived.WalkKit
import Derived.JoinedOf
import Derived.Handed
import Derived.Test.YtokodpeigafenaaDoorTie
import Derived.Test.YtokodpeigafenaaDoorCards
import Derived.LaidMore
import Derived.OpenShut
import Derived.LaidHandle
import Derived.SevenTiedAt
set_option linter.unusedSimpArgs false
set_option linter.unusedVariables false
set_option linter.unusedSectionVars false
namespace Go.Proofs.YtokodpeigafenaaDoor.mergeAll
open Go.ChangeShapes Go.WideShapes Go.ChangeAt Go.RowKit Go.HL Go.Wk
theorem own : ownKnob Tryd.prog.godebug = none := by kernel_rfl
theorem laid : laidOutB Tryd.prog = true := by kernel_rfl
theorem reads : ∀ t ∈ Tryd.f4.params.toList, Tryd.prog.readableRec t = true ∧ t < Tryd.prog.types.size := by
  rw [Tryd.params4]; intro t ht; simp at ht; rcases ht with rfl | rfl <;> exact ⟨by kernel_rfl, of_decide_eq_true (by kernel_rfl)⟩
local instance : DM := ⟨false⟩
theorem rd_e_api_Addr : Rd Tryd.prog 27 e_api_Addr (fun _ x => (True ∧ True)) :=
  Rd.imp (rd_struct Tryd.underlying27 (by kernel_rfl) (RdF.cons (k := 1) rfl (by kernel_rfl) (rd_bool Tryd.underlying4) (RdF.cons (k := 16) rfl (by kernel_rfl) (rd_B Tryd.underlying25 Tryd.underlying5 (by kernel_rfl) (by kernel_rfl)) RdF.nil))) (fun p => (p.1, p.2.1)) (fun _ => rfl) (fun _ p h => ⟨h.1, h.2.1⟩)
theorem rd_e_api_Filter : Rd Tryd.prog 24 e_api_Filter (fun h x => (nf_api_Filter).q h x) :=
  Rd.imp (rd_struct Tryd.underlying24 (by kernel_rfl) (RdF.cons (k := 1) rfl (by kernel_rfl) (rd_bool Tryd.underlying4) (RdF.cons (k := 1) rfl (by kernel_rfl) (rd_slice (k := 17) Tryd.underlying22 (by kernel_rfl) (by decide) rd_e_api_Addr) RdF.nil))) (fun p => (p.1, p.2.1)) (fun _ => rfl) (fun _ p h => h.2.1.1)
theorem door_met (os : Os) (args : Array Value) : laidMetH Tryd.prog (Rows.mergeAllRow.laid) ((World.doorLaid Tryd.prog 400 os).forCall (fun _ _ => 0) ⟨#[], args, []⟩).memory :=
  laidMetH_of_parts3 (fuel := 8) (laidMet_of_run' 8 (by kernel_rfl) (by kernel_rfl)) (by kernel_rfl) (by kernel_rfl)
set_option maxRecDepth 100000 in
theorem lifted (os : Os) (started : os.Started) (H : Type) (enc : TypeId × Value → H) :
    ReturnsInHanded {} Tryd.checked os 4 .any (fun w args => (Rows.mergeAllSpec.pre enc Tryd.prog Tryd.f4 [] false w args ∧ laidMetH Tryd.prog (Rows.mergeAllRow.laid) w) ∧ sizedMet enc Tryd.prog Tryd.f4 (OpenSpec.ofChange Rows.mergeAllSpec) false w args) (Rows.mergeAllSpec.post enc Tryd.prog Tryd.f4 false true false false) := by
  refine returnsInHanded_of_change_and (C := Tryd.checked) (X := fun w _ => laidMetH Tryd.prog (Rows.mergeAllRow.laid) w) (fun _ _ _ hh h => h.of_heap hh) own started (by kernel_rfl) Tryd.func4
    (ChangeSpec.witness_shaped (enc := enc) (C := Tryd.checked) (os := os) (X := fun w _ => laidMetH Tryd.prog (Rows.mergeAllRow.laid) w) false (World.doorLaid Tryd.prog 400 os) #[.slice none 0 0, .agg #[.bool false, .int .u8 0, .int .u8 0, .int .u8 0, .int .u8 0, .int .u8 0, .int .u8 0, .int .u8 0, .int .u8 0, .int .u8 0, .int .u8 0, .int .u8 0, .int .u8 0, .int .u8 0, .int .u8 0, .int .u8 0, .int .u8 0]] 8 rfl (World.shaped_of_RefB (by kernel_rfl) (by kernel_rfl)) (by kernel_rfl) (by kernel_rfl) (by kernel_rfl) (door_met os _)) ?_
  intro W base args ds gs before hval hW _ _ _ _
  have hW' := hW
  obtain ⟨p, q, hA0, hV, rfl, hfz, hnd⟩ := hW
  have hA : DataW.TrodAll enc Tryd.prog W 0 (fun _ => true) true Tryd.f4.params.toList args.toList ds p := hA0
  rw [Tryd.params4] at hA hval
  obtain ⟨v0, vs0, d0, ds0, p0, q0, hargs, rfl, rfl, r0, s0⟩ := trodAll_cons hA
  obtain ⟨v1, vs1, d1, ds1, p1, q1, rfl, rfl, rfl, r1, s1⟩ := trodAll_cons s0
  obtain ⟨rfl, rfl, rfl⟩ := trodAll_nil s1
  obtain rfl : args = #[v0, v1] := by cases args; simp_all
  obtain ⟨⟨vl, l⟩, c0, ⟨hs_l, ok_l⟩⟩ := ((rd_slice (k := 2) Tryd.underlying45 (by kernel_rfl) (by decide) rd_e_api_Filter)).arg r0
  obtain ⟨a0, l0, k0, rfl⟩ := okWide_slice Tryd.underlying45 (hval 0 45 v0 rfl rfl)
  have e0 := cells_one rfl c0
  clear c0; subst e0
  obtain ⟨a, c1, ok_a⟩ := (rd_e_api_Addr).arg r1
  obtain ⟨xs1, rfl, _⟩ := okWide_struct Tryd.underlying27 (hval 1 27 v1 rfl rfl)
  obtain rfl : xs1 = #[.bool a.1, .int .u8 (b8 a.2 0), .int .u8 (b8 a.2 1), .int .u8 (b8 a.2 2), .int .u8 (b8 a.2 3), .int .u8 (b8 a.2 4), .int .u8 (b8 a.2 5), .int .u8 (b8 a.2 6), .int .u8 (b8 a.2 7), .int .u8 (b8 a.2 8), .int .u8 (b8 a.2 9), .int .u8 (b8 a.2 10), .int .u8 (b8 a.2 11), .int .u8 (b8 a.2 12), .int .u8 (b8 a.2 13), .int .u8 (b8 a.2 14), .int .u8 (b8 a.2 15)] := Array.toList_inj.1 (c1)
  refine ((show HC Tryd.prog 4 _ W.heap (fun u h' => u = .bool true ∧ Ext W.heap h') from (law19_MergeAll_walk (fr := []) l a _ (St.init W.heap) (NfL.init ⟨ok_l⟩) (SliceF.init hs_l) rfl (Q := fun r => r = true) (mergeAll_ok rfl)).mono (fun u h' ⟨F', r, hu, hk, _, _, _, hr⟩ => ⟨hu.trans (by rw [hr]), hk.ext⟩)) W rfl).mono fun e W' ⟨hk, v, he, hR⟩ => ?_
  obtain ⟨rfl, hE⟩ := hR
  exact ⟨_, he, law_post laid reads rfl Tryd.underlying4 rfl (fun ds hd => by
    match ds, hd with
    | [_, _], _ => rfl) hW' (below_of hk hE)⟩
theorem row_proved : Rows.MergeAllSaid :=
  OpenClaim.holds_of_wide 4 Tryd.f4 rfl rfl rfl rfl rfl rfl rfl ⟨rfl, rfl, rfl, rfl, rfl⟩ rfl rfl rfl rfl rfl (by kernel_rfl) Tryd.func4 (by kernel_rfl)
    (of_decide_eq_true (by kernel_rfl)) (by unfold Func.isWrapper; first | (rw [if_pos (by decide +kernel)]; kernel_rfl) | (rw [if_neg (by decide +kernel)]; exact ⟨rfl, rfl⟩))
    (fun os started H enc _ => lifted os started H enc)
theorem proved : Rows.MergeAllCardSaid :=
  Claim7.holds_tied_plain_at .later [] [.data, .data, .data] true (true, "5014a6b77b8499d5bbe7f77057726b22189ad6f59324b89241ff0729a2ed9100") false
    row_proved (fun _ h => by cases h) (by kernel_rfl) (fun _ h => by cases h) mergeAll_row_tie rfl ⟨rfl, rfl⟩ (by kernel_rfl) rfl
    (fun f fn hf hfn => by
      obtain rfl : f = 4 := Option.some.inj ((show Tryd.prog.funcNamed "acequia/acequialaw19.MergeAll" = some 4 by kernel_rfl).symm.trans hf) |>.symm
      obtain rfl : fn = Tryd.f4 := (Option.some.inj (Tryd.func4.symm.trans hfn)).symm
      refine ⟨by kernel_rfl, fun j t ht => ?_⟩
      rw [Tryd.params4] at ht
      have hm := Array.mem_of_getElem? ht
      simp at hm
      rcases hm with rfl | rfl <;> exact (show Tryd.prog.wantsStandIn _ = false by kernel_rfl)) (by kernel_rfl)
end Go.Proofs.YtokodpeigafenaaDoor.mergeAll
