/- ScriptLong holds at whatever; its card. -/
import Derived.Test.YtlnagjjldpgbpaaGreatDoorRows
import Derived.Test.YtlnagjjldpgbpaaGreatDoorArgs
import Derived.Test.YtlnagjjldpgbpaaGreatDoorArgs3
import Derived.Test.YtlnagjjldpgbpaaGreatDoorScL
import Derived.Test.YtlnagjjldpgbpaaGreatDoorVars
import Derived.WalkKit
import Derived.JoinedOf
import Derived.Handed
import Derived.Test.YtlnagjjldpgbpaaGreatDoorTie
import Derived.Test.YtlnagjjldpgbpaaGreatDoorCards
import Derived.LaidMore
import Derived.OpenShut
import Derived.LaidHandle
import Derived.SevenTiedAt
import Derived.Lay
import Derived.MakeChecks
set_option linter.unusedSimpArgs false
set_option linter.unusedVariables false
set_option linter.unusedSectionVars false
namespace Go.Proofs.YtlnagjjldpgbpaaGreatDoor.scriptLong
open Go.ChangeShapes Go.WideShapes Go.ChangeAt Go.RowKit Go.HL Go.Wk
theorem own : ownKnob Tryz.prog.godebug = none := by kernel_rfl
theorem laid : laidOutB Tryz.prog = true := by kernel_rfl
theorem reads : ∀ t ∈ Tryz.f6.params.toList, Tryz.prog.readableRec t = true /\ t < Tryz.prog.types.size := by
  rw [Tryz.params6]; intro t ht; simp at ht; rcases ht with rfl | rfl <;> exact ⟨by kernel_rfl, of_decide_eq_true (by kernel_rfl)⟩
local instance : DM := ⟨false⟩
set_option maxRecDepth 100000 in
theorem lifted (os : Os) (started : os.Started) (H : Type) (enc : TypeId × Value -> H) :
    ReturnsInHanded {} Tryz.checked os 6 .any (fun w args => (Rows.scriptLongSpec.pre enc Tryz.prog Tryz.f6 [] false w args /\ laidMetH Tryz.prog (Rows.scriptLongRow.laid) w) /\ sizedMet enc Tryz.prog Tryz.f6 (OpenSpec.ofChange Rows.scriptLongSpec) false w args) (Rows.scriptLongSpec.post enc Tryz.prog Tryz.f6 false true false false) := by
  refine MR (C := Tryz.checked) (X := fun w _ => laidMetH Tryz.prog (Rows.scriptLongRow.laid) w) (fun _ _ _ hh h => h.of_heap hh) own started (by kernel_rfl) Tryz.func6
    (ChangeSpec.witness_shaped (enc := enc) (C := Tryz.checked) (os := os) (X := fun w _ => laidMetH Tryz.prog (Rows.scriptLongRow.laid) w) false (World.laidAll Tryz.prog os Rows.scriptLongRow.laid) #[.int .u8 0, .bool false] 8 (World.laidAll_os _ _ _) (World.shaped_of_ZipB (by kernel_rfl) (by kernel_rfl)) (by kernel_rfl) (by kernel_rfl) (by kernel_rfl) (by rw [MakeChecks.laidMetH_plain _ _ _ (by kernel_rfl)]; exact laidMet_laidAll _ (by kernel_rfl) (by kernel_rfl))) ?_
  intro W base args ds gs before hval hW hX hsh
  have hL : laidMet Tryz.prog (Rows.scriptLongRow.laid) W := SA (by kernel_rfl) hX
  obtain ⟨gm, cZ⟩ := Z5 (k := .i64) (g := 0) (T := 3) (z := #[.int .i64 0]) hsh (of_decide_eq_true (by kernel_rfl)) (by kernel_rfl) rfl (by kernel_rfl) (by kernel_rfl) Tryz.underlying3
  obtain ⟨nN, aP, bZ⟩ := WY (g := 3) (T := 93) (z := #[.nilIface]) hsh (of_decide_eq_true (by kernel_rfl)) (by kernel_rfl) (by kernel_rfl) (by kernel_rfl) Tryz.underlying93 (laidMet.tail (laidMet.tail (laidMet.tail (laidMet.tail (laidMet.tail hL)))))
  obtain ⟨nO, aQ, bY⟩ := WY (g := 4) (T := 93) (z := #[.nilIface]) hsh (of_decide_eq_true (by kernel_rfl)) (by kernel_rfl) (by kernel_rfl) (by kernel_rfl) Tryz.underlying93 (laidMet.tail (laidMet.tail (laidMet.tail (laidMet.tail hL))))
  have bu : fM (Ow.box 5 171 (jU ()).toArray) (Iu W.heap) W.heap := by
    have q := WX (zs := Lib.pow10Tab) (k := .u64) (g := 5) (T := 171) (z := #[.int .u64 0, .int .u64 0, .int .u64 0, .int .u64 0, .int .u64 0, .int .u64 0, .int .u64 0, .int .u64 0, .int .u64 0, .int .u64 0, .int .u64 0, .int .u64 0, .int .u64 0, .int .u64 0, .int .u64 0, .int .u64 0, .int .u64 0, .int .u64 0, .int .u64 0, .int .u64 0]) hsh (of_decide_eq_true (by kernel_rfl)) (by kernel_rfl) (by kernel_rfl) (by kernel_rfl) Tryz.underlying171 Tryz.underlying122 (by kernel_rfl) (by kernel_rfl) (laidMet.tail (laidMet.tail hL))
    rw [show (Lib.pow10Tab.map fun z => Value.int .u64 z) = (jU ()) from by kernel_rfl] at q
    exact q
  have aW : fM (Ow.box 7 180 (bJ gX).toArray) (Iu W.heap) W.heap := by
    have q := WX (zs := [0, 1, 56, 2, 57, 49, 28, 3, 61, 58, 42, 50, 38, 29, 17, 4, 62, 47, 59, 36, 45, 43, 51, 22, 53, 39, 33, 30, 24, 18, 12, 5, 63, 55, 48, 27, 60, 41, 37, 16, 46, 35, 44, 21, 52, 32, 23, 11, 54, 26, 40, 15, 34, 20, 31, 10, 25, 14, 19, 9, 13, 8, 7, 6]) (k := .u8) (g := 7) (T := 180) (z := #[.int .u8 0, .int .u8 0, .int .u8 0, .int .u8 0, .int .u8 0, .int .u8 0, .int .u8 0, .int .u8 0, .int .u8 0, .int .u8 0, .int .u8 0, .int .u8 0, .int .u8 0, .int .u8 0, .int .u8 0, .int .u8 0, .int .u8 0, .int .u8 0, .int .u8 0, .int .u8 0, .int .u8 0, .int .u8 0, .int .u8 0, .int .u8 0, .int .u8 0, .int .u8 0, .int .u8 0, .int .u8 0, .int .u8 0, .int .u8 0, .int .u8 0, .int .u8 0, .int .u8 0, .int .u8 0, .int .u8 0, .int .u8 0, .int .u8 0, .int .u8 0, .int .u8 0, .int .u8 0, .int .u8 0, .int .u8 0, .int .u8 0, .int .u8 0, .int .u8 0, .int .u8 0, .int .u8 0, .int .u8 0, .int .u8 0, .int .u8 0, .int .u8 0, .int .u8 0, .int .u8 0, .int .u8 0, .int .u8 0, .int .u8 0, .int .u8 0, .int .u8 0, .int .u8 0, .int .u8 0, .int .u8 0, .int .u8 0, .int .u8 0, .int .u8 0]) hsh (of_decide_eq_true (by kernel_rfl)) (by kernel_rfl) (by kernel_rfl) (by kernel_rfl) Tryz.underlying180 Tryz.underlying5 (by kernel_rfl) (by kernel_rfl) (laidMet.tail hL)
    rw [show ([0, 1, 56, 2, 57, 49, 28, 3, 61, 58, 42, 50, 38, 29, 17, 4, 62, 47, 59, 36, 45, 43, 51, 22, 53, 39, 33, 30, 24, 18, 12, 5, 63, 55, 48, 27, 60, 41, 37, 16, 46, 35, 44, 21, 52, 32, 23, 11, 54, 26, 40, 15, 34, 20, 31, 10, 25, 14, 19, 9, 13, 8, 7, 6].map fun z => Value.int .u8 z) = (bJ gX) from by kernel_rfl] at q
    exact q
  have hW' := hW
  obtain ⟨p, q, hA0, hV, rfl, hfz, hnd⟩ := hW
  have hA : DataW.TrodAll enc Tryz.prog W 0 (fun _ => true) true Tryz.f6.params.toList args.toList ds p := hA0
  rw [Tryz.params6] at hA hval
  obtain ⟨v0, vs0, d0, ds0, p0, q0, hargs, rfl, rfl, r0, s0⟩ := trodAll_cons hA
  obtain ⟨v1, vs1, d1, ds1, p1, q1, rfl, rfl, rfl, r1, s1⟩ := trodAll_cons s0
  obtain ⟨rfl, rfl, rfl⟩ := trodAll_nil s1
  obtain rfl : args = #[v0, v1] := by cases args; simp_all
  obtain ⟨n, c0, acW⟩ := ((acU Tryz.underlying5)).arg r0
  obtain ⟨n0, rfl⟩ := okWide_int Tryz.underlying5 (hval 0 5 v0 rfl rfl)
  have e0 := cells_one rfl c0
  clear c0; injection e0 with _ e0; replace e0 := e0.symm; subst e0
  obtain ⟨wide, c1, acE⟩ := ((X9 Tryz.underlying4)).arg r1
  obtain ⟨n1, rfl⟩ := okWide_bool Tryz.underlying4 (hval 1 4 v1 rfl rfl)
  have e1 := cells_one rfl c1
  clear c1; injection e1 with e1; replace e1 := e1.symm; subst e1
  refine ((show HC Tryz.prog 6 _ W.heap (fun u h' => u = .bool true /\ Ext W.heap h') from (Gq (fr := []) n wide _ _ _ _ _ (St.init W.heap) cZ bZ ⟨aP⟩ bY ⟨aQ⟩ bu aW rfl (Q := fun r => r = true) (Ov acW)).mono (fun u h' ⟨F', r, hu, hk, _, _, _, _, _, _, _, _, hr⟩ => ⟨hu.trans (by rw [hr]), hk.ext⟩)) W rfl).mono fun e W' ⟨hk, v, he, hR⟩ => ?_
  obtain ⟨rfl, hE⟩ := hR
  exact ⟨_, he, WG laid reads rfl Tryz.underlying4 rfl (fun ds hd => by
    match ds, hd with
    | [_, _], _ => rfl) hW' (XJ hk hE)⟩
theorem RN : Rows.ScriptLongSaid :=
  OpenClaim.holds_of_wide 6 Tryz.f6 rfl rfl rfl rfl rfl rfl rfl ⟨rfl, rfl, rfl, rfl, rfl⟩ rfl rfl rfl rfl rfl (by kernel_rfl) Tryz.func6 (by kernel_rfl)
    (of_decide_eq_true (by kernel_rfl)) (by unfold Func.isWrapper; first | (rw [if_pos (by decide +kernel)]; kernel_rfl) | (rw [if_neg (by decide +kernel)]; exact ⟨rfl, rfl⟩))
    (fun os started H enc _ => lifted os started H enc)
theorem proved : Rows.ScriptLongCardSaid :=
  Claim7.holds_tied_plain_at .later [] [.data, .data, .data, .data, .sentinel, .sentinel, .pinned] true (true, "1532294930807952740b3131424cad1e1abd99be3d92ac5ebf825d8e213e6079") true
    RN (fun _ h => by cases h) (by kernel_rfl) (fun _ h => by cases h) scriptLong_row_tie rfl ⟨rfl, rfl⟩ (by kernel_rfl) rfl
    (fun f fn hf hfn => by
      obtain rfl : f = 6 := Option.some.inj ((show Tryz.prog.funcNamed "acequia/acequialaw42.ScriptLong" = some 6 by kernel_rfl).symm.trans hf) |>.symm
      obtain rfl : fn = Tryz.f6 := (Option.some.inj (Tryz.func6.symm.trans hfn)).symm
      refine ⟨by kernel_rfl, fun j t ht => ?_⟩
      rw [Tryz.params6] at ht
      have hm := Array.mem_of_getElem? ht
      simp at hm
      rcases hm with rfl | rfl <;> exact (show Tryz.prog.wantsStandIn _ = false by kernel_rfl)) (by kernel_rfl)
end Go.Proofs.YtlnagjjldpgbpaaGreatDoor.scriptLong
