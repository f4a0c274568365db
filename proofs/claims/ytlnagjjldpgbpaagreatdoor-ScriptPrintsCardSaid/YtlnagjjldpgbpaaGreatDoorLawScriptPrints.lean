/- ScriptPrints holds at whatever; its card. -/
import Derived.Test.YtlnagjjldpgbpaaGreatDoorRows
import Derived.Test.YtlnagjjldpgbpaaGreatDoorArgs
import Derived.Test.YtlnagjjldpgbpaaGreatDoorArgs3
import Derived.Test.YtlnagjjldpgbpaaGreatDoorScI
import Derived.Test.YtlnagjjldpgbpaaGreatDoorVars
import Derived.WalkKit
import Derived.JoinedOf
import Derived.Handed
import Derived.Test.YtlnagjjldpgbpaaGreatDoorTie
import Derived.Test.YtlnagjjldpgbpaaGreatDoorCards
import Derived.LaidMore
import Derived.OpenShut
import Derived.LaidHandle
import Derived.SevenTiedAt
import Derived.Lay
import Derived.MakeChecks
set_option linter.unusedSimpArgs false
set_option linter.unusedVariables false
set_option linter.unusedSectionVars false
namespace Go.Proofs.YtlnagjjldpgbpaaGreatDoor.scriptPrints
open Go.ChangeShapes Go.WideShapes Go.ChangeAt Go.RowKit Go.HL Go.Wk
theorem own : ownKnob Tryz.prog.godebug = none := by kernel_rfl
theorem laid : laidOutB Tryz.prog = true := by kernel_rfl
theorem reads : ∀ t ∈ Tryz.f4.params.toList, Tryz.prog.readableRec t = true /\ t < Tryz.prog.types.size := by
  rw [Tryz.params4]; intro t ht; simp at ht; rcases ht with rfl | rfl <;> exact ⟨by kernel_rfl, of_decide_eq_true (by kernel_rfl)⟩
local instance : DM := ⟨false⟩
theorem xm : Rd Tryz.prog 27 aj (fun _ x => (True /\ True)) :=
  Rd.imp (EO Tryz.underlying27 (by kernel_rfl) (Jy.cons (k := 1) rfl (by kernel_rfl) (QN Tryz.underlying4) (Jy.cons (k := 16) rfl (by kernel_rfl) (afc Tryz.underlying25 Tryz.underlying5 (by kernel_rfl) (by kernel_rfl)) Jy.nil))) (fun p => (p.1, p.2.1)) (fun _ => rfl) (fun _ p h => ⟨h.1, h.2.1⟩)
theorem IW : Rd Tryz.prog 24 bP (fun _ x => (I64 x.1 /\ I64 x.2.1 /\ I64 x.2.2.1 /\ I64 x.2.2.2.1 /\ I64 x.2.2.2.2.1 /\ x.2.2.2.2.2.length <= maxLen)) :=
  Rd.imp (EO Tryz.underlying24 (by kernel_rfl) (Jy.cons (k := 1) rfl (by kernel_rfl) (XF Tryz.underlying3) (Jy.cons (k := 1) rfl (by kernel_rfl) (XF Tryz.underlying3) (Jy.cons (k := 1) rfl (by kernel_rfl) (XF Tryz.underlying3) (Jy.cons (k := 1) rfl (by kernel_rfl) (XF Tryz.underlying3) (Jy.cons (k := 1) rfl (by kernel_rfl) (XF Tryz.underlying3) (Jy.cons (k := 1) rfl (by kernel_rfl) (abG Tryz.underlying9) Jy.nil))))))) (fun p => (p.1, p.2.1, p.2.2.1, p.2.2.2.1, p.2.2.2.2.1, p.2.2.2.2.2.1)) (fun _ => rfl) (fun _ p h => ⟨h.1, h.2.1, h.2.2.1, h.2.2.2.1, h.2.2.2.2.1, h.2.2.2.2.2.1⟩)
set_option maxRecDepth 100000 in
theorem lifted (os : Os) (started : os.Started) (H : Type) (enc : TypeId × Value -> H) :
    ReturnsInHanded {} Tryz.checked os 4 .any (fun w args => (Rows.scriptPrintsSpec.pre enc Tryz.prog Tryz.f4 [] false w args /\ laidMetH Tryz.prog (Rows.scriptPrintsRow.laid) w) /\ sizedMet enc Tryz.prog Tryz.f4 (OpenSpec.ofChange Rows.scriptPrintsSpec) false w args) (Rows.scriptPrintsSpec.post enc Tryz.prog Tryz.f4 false true false false) := by
  refine N7 (C := Tryz.checked) (X := fun w _ => laidMetH Tryz.prog (Rows.scriptPrintsRow.laid) w) (fun _ _ _ hh h => h.of_heap hh) own started (by kernel_rfl) Tryz.func4
    (ChangeSpec.witness_shaped (enc := enc) (C := Tryz.checked) (os := os) (X := fun w _ => laidMetH Tryz.prog (Rows.scriptPrintsRow.laid) w) false (World.laidAll Tryz.prog os Rows.scriptPrintsRow.laid) #[.agg #[.int .i64 0, .int .i64 0, .int .i64 0, .int .i64 0, .int .i64 0, .string (bs []), .bool false, .int .u8 0, .int .u8 0, .int .u8 0, .int .u8 0, .int .u8 0, .int .u8 0, .int .u8 0, .int .u8 0, .int .u8 0, .int .u8 0, .int .u8 0, .int .u8 0, .int .u8 0, .int .u8 0, .int .u8 0, .int .u8 0, .bool false, .int .u8 0, .int .u8 0, .int .u8 0, .int .u8 0, .int .u8 0, .int .u8 0, .int .u8 0, .int .u8 0, .int .u8 0, .int .u8 0, .int .u8 0, .int .u8 0, .int .u8 0, .int .u8 0, .int .u8 0, .int .u8 0, .bool false, .slice none 0 0, .string (bs [])], .agg #[.int .i64 0, .int .i64 0, .int .i64 0, .int .i64 0, .int .i64 0, .string (bs []), .bool false, .int .u8 0, .int .u8 0, .int .u8 0, .int .u8 0, .int .u8 0, .int .u8 0, .int .u8 0, .int .u8 0, .int .u8 0, .int .u8 0, .int .u8 0, .int .u8 0, .int .u8 0, .int .u8 0, .int .u8 0, .int .u8 0, .bool false, .int .u8 0, .int .u8 0, .int .u8 0, .int .u8 0, .int .u8 0, .int .u8 0, .int .u8 0, .int .u8 0, .int .u8 0, .int .u8 0, .int .u8 0, .int .u8 0, .int .u8 0, .int .u8 0, .int .u8 0, .int .u8 0, .bool false, .slice none 0 0, .string (bs [])]] 8 (World.laidAll_os _ _ _) (World.shaped_of_ZipB (by kernel_rfl) (by kernel_rfl)) (by kernel_rfl) (by kernel_rfl) (by kernel_rfl) (by rw [MakeChecks.laidMetH_plain _ _ _ (by kernel_rfl)]; exact laidMet_laidAll _ (by kernel_rfl) (by kernel_rfl))) ?_
  intro W base args ds gs before hval hW hX hsh
  have hL : laidMet Tryz.prog (Rows.scriptPrintsRow.laid) W := UA (by kernel_rfl) hX
  obtain ⟨gm, df⟩ := ab7 (k := .i64) (g := 0) (T := 3) (z := #[.int .i64 0]) hsh (of_decide_eq_true (by kernel_rfl)) (by kernel_rfl) rfl (by kernel_rfl) (by kernel_rfl) Tryz.underlying3
  obtain ⟨qK, aQ, cu⟩ := YN (g := 3) (T := 93) (z := #[.nilIface]) hsh (of_decide_eq_true (by kernel_rfl)) (by kernel_rfl) (by kernel_rfl) (by kernel_rfl) Tryz.underlying93 (laidMet.tail (laidMet.tail (laidMet.tail (laidMet.tail (laidMet.tail hL)))))
  obtain ⟨qL, aS, bZ⟩ := YN (g := 4) (T := 93) (z := #[.nilIface]) hsh (of_decide_eq_true (by kernel_rfl)) (by kernel_rfl) (by kernel_rfl) (by kernel_rfl) Tryz.underlying93 (laidMet.tail (laidMet.tail (laidMet.tail (laidMet.tail hL))))
  have bz : iO (Ow.box 5 171 (l7 ()).toArray) (JC W.heap) W.heap := by
    have q := YM (zs := Lib.pow10Tab) (k := .u64) (g := 5) (T := 171) (z := #[.int .u64 0, .int .u64 0, .int .u64 0, .int .u64 0, .int .u64 0, .int .u64 0, .int .u64 0, .int .u64 0, .int .u64 0, .int .u64 0, .int .u64 0, .int .u64 0, .int .u64 0, .int .u64 0, .int .u64 0, .int .u64 0, .int .u64 0, .int .u64 0, .int .u64 0, .int .u64 0]) hsh (of_decide_eq_true (by kernel_rfl)) (by kernel_rfl) (by kernel_rfl) (by kernel_rfl) Tryz.underlying171 Tryz.underlying122 (by kernel_rfl) (by kernel_rfl) (laidMet.tail (laidMet.tail hL))
    rw [show (Lib.pow10Tab.map fun z => Value.int .u64 z) = (l7 ()) from by kernel_rfl] at q
    exact q
  have aY : iO (Ow.box 7 180 (bM je).toArray) (JC W.heap) W.heap := by
    have q := YM (zs := [0, 1, 56, 2, 57, 49, 28, 3, 61, 58, 42, 50, 38, 29, 17, 4, 62, 47, 59, 36, 45, 43, 51, 22, 53, 39, 33, 30, 24, 18, 12, 5, 63, 55, 48, 27, 60, 41, 37, 16, 46, 35, 44, 21, 52, 32, 23, 11, 54, 26, 40, 15, 34, 20, 31, 10, 25, 14, 19, 9, 13, 8, 7, 6]) (k := .u8) (g := 7) (T := 180) (z := #[.int .u8 0, .int .u8 0, .int .u8 0, .int .u8 0, .int .u8 0, .int .u8 0, .int .u8 0, .int .u8 0, .int .u8 0, .int .u8 0, .int .u8 0, .int .u8 0, .int .u8 0, .int .u8 0, .int .u8 0, .int .u8 0, .int .u8 0, .int .u8 0, .int .u8 0, .int .u8 0, .int .u8 0, .int .u8 0, .int .u8 0, .int .u8 0, .int .u8 0, .int .u8 0, .int .u8 0, .int .u8 0, .int .u8 0, .int .u8 0, .int .u8 0, .int .u8 0, .int .u8 0, .int .u8 0, .int .u8 0, .int .u8 0, .int .u8 0, .int .u8 0, .int .u8 0, .int .u8 0, .int .u8 0, .int .u8 0, .int .u8 0, .int .u8 0, .int .u8 0, .int .u8 0, .int .u8 0, .int .u8 0, .int .u8 0, .int .u8 0, .int .u8 0, .int .u8 0, .int .u8 0, .int .u8 0, .int .u8 0, .int .u8 0, .int .u8 0, .int .u8 0, .int .u8 0, .int .u8 0, .int .u8 0, .int .u8 0, .int .u8 0, .int .u8 0]) hsh (of_decide_eq_true (by kernel_rfl)) (by kernel_rfl) (by kernel_rfl) (by kernel_rfl) Tryz.underlying180 Tryz.underlying5 (by kernel_rfl) (by kernel_rfl) (laidMet.tail hL)
    rw [show ([0, 1, 56, 2, 57, 49, 28, 3, 61, 58, 42, 50, 38, 29, 17, 4, 62, 47, 59, 36, 45, 43, 51, 22, 53, 39, 33, 30, 24, 18, 12, 5, 63, 55, 48, 27, 60, 41, 37, 16, 46, 35, 44, 21, 52, 32, 23, 11, 54, 26, 40, 15, 34, 20, 31, 10, 25, 14, 19, 9, 13, 8, 7, 6].map fun z => Value.int .u8 z) = (bM je) from by kernel_rfl] at q
    exact q
  have hW' := hW
  obtain ⟨p, q, hA0, hV, rfl, hfz, hnd⟩ := hW
  have hA : DataW.TrodAll enc Tryz.prog W 0 (fun _ => true) true Tryz.f4.params.toList args.toList ds p := hA0
  rw [Tryz.params4] at hA hval
  obtain ⟨v0, vs0, d0, ds0, p0, q0, hargs, rfl, rfl, r0, s0⟩ := trodAll_cons hA
  obtain ⟨v1, vs1, d1, ds1, p1, q1, rfl, rfl, rfl, r1, s1⟩ := trodAll_cons s0
  obtain ⟨rfl, rfl, rfl⟩ := trodAll_nil s1
  obtain rfl : args = #[v0, v1] := by cases args; simp_all
  obtain ⟨⟨ag, aB, aA, ⟨ah, ⟨au, ay⟩, _⟩, aJ, _⟩, c0, ⟨Uw, abP, aaK, ⟨Tu, ⟨JB, Tt⟩, _⟩, acW, _⟩⟩ := ((EO Tryz.underlying32 (by kernel_rfl) (Jy.cons (k := 6) rfl (by kernel_rfl) IW (Jy.cons (k := 17) rfl (by kernel_rfl) xm (Jy.cons (k := 17) rfl (by kernel_rfl) xm (Jy.cons (k := 2) rfl (by kernel_rfl) (EO Tryz.underlying30 (by kernel_rfl) (Jy.cons (k := 1) rfl (by kernel_rfl) (QN Tryz.underlying4) (Jy.cons (k := 1) rfl (by kernel_rfl) (RP (k := 17) Tryz.underlying28 (by kernel_rfl) (by decide) xm) Jy.nil))) (Jy.cons (k := 1) rfl (by kernel_rfl) (abG Tryz.underlying9) Jy.nil))))))).arg r0
  obtain ⟨xs0, rfl, _⟩ := okWide_struct Tryz.underlying32 (hval 0 32 v0 rfl rfl)
  obtain rfl : xs0 = #[.int .i64 ag.1, .int .i64 ag.2.1, .int .i64 ag.2.2.1, .int .i64 ag.2.2.2.1, .int .i64 ag.2.2.2.2.1, .string (bs ag.2.2.2.2.2), .bool aB.1, .int .u8 (b8 aB.2 0), .int .u8 (b8 aB.2 1), .int .u8 (b8 aB.2 2), .int .u8 (b8 aB.2 3), .int .u8 (b8 aB.2 4), .int .u8 (b8 aB.2 5), .int .u8 (b8 aB.2 6), .int .u8 (b8 aB.2 7), .int .u8 (b8 aB.2 8), .int .u8 (b8 aB.2 9), .int .u8 (b8 aB.2 10), .int .u8 (b8 aB.2 11), .int .u8 (b8 aB.2 12), .int .u8 (b8 aB.2 13), .int .u8 (b8 aB.2 14), .int .u8 (b8 aB.2 15), .bool aA.1, .int .u8 (b8 aA.2 0), .int .u8 (b8 aA.2 1), .int .u8 (b8 aA.2 2), .int .u8 (b8 aA.2 3), .int .u8 (b8 aA.2 4), .int .u8 (b8 aA.2 5), .int .u8 (b8 aA.2 6), .int .u8 (b8 aA.2 7), .int .u8 (b8 aA.2 8), .int .u8 (b8 aA.2 9), .int .u8 (b8 aA.2 10), .int .u8 (b8 aA.2 11), .int .u8 (b8 aA.2 12), .int .u8 (b8 aA.2 13), .int .u8 (b8 aA.2 14), .int .u8 (b8 aA.2 15), .bool ah, au, .string (bs aJ)] := Array.toList_inj.1 (c0)
  obtain ⟨⟨rf, kX, jR, ⟨jg, ⟨iV, lL⟩, _⟩, Az, _⟩, c1, ⟨Uu, abO, aaJ, ⟨Tq, ⟨JA, Tn⟩, _⟩, acV, _⟩⟩ := ((EO Tryz.underlying32 (by kernel_rfl) (Jy.cons (k := 6) rfl (by kernel_rfl) IW (Jy.cons (k := 17) rfl (by kernel_rfl) xm (Jy.cons (k := 17) rfl (by kernel_rfl) xm (Jy.cons (k := 2) rfl (by kernel_rfl) (EO Tryz.underlying30 (by kernel_rfl) (Jy.cons (k := 1) rfl (by kernel_rfl) (QN Tryz.underlying4) (Jy.cons (k := 1) rfl (by kernel_rfl) (RP (k := 17) Tryz.underlying28 (by kernel_rfl) (by decide) xm) Jy.nil))) (Jy.cons (k := 1) rfl (by kernel_rfl) (abG Tryz.underlying9) Jy.nil))))))).arg r1
  obtain ⟨xs1, rfl, _⟩ := okWide_struct Tryz.underlying32 (hval 1 32 v1 rfl rfl)
  obtain rfl : xs1 = #[.int .i64 rf.1, .int .i64 rf.2.1, .int .i64 rf.2.2.1, .int .i64 rf.2.2.2.1, .int .i64 rf.2.2.2.2.1, .string (bs rf.2.2.2.2.2), .bool kX.1, .int .u8 (b8 kX.2 0), .int .u8 (b8 kX.2 1), .int .u8 (b8 kX.2 2), .int .u8 (b8 kX.2 3), .int .u8 (b8 kX.2 4), .int .u8 (b8 kX.2 5), .int .u8 (b8 kX.2 6), .int .u8 (b8 kX.2 7), .int .u8 (b8 kX.2 8), .int .u8 (b8 kX.2 9), .int .u8 (b8 kX.2 10), .int .u8 (b8 kX.2 11), .int .u8 (b8 kX.2 12), .int .u8 (b8 kX.2 13), .int .u8 (b8 kX.2 14), .int .u8 (b8 kX.2 15), .bool jR.1, .int .u8 (b8 jR.2 0), .int .u8 (b8 jR.2 1), .int .u8 (b8 jR.2 2), .int .u8 (b8 jR.2 3), .int .u8 (b8 jR.2 4), .int .u8 (b8 jR.2 5), .int .u8 (b8 jR.2 6), .int .u8 (b8 jR.2 7), .int .u8 (b8 jR.2 8), .int .u8 (b8 jR.2 9), .int .u8 (b8 jR.2 10), .int .u8 (b8 jR.2 11), .int .u8 (b8 jR.2 12), .int .u8 (b8 jR.2 13), .int .u8 (b8 jR.2 14), .int .u8 (b8 jR.2 15), .bool jg, iV, .string (bs Az)] := Array.toList_inj.1 (c1)
  refine ((show HC Tryz.prog 4 _ W.heap (fun u h' => u = .bool true /\ Ext W.heap h') from (GN (fr := []) ag aB aA ah ay aJ rf kX jR jg lL Az _ _ _ _ _ _ _ (St.init W.heap) (bf.init JB) (bf.init JA) df cu ⟨aQ⟩ bZ ⟨aS⟩ bz aY rfl (Q := fun r => r = true) (MN Uw Uu)).mono (fun u h' ⟨F', r, hu, hk, _, _, _, _, _, _, _, _, _, _, hr⟩ => ⟨hu.trans (by rw [hr]), hk.ext⟩)) W rfl).mono fun e W' ⟨hk, v, he, hR⟩ => ?_
  obtain ⟨rfl, hE⟩ := hR
  exact ⟨_, he, Yx laid reads rfl Tryz.underlying4 rfl (fun ds hd => by
    match ds, hd with
    | [_, _], _ => rfl) hW' (Zr hk hE)⟩
theorem TN : Rows.ScriptPrintsSaid :=
  OpenClaim.holds_of_wide 4 Tryz.f4 rfl rfl rfl rfl rfl rfl rfl ⟨rfl, rfl, rfl, rfl, rfl⟩ rfl rfl rfl rfl rfl (by kernel_rfl) Tryz.func4 (by kernel_rfl)
    (of_decide_eq_true (by kernel_rfl)) (by unfold Func.isWrapper; first | (rw [if_pos (by decide +kernel)]; kernel_rfl) | (rw [if_neg (by decide +kernel)]; exact ⟨rfl, rfl⟩))
    (fun os started H enc _ => lifted os started H enc)
theorem proved : Rows.ScriptPrintsCardSaid :=
  Claim7.holds_tied_plain_at .later [] [.data, .data, .data, .data, .sentinel, .sentinel, .pinned] true (true, "1532294930807952740b3131424cad1e1abd99be3d92ac5ebf825d8e213e6079") true
    TN (fun _ h => by cases h) (by kernel_rfl) (fun _ h => by cases h) scriptPrints_row_tie rfl ⟨rfl, rfl⟩ (by kernel_rfl) rfl
    (fun f fn hf hfn => by
      obtain rfl : f = 4 := Option.some.inj ((show Tryz.prog.funcNamed "acequia/acequialaw42.ScriptPrints" = some 4 by kernel_rfl).symm.trans hf) |>.symm
      obtain rfl : fn = Tryz.f4 := (Option.some.inj (Tryz.func4.symm.trans hfn)).symm
      refine ⟨by kernel_rfl, fun j t ht => ?_⟩
      rw [Tryz.params4] at ht
      have hm := Array.mem_of_getElem? ht
      simp at hm
      rcases hm with rfl | rfl <;> exact (show Tryz.prog.wantsStandIn _ = false by kernel_rfl)) (by kernel_rfl)
end Go.Proofs.YtlnagjjldpgbpaaGreatDoor.scriptPrints
