/- ScriptWrites holds at whatever; its card. -/
import Derived.Test.YtlnagjjldpgbpaaGreatDoorRows
import Derived.Test.YtlnagjjldpgbpaaGreatDoorArgs
import Derived.Test.YtlnagjjldpgbpaaGreatDoorArgs3
import Derived.Test.YtlnagjjldpgbpaaGreatDoorScL
import Derived.Test.YtlnagjjldpgbpaaGreatDoorVars
import Derived.WalkKit
import Derived.JoinedOf
import Derived.Handed
import Derived.Test.YtlnagjjldpgbpaaGreatDoorTie
import Derived.Test.YtlnagjjldpgbpaaGreatDoorCards
import Derived.LaidMore
import Derived.OpenShut
import Derived.LaidHandle
import Derived.SevenTiedAt
import Derived.Lay
import Derived.MakeChecks
set_option linter.unusedSimpArgs false
set_option linter.unusedVariables false
set_option linter.unusedSectionVars false
namespace Go.Proofs.YtlnagjjldpgbpaaGreatDoor.scriptWrites
open Go.ChangeShapes Go.WideShapes Go.ChangeAt Go.RowKit Go.HL Go.Wk
theorem own : ownKnob Tryz.prog.godebug = none := by kernel_rfl
theorem laid : laidOutB Tryz.prog = true := by kernel_rfl
theorem reads : ∀ t ∈ Tryz.f5.params.toList, Tryz.prog.readableRec t = true /\ t < Tryz.prog.types.size := by
  rw [Tryz.params5]; intro t ht; simp at ht; rcases ht with rfl | rfl | rfl <;> exact ⟨by kernel_rfl, of_decide_eq_true (by kernel_rfl)⟩
local instance : DM := ⟨false⟩
theorem O5 : Rd Tryz.prog 24 di (fun _ x => (I64 x.1 /\ I64 x.2.1 /\ I64 x.2.2.1 /\ I64 x.2.2.2.1 /\ I64 x.2.2.2.2.1 /\ x.2.2.2.2.2.length <= maxLen)) :=
  Rd.imp (JU Tryz.underlying24 (by kernel_rfl) (Oi.cons (k := 1) rfl (by kernel_rfl) (Yj Tryz.underlying3) (Oi.cons (k := 1) rfl (by kernel_rfl) (Yj Tryz.underlying3) (Oi.cons (k := 1) rfl (by kernel_rfl) (Yj Tryz.underlying3) (Oi.cons (k := 1) rfl (by kernel_rfl) (Yj Tryz.underlying3) (Oi.cons (k := 1) rfl (by kernel_rfl) (Yj Tryz.underlying3) (Oi.cons (k := 1) rfl (by kernel_rfl) (abJ Tryz.underlying9) Oi.nil))))))) (fun p => (p.1, p.2.1, p.2.2.1, p.2.2.2.1, p.2.2.2.2.1, p.2.2.2.2.2.1)) (fun _ => rfl) (fun _ p h => ⟨h.1, h.2.1, h.2.2.1, h.2.2.2.1, h.2.2.2.2.1, h.2.2.2.2.2.1⟩)
theorem GM : Rd Tryz.prog 27 ax (fun _ x => (True /\ True)) :=
  Rd.imp (JU Tryz.underlying27 (by kernel_rfl) (Oi.cons (k := 1) rfl (by kernel_rfl) (VG Tryz.underlying4) (Oi.cons (k := 16) rfl (by kernel_rfl) (ae4 Tryz.underlying25 Tryz.underlying5 (by kernel_rfl) (by kernel_rfl)) Oi.nil))) (fun p => (p.1, p.2.1)) (fun _ => rfl) (fun _ p h => ⟨h.1, h.2.1⟩)
theorem NW : Rd Tryz.prog 30 SH (fun h x => (Qy).q h x) :=
  Rd.imp (JU Tryz.underlying30 (by kernel_rfl) (Oi.cons (k := 1) rfl (by kernel_rfl) (VG Tryz.underlying4) (Oi.cons (k := 1) rfl (by kernel_rfl) (Tu (k := 17) Tryz.underlying28 (by kernel_rfl) (by decide) GM) Oi.nil))) (fun p => (p.1, p.2.1)) (fun _ => rfl) (fun _ p h => h.2.1.1)
theorem MH : Rd Tryz.prog 32 aX (fun h x => (dw).q h x /\ (I64 x.1.1 /\ I64 x.1.2.1 /\ I64 x.1.2.2.1 /\ I64 x.1.2.2.2.1 /\ I64 x.1.2.2.2.2.1 /\ x.1.2.2.2.2.2.length <= maxLen)) :=
  Rd.imp (JU Tryz.underlying32 (by kernel_rfl) (Oi.cons (k := 6) rfl (by kernel_rfl) O5 (Oi.cons (k := 17) rfl (by kernel_rfl) GM (Oi.cons (k := 17) rfl (by kernel_rfl) GM (Oi.cons (k := 2) rfl (by kernel_rfl) NW (Oi.cons (k := 1) rfl (by kernel_rfl) (abJ Tryz.underlying9) Oi.nil)))))) (fun p => (p.1, p.2.1, p.2.2.1, p.2.2.2.1, p.2.2.2.2.1)) (fun _ => rfl) (fun _ p h => ⟨h.2.2.2.1, h.1⟩)
set_option maxRecDepth 100000 in
theorem lifted (os : Os) (started : os.Started) (H : Type) (enc : TypeId × Value -> H) :
    ReturnsInHanded {} Tryz.checked os 5 .any (fun w args => (Rows.scriptWritesSpec.pre enc Tryz.prog Tryz.f5 [] false w args /\ laidMetH Tryz.prog (Rows.scriptWritesRow.laid) w) /\ sizedMet enc Tryz.prog Tryz.f5 (OpenSpec.ofChange Rows.scriptWritesSpec) false w args) (Rows.scriptWritesSpec.post enc Tryz.prog Tryz.f5 false true false false) := by
  refine OX (C := Tryz.checked) (X := fun w _ => laidMetH Tryz.prog (Rows.scriptWritesRow.laid) w) (fun _ _ _ hh h => h.of_heap hh) own started (by kernel_rfl) Tryz.func5
    (ChangeSpec.witness_shaped (enc := enc) (C := Tryz.checked) (os := os) (X := fun w _ => laidMetH Tryz.prog (Rows.scriptWritesRow.laid) w) false (World.laidAll Tryz.prog os Rows.scriptWritesRow.laid) #[.slice none 0 0, .string (bs []), .int .u8 0] 8 (World.laidAll_os _ _ _) (World.shaped_of_ZipB (by kernel_rfl) (by kernel_rfl)) (by kernel_rfl) (by kernel_rfl) (by kernel_rfl) (by rw [MakeChecks.laidMetH_plain _ _ _ (by kernel_rfl)]; exact laidMet_laidAll _ (by kernel_rfl) (by kernel_rfl))) ?_
  intro W base args ds gs before hval hW hX hsh
  have hL : laidMet Tryz.prog (Rows.scriptWritesRow.laid) W := U1 (by kernel_rfl) hX
  obtain ⟨gm, cZ⟩ := aca (k := .i64) (g := 0) (T := 3) (z := #[.int .i64 0]) hsh (of_decide_eq_true (by kernel_rfl)) (by kernel_rfl) rfl (by kernel_rfl) (by kernel_rfl) Tryz.underlying3
  obtain ⟨nC, aP, cu⟩ := YX (g := 3) (T := 93) (z := #[.nilIface]) hsh (of_decide_eq_true (by kernel_rfl)) (by kernel_rfl) (by kernel_rfl) (by kernel_rfl) Tryz.underlying93 (laidMet.tail (laidMet.tail (laidMet.tail (laidMet.tail (laidMet.tail hL)))))
  obtain ⟨nD, aQ, bZ⟩ := YX (g := 4) (T := 93) (z := #[.nilIface]) hsh (of_decide_eq_true (by kernel_rfl)) (by kernel_rfl) (by kernel_rfl) (by kernel_rfl) Tryz.underlying93 (laidMet.tail (laidMet.tail (laidMet.tail (laidMet.tail hL))))
  have bg : fK (Ow.box 5 171 (jY ()).toArray) (J6 W.heap) W.heap := by
    have q := YW (zs := Lib.pow10Tab) (k := .u64) (g := 5) (T := 171) (z := #[.int .u64 0, .int .u64 0, .int .u64 0, .int .u64 0, .int .u64 0, .int .u64 0, .int .u64 0, .int .u64 0, .int .u64 0, .int .u64 0, .int .u64 0, .int .u64 0, .int .u64 0, .int .u64 0, .int .u64 0, .int .u64 0, .int .u64 0, .int .u64 0, .int .u64 0, .int .u64 0]) hsh (of_decide_eq_true (by kernel_rfl)) (by kernel_rfl) (by kernel_rfl) (by kernel_rfl) Tryz.underlying171 Tryz.underlying122 (by kernel_rfl) (by kernel_rfl) (laidMet.tail (laidMet.tail hL))
    rw [show (Lib.pow10Tab.map fun z => Value.int .u64 z) = (jY ()) from by kernel_rfl] at q
    exact q
  have aY : fK (Ow.box 7 180 (bV gW).toArray) (J6 W.heap) W.heap := by
    have q := YW (zs := [0, 1, 56, 2, 57, 49, 28, 3, 61, 58, 42, 50, 38, 29, 17, 4, 62, 47, 59, 36, 45, 43, 51, 22, 53, 39, 33, 30, 24, 18, 12, 5, 63, 55, 48, 27, 60, 41, 37, 16, 46, 35, 44, 21, 52, 32, 23, 11, 54, 26, 40, 15, 34, 20, 31, 10, 25, 14, 19, 9, 13, 8, 7, 6]) (k := .u8) (g := 7) (T := 180) (z := #[.int .u8 0, .int .u8 0, .int .u8 0, .int .u8 0, .int .u8 0, .int .u8 0, .int .u8 0, .int .u8 0, .int .u8 0, .int .u8 0, .int .u8 0, .int .u8 0, .int .u8 0, .int .u8 0, .int .u8 0, .int .u8 0, .int .u8 0, .int .u8 0, .int .u8 0, .int .u8 0, .int .u8 0, .int .u8 0, .int .u8 0, .int .u8 0, .int .u8 0, .int .u8 0, .int .u8 0, .int .u8 0, .int .u8 0, .int .u8 0, .int .u8 0, .int .u8 0, .int .u8 0, .int .u8 0, .int .u8 0, .int .u8 0, .int .u8 0, .int .u8 0, .int .u8 0, .int .u8 0, .int .u8 0, .int .u8 0, .int .u8 0, .int .u8 0, .int .u8 0, .int .u8 0, .int .u8 0, .int .u8 0, .int .u8 0, .int .u8 0, .int .u8 0, .int .u8 0, .int .u8 0, .int .u8 0, .int .u8 0, .int .u8 0, .int .u8 0, .int .u8 0, .int .u8 0, .int .u8 0, .int .u8 0, .int .u8 0, .int .u8 0, .int .u8 0]) hsh (of_decide_eq_true (by kernel_rfl)) (by kernel_rfl) (by kernel_rfl) (by kernel_rfl) Tryz.underlying180 Tryz.underlying5 (by kernel_rfl) (by kernel_rfl) (laidMet.tail hL)
    rw [show ([0, 1, 56, 2, 57, 49, 28, 3, 61, 58, 42, 50, 38, 29, 17, 4, 62, 47, 59, 36, 45, 43, 51, 22, 53, 39, 33, 30, 24, 18, 12, 5, 63, 55, 48, 27, 60, 41, 37, 16, 46, 35, 44, 21, 52, 32, 23, 11, 54, 26, 40, 15, 34, 20, 31, 10, 25, 14, 19, 9, 13, 8, 7, 6].map fun z => Value.int .u8 z) = (bV gW) from by kernel_rfl] at q
    exact q
  have hW' := hW
  obtain ⟨p, q, hA0, hV, rfl, hfz, hnd⟩ := hW
  have hA : DataW.TrodAll enc Tryz.prog W 0 (fun _ => true) true Tryz.f5.params.toList args.toList ds p := hA0
  rw [Tryz.params5] at hA hval
  obtain ⟨v0, vs0, d0, ds0, p0, q0, hargs, rfl, rfl, r0, s0⟩ := trodAll_cons hA
  obtain ⟨v1, vs1, d1, ds1, p1, q1, rfl, rfl, rfl, r1, s1⟩ := trodAll_cons s0
  obtain ⟨v2, vs2, d2, ds2, p2, q2, rfl, rfl, rfl, r2, s2⟩ := trodAll_cons s1
  obtain ⟨rfl, rfl, rfl⟩ := trodAll_nil s2
  obtain rfl : args = #[v0, v1, v2] := by cases args; simp_all
  obtain ⟨⟨vl, l⟩, c0, ⟨afc, adh⟩⟩ := ((Tu (k := 43) Tryz.underlying45 (by kernel_rfl) (by decide) MH)).arg r0
  obtain ⟨a0, l0, k0, rfl⟩ := okWide_slice Tryz.underlying45 (hval 0 45 v0 rfl rfl)
  have e0 := cells_one rfl c0
  clear c0; subst e0
  obtain ⟨other, c1, adg⟩ := ((abJ Tryz.underlying9)).arg r1
  obtain ⟨n1, rfl⟩ := okWide_string Tryz.underlying9 (hval 1 9 v1 rfl rfl)
  have e1 := cells_one rfl c1
  clear c1; injection e1 with e1; replace e1 := e1.symm; subst e1
  obtain ⟨lJ, c2, abR⟩ := ((ae3 Tryz.underlying5)).arg r2
  obtain ⟨n2, rfl⟩ := okWide_int Tryz.underlying5 (hval 2 5 v2 rfl rfl)
  have e2 := cells_one rfl c2
  clear c2; injection e2 with _ e2; replace e2 := e2.symm; subst e2
  refine ((show HC Tryz.prog 5 _ W.heap (fun u h' => u = .bool true /\ Ext W.heap h') from (Ht (fr := []) l other lJ _ _ _ _ _ _ (St.init W.heap) (tq.init ⟨fun x hx => (adh x hx).1⟩) (bC.init afc) cZ cu ⟨aP⟩ bZ ⟨aQ⟩ bg aY rfl (Q := fun r => r = true) (NQ (fun p hp => (adh p hp).2) abR)).mono (fun u h' ⟨F', r, hu, hk, _, _, _, _, _, _, _, _, _, _, hr⟩ => ⟨hu.trans (by rw [hr]), hk.ext⟩)) W rfl).mono fun e W' ⟨hk, v, he, hR⟩ => ?_
  obtain ⟨rfl, hE⟩ := hR
  exact ⟨_, he, YK laid reads rfl Tryz.underlying4 rfl (fun ds hd => by
    match ds, hd with
    | [_, _, _], _ => rfl) hW' (ZB hk hE)⟩
theorem UD : Rows.ScriptWritesSaid :=
  OpenClaim.holds_of_wide 5 Tryz.f5 rfl rfl rfl rfl rfl rfl rfl ⟨rfl, rfl, rfl, rfl, rfl⟩ rfl rfl rfl rfl rfl (by kernel_rfl) Tryz.func5 (by kernel_rfl)
    (of_decide_eq_true (by kernel_rfl)) (by unfold Func.isWrapper; first | (rw [if_pos (by decide +kernel)]; kernel_rfl) | (rw [if_neg (by decide +kernel)]; exact ⟨rfl, rfl⟩))
    (fun os started H enc _ => lifted os started H enc)
theorem proved : Rows.ScriptWritesCardSaid :=
  Claim7.holds_tied_plain_at .later [] [.data, .data, .data, .data, .sentinel, .sentinel, .pinned] true (true, "1532294930807952740b3131424cad1e1abd99be3d92ac5ebf825d8e213e6079") true
    UD (fun _ h => by cases h) (by kernel_rfl) (fun _ h => by cases h) scriptWrites_row_tie rfl ⟨rfl, rfl⟩ (by kernel_rfl) rfl
    (fun f fn hf hfn => by
      obtain rfl : f = 5 := Option.some.inj ((show Tryz.prog.funcNamed "acequia/acequialaw42.ScriptWrites" = some 5 by kernel_rfl).symm.trans hf) |>.symm
      obtain rfl : fn = Tryz.f5 := (Option.some.inj (Tryz.func5.symm.trans hfn)).symm
      refine ⟨by kernel_rfl, fun j t ht => ?_⟩
      rw [Tryz.params5] at ht
      have hm := Array.mem_of_getElem? ht
      simp at hm
      rcases hm with rfl | rfl | rfl <;> exact (show Tryz.prog.wantsStandIn _ = false by kernel_rfl)) (by kernel_rfl)
end Go.Proofs.YtlnagjjldpgbpaaGreatDoor.scriptWrites
