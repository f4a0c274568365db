/- MergeTexts holds at whatever; its card. -/
import Derived.Test.YtlhcpndehikneaaGreatDoorRows
import Derived.Test.YtlhcpndehikneaaGreatDoorArgs
import Derived.Test.YtlhcpndehikneaaGreatDoorArgs3
import Derived.Test.YtlhcpndehikneaaGreatDoorSxmM
import Derived.Test.YtlhcpndehikneaaGreatDoorVars
import Derived.WalkKit
import Derived.JoinedOf
import Derived.Handed
import Derived.Test.YtlhcpndehikneaaGreatDoorTie
import Derived.Test.YtlhcpndehikneaaGreatDoorCards
import Derived.LaidMore
import Derived.OpenShut
import Derived.LaidHandle
import Derived.SevenTiedAt
import Derived.Lay
import Derived.MakeChecks
set_option linter.unusedSimpArgs false
set_option linter.unusedVariables false
set_option linter.unusedSectionVars false
namespace Go.Proofs.YtlhcpndehikneaaGreatDoor.mergeTexts
open Go.ChangeShapes Go.WideShapes Go.ChangeAt Go.RowKit Go.HL Go.Wk
theorem own : ownKnob Tryz.prog.godebug = none := by kernel_rfl
theorem laid : laidOutB Tryz.prog = true := by kernel_rfl
theorem reads : ∀ t ∈ Tryz.f4.params.toList, Tryz.prog.readableRec t = true ∧ t < Tryz.prog.types.size := by
  rw [Tryz.params4]; intro t ht; simp at ht; rcases ht with rfl | rfl <;> exact ⟨by kernel_rfl, of_decide_eq_true (by kernel_rfl)⟩
local instance : DM := ⟨false⟩
theorem rd_e_api_Addr : Rd Tryz.prog 44 e_api_Addr (fun _ x => (True ∧ True)) :=
  Rd.imp (rd_struct Tryz.underlying44 (by kernel_rfl) (RdF.cons (k := 1) rfl (by kernel_rfl) (rd_bool Tryz.underlying4) (RdF.cons (k := 16) rfl (by kernel_rfl) (rd_B Tryz.underlying42 Tryz.underlying5 (by kernel_rfl) (by kernel_rfl)) RdF.nil))) (fun p => (p.1, p.2.1)) (fun _ => rfl) (fun _ p h => ⟨h.1, h.2.1⟩)
set_option maxRecDepth 100000 in
theorem lifted (os : Os) (started : os.Started) (H : Type) (enc : TypeId × Value → H) :
    ReturnsInHanded {} Tryz.checked os 4 .any (fun w args => (Rows.mergeTextsSpec.pre enc Tryz.prog Tryz.f4 [] false w args ∧ laidMetH Tryz.prog (Rows.mergeTextsRow.laid) w) ∧ sizedMet enc Tryz.prog Tryz.f4 (OpenSpec.ofChange Rows.mergeTextsSpec) false w args) (Rows.mergeTextsSpec.post enc Tryz.prog Tryz.f4 false true false false) := by
  refine returns_shaped (C := Tryz.checked) (X := fun w _ => laidMetH Tryz.prog (Rows.mergeTextsRow.laid) w) (fun _ _ _ hh h => h.of_heap hh) own started (by kernel_rfl) Tryz.func4
    (ChangeSpec.witness_shaped (enc := enc) (C := Tryz.checked) (os := os) (X := fun w _ => laidMetH Tryz.prog (Rows.mergeTextsRow.laid) w) false (World.laidAll Tryz.prog os Rows.mergeTextsRow.laid) #[.agg #[.bool false, .slice none 0 0], .string (bs [])] 8 (World.laidAll_os _ _ _) (World.shaped_of_ZipB (by kernel_rfl) (by kernel_rfl)) (by kernel_rfl) (by kernel_rfl) (by kernel_rfl) (by rw [MakeChecks.laidMetH_plain _ _ _ (by kernel_rfl)]; exact laidMet_laidAll _ (by kernel_rfl) (by kernel_rfl))) ?_
  intro W base args ds gs before hval hW hX hsh
  have hL : laidMet Tryz.prog (Rows.mergeTextsRow.laid) W := laid_plain (by kernel_rfl) hX
  obtain ⟨gm, hG_0⟩ := gl_int (k := .i64) (g := 0) (T := 3) (z := #[.int .i64 0]) hsh (of_decide_eq_true (by kernel_rfl)) (by kernel_rfl) rfl (by kernel_rfl) (by kernel_rfl) Tryz.underlying3
  obtain ⟨gvS, hE_gvS, hG_3⟩ := gl_err (g := 3) (T := 75) (z := #[.nilIface]) hsh (of_decide_eq_true (by kernel_rfl)) (by kernel_rfl) (by kernel_rfl) (by kernel_rfl) Tryz.underlying75 (laidMet.tail (laidMet.tail (laidMet.tail (laidMet.tail (laidMet.tail hL)))))
  obtain ⟨gvR, hE_gvR, hG_4⟩ := gl_err (g := 4) (T := 75) (z := #[.nilIface]) hsh (of_decide_eq_true (by kernel_rfl)) (by kernel_rfl) (by kernel_rfl) (by kernel_rfl) Tryz.underlying75 (laidMet.tail (laidMet.tail (laidMet.tail (laidMet.tail hL))))
  have hG_5 : RoF (Ow.box 5 160 (tab10 ()).toArray) (allF W.heap) W.heap := by
    have q := gl_tab (zs := Lib.pow10Tab) (k := .u64) (g := 5) (T := 160) (z := #[.int .u64 0, .int .u64 0, .int .u64 0, .int .u64 0, .int .u64 0, .int .u64 0, .int .u64 0, .int .u64 0, .int .u64 0, .int .u64 0, .int .u64 0, .int .u64 0, .int .u64 0, .int .u64 0, .int .u64 0, .int .u64 0, .int .u64 0, .int .u64 0, .int .u64 0, .int .u64 0]) hsh (of_decide_eq_true (by kernel_rfl)) (by kernel_rfl) (by kernel_rfl) (by kernel_rfl) Tryz.underlying160 Tryz.underlying73 (by kernel_rfl) (by kernel_rfl) (laidMet.tail (laidMet.tail hL))
    rw [show (Lib.pow10Tab.map fun z => Value.int .u64 z) = (tab10 ()) from by kernel_rfl] at q
    exact q
  have hG_7 : RoF (Ow.box 7 164 (arrCells tab64).toArray) (allF W.heap) W.heap := by
    have q := gl_tab (zs := [0, 1, 56, 2, 57, 49, 28, 3, 61, 58, 42, 50, 38, 29, 17, 4, 62, 47, 59, 36, 45, 43, 51, 22, 53, 39, 33, 30, 24, 18, 12, 5, 63, 55, 48, 27, 60, 41, 37, 16, 46, 35, 44, 21, 52, 32, 23, 11, 54, 26, 40, 15, 34, 20, 31, 10, 25, 14, 19, 9, 13, 8, 7, 6]) (k := .u8) (g := 7) (T := 164) (z := #[.int .u8 0, .int .u8 0, .int .u8 0, .int .u8 0, .int .u8 0, .int .u8 0, .int .u8 0, .int .u8 0, .int .u8 0, .int .u8 0, .int .u8 0, .int .u8 0, .int .u8 0, .int .u8 0, .int .u8 0, .int .u8 0, .int .u8 0, .int .u8 0, .int .u8 0, .int .u8 0, .int .u8 0, .int .u8 0, .int .u8 0, .int .u8 0, .int .u8 0, .int .u8 0, .int .u8 0, .int .u8 0, .int .u8 0, .int .u8 0, .int .u8 0, .int .u8 0, .int .u8 0, .int .u8 0, .int .u8 0, .int .u8 0, .int .u8 0, .int .u8 0, .int .u8 0, .int .u8 0, .int .u8 0, .int .u8 0, .int .u8 0, .int .u8 0, .int .u8 0, .int .u8 0, .int .u8 0, .int .u8 0, .int .u8 0, .int .u8 0, .int .u8 0, .int .u8 0, .int .u8 0, .int .u8 0, .int .u8 0, .int .u8 0, .int .u8 0, .int .u8 0, .int .u8 0, .int .u8 0, .int .u8 0, .int .u8 0, .int .u8 0, .int .u8 0]) hsh (of_decide_eq_true (by kernel_rfl)) (by kernel_rfl) (by kernel_rfl) (by kernel_rfl) Tryz.underlying164 Tryz.underlying5 (by kernel_rfl) (by kernel_rfl) (laidMet.tail hL)
    rw [show ([0, 1, 56, 2, 57, 49, 28, 3, 61, 58, 42, 50, 38, 29, 17, 4, 62, 47, 59, 36, 45, 43, 51, 22, 53, 39, 33, 30, 24, 18, 12, 5, 63, 55, 48, 27, 60, 41, 37, 16, 46, 35, 44, 21, 52, 32, 23, 11, 54, 26, 40, 15, 34, 20, 31, 10, 25, 14, 19, 9, 13, 8, 7, 6].map fun z => Value.int .u8 z) = (arrCells tab64) from by kernel_rfl] at q
    exact q
  have hW' := hW
  obtain ⟨p, q, hA0, hV, rfl, hfz, hnd⟩ := hW
  have hA : DataW.TrodAll enc Tryz.prog W 0 (fun _ => true) true Tryz.f4.params.toList args.toList ds p := hA0
  rw [Tryz.params4] at hA hval
  obtain ⟨v0, vs0, d0, ds0, p0, q0, hargs, rfl, rfl, r0, s0⟩ := trodAll_cons hA
  obtain ⟨v1, vs1, d1, ds1, p1, q1, rfl, rfl, rfl, r1, s1⟩ := trodAll_cons s0
  obtain ⟨rfl, rfl, rfl⟩ := trodAll_nil s1
  obtain rfl : args = #[v0, v1] := by cases args; simp_all
  obtain ⟨⟨f_Exclude, ⟨vf_Sources, f_Sources⟩, _⟩, c0, ⟨ok_f_Exclude, ⟨hs_f_Sources, ok_f_Sources⟩, _⟩⟩ := ((rd_struct Tryz.underlying34 (by kernel_rfl) (RdF.cons (k := 1) rfl (by kernel_rfl) (rd_bool Tryz.underlying4) (RdF.cons (k := 1) rfl (by kernel_rfl) (rd_slice (k := 17) Tryz.underlying22 (by kernel_rfl) (by decide) rd_e_api_Addr) RdF.nil)))).arg r0
  obtain ⟨xs0, rfl, _⟩ := okWide_struct Tryz.underlying34 (hval 0 34 v0 rfl rfl)
  obtain rfl : xs0 = #[.bool f_Exclude, vf_Sources] := Array.toList_inj.1 (c0)
  obtain ⟨s1, c1, ok_s1⟩ := ((rd_T Tryz.underlying9)).arg r1
  obtain ⟨n1, rfl⟩ := okWide_string Tryz.underlying9 (hval 1 9 v1 rfl rfl)
  have e1 := cells_one rfl c1
  clear c1; injection e1 with e1; replace e1 := e1.symm; subst e1
  refine ((show HC Tryz.prog 4 _ W.heap (fun u h' => u = .bool true ∧ Ext W.heap h') from (law19_MergeTexts_walk (fr := []) f_Exclude f_Sources s1 _ _ _ _ _ _ (St.init W.heap) (SliceF.init hs_f_Sources) hG_0 hG_3 ⟨hE_gvS⟩ hG_4 ⟨hE_gvR⟩ hG_5 hG_7 rfl (Q := fun r => r = true) (mergeTexts_ok rfl)).mono (fun u h' ⟨F', r, hu, hk, _, _, _, _, _, _, _, _, _, hr⟩ => ⟨hu.trans (by rw [hr]), hk.ext⟩)) W rfl).mono fun e W' ⟨hk, v, he, hR⟩ => ?_
  obtain ⟨rfl, hE⟩ := hR
  exact ⟨_, he, law_post laid reads rfl Tryz.underlying4 rfl (fun ds hd => by
    match ds, hd with
    | [_, _], _ => rfl) hW' (below_of hk hE)⟩
theorem row_proved : Rows.MergeTextsSaid :=
  OpenClaim.holds_of_wide 4 Tryz.f4 rfl rfl rfl rfl rfl rfl rfl ⟨rfl, rfl, rfl, rfl, rfl⟩ rfl rfl rfl rfl rfl (by kernel_rfl) Tryz.func4 (by kernel_rfl)
    (of_decide_eq_true (by kernel_rfl)) (by unfold Func.isWrapper; first | (rw [if_pos (by decide +kernel)]; kernel_rfl) | (rw [if_neg (by decide +kernel)]; exact ⟨rfl, rfl⟩))
    (fun os started H enc _ => lifted os started H enc)
theorem proved : Rows.MergeTextsCardSaid :=
  Claim7.holds_tied_plain_at .later [] [.data, .data, .data, .data, .sentinel, .sentinel, .pinned] true (true, "7bafc2f122e0b28ecac0343120c1937d048acdb0b074dccbe946c96afa83cf9c") true
    row_proved (fun _ h => by cases h) (by kernel_rfl) (fun _ h => by cases h) mergeTexts_row_tie rfl ⟨rfl, rfl⟩ (by kernel_rfl) rfl
    (fun f fn hf hfn => by
      obtain rfl : f = 4 := Option.some.inj ((show Tryz.prog.funcNamed "acequia/acequialaw19.MergeTexts" = some 4 by kernel_rfl).symm.trans hf) |>.symm
      obtain rfl : fn = Tryz.f4 := (Option.some.inj (Tryz.func4.symm.trans hfn)).symm
      refine ⟨by kernel_rfl, fun j t ht => ?_⟩
      rw [Tryz.params4] at ht
      have hm := Array.mem_of_getElem? ht
      simp at hm
      rcases hm with rfl | rfl <;> exact (show Tryz.prog.wantsStandIn _ = false by kernel_rfl)) (by kernel_rfl)
end Go.Proofs.YtlhcpndehikneaaGreatDoor.mergeTexts
