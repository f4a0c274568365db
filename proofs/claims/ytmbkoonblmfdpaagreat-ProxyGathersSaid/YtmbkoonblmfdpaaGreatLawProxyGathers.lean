/- ProxyGathers holds at whatever. No conditions. -/
import Derived.Test.YtmbkoonblmfdpaaGreatRows
import Derived.Test.YtmbkoonblmfdpaaGreatArgs
import Derived.Test.YtmbkoonblmfdpaaGreatArgs4
import Derived.Test.YtmbkoonblmfdpaaGreatHzO
import Derived.WalkKit
import Derived.JoinedOf
import Derived.Handed
set_option linter.unusedSimpArgs false
set_option linter.unusedVariables false
set_option linter.unusedSectionVars false
namespace Go.Proofs.YtmbkoonblmfdpaaGreat.proxyGathers
open Go.ChangeShapes Go.WideShapes Go.ChangeAt Go.RowKit Go.HL Go.Wk
theorem own : ownKnob Tryz.prog.godebug = none := by kernel_rfl
theorem laid : laidOutB Tryz.prog = true := by kernel_rfl
theorem reads : ∀ t ∈ Tryz.f5.params.toList, Tryz.prog.readableRec t = true ∧ t < Tryz.prog.types.size := by
  rw [Tryz.params5]; intro t ht; simp at ht; rcases ht with rfl | rfl | rfl <;> exact ⟨by kernel_rfl, of_decide_eq_true (by kernel_rfl)⟩
local instance : DM := ⟨false⟩
theorem rd_e_api_Addr : Rd Tryz.prog 28 e_api_Addr (fun _ x => (True ∧ True)) :=
  Rd.imp (rd_struct Tryz.underlying28 (by kernel_rfl) (RdF.cons (k := 1) rfl (by kernel_rfl) (rd_bool Tryz.underlying4) (RdF.cons (k := 16) rfl (by kernel_rfl) (rd_B Tryz.underlying26 Tryz.underlying5 (by kernel_rfl) (by kernel_rfl)) RdF.nil))) (fun p => (p.1, p.2.1)) (fun _ => rfl) (fun _ p h => ⟨h.1, h.2.1⟩)
theorem rd_e_api_Filter : Rd Tryz.prog 50 e_api_Filter (fun h x => (nf_api_Filter).q h x) :=
  Rd.imp (rd_struct Tryz.underlying50 (by kernel_rfl) (RdF.cons (k := 1) rfl (by kernel_rfl) (rd_bool Tryz.underlying4) (RdF.cons (k := 1) rfl (by kernel_rfl) (rd_slice (k := 17) Tryz.underlying29 (by kernel_rfl) (by decide) rd_e_api_Addr) RdF.nil))) (fun p => (p.1, p.2.1)) (fun _ => rfl) (fun _ p h => h.2.1.1)
theorem rd_e_api_Want : Rd Tryz.prog 77 e_api_Want (fun h x => (nf_api_Want).q h x) :=
  Rd.imp (rd_struct Tryz.underlying77 (by kernel_rfl) (RdF.cons (k := 17) rfl (by kernel_rfl) rd_e_api_Addr (RdF.cons (k := 2) rfl (by kernel_rfl) rd_e_api_Filter RdF.nil))) (fun p => (p.1, p.2.1)) (fun _ => rfl) (fun _ p h => h.2.1)
theorem rd_e_acequialaw24_Ask : Rd Tryz.prog 73 e_acequialaw24_Ask (fun _ x => ((True ∧ True) ∧ (True ∧ True))) :=
  Rd.imp (rd_struct Tryz.underlying73 (by kernel_rfl) (RdF.cons (k := 17) rfl (by kernel_rfl) rd_e_api_Addr (RdF.cons (k := 17) rfl (by kernel_rfl) rd_e_api_Addr RdF.nil))) (fun p => (p.1, p.2.1)) (fun _ => rfl) (fun _ p h => ⟨h.1, h.2.1⟩)
set_option maxRecDepth 100000 in
theorem lifted (os : Os) (started : os.Started) (H : Type) (enc : TypeId × Value → H) :
    ReturnsInHanded {} Tryz.checked os 5 .any (Rows.proxyGathersSpec.pre6 enc Tryz.prog Tryz.f5 Rows.proxyGathersRow.domain false) (Rows.proxyGathersSpec.post enc Tryz.prog Tryz.f5 false true false false) := by
  refine returnsInHanded_of_change (C := Tryz.checked) own started (by kernel_rfl) Tryz.func5
    (ChangeSpec.witness6 (enc := enc) (C := Tryz.checked) false ⟨#[], #[.slice none 0 0, .slice none 0 0, .agg #[.bool false, .int .u8 0, .int .u8 0, .int .u8 0, .int .u8 0, .int .u8 0, .int .u8 0, .int .u8 0, .int .u8 0, .int .u8 0, .int .u8 0, .int .u8 0, .int .u8 0, .int .u8 0, .int .u8 0, .int .u8 0, .int .u8 0, .bool false, .int .u8 0, .int .u8 0, .int .u8 0, .int .u8 0, .int .u8 0, .int .u8 0, .int .u8 0, .int .u8 0, .int .u8 0, .int .u8 0, .int .u8 0, .int .u8 0, .int .u8 0, .int .u8 0, .int .u8 0, .int .u8 0]], []⟩ 8 (by kernel_rfl) (by kernel_rfl) (by kernel_rfl) (by kernel_rfl)) ?_
  intro W base args ds gs before hval hW _ _
  have hW' := hW
  obtain ⟨p, q, hA0, hV, rfl, hfz, hnd⟩ := hW
  have hA : DataW.TrodAll enc Tryz.prog W 0 (fun _ => true) true Tryz.f5.params.toList args.toList ds p := hA0
  rw [Tryz.params5] at hA hval
  obtain ⟨v0, vs0, d0, ds0, p0, q0, hargs, rfl, rfl, r0, s0⟩ := trodAll_cons hA
  obtain ⟨v1, vs1, d1, ds1, p1, q1, rfl, rfl, rfl, r1, s1⟩ := trodAll_cons s0
  obtain ⟨v2, vs2, d2, ds2, p2, q2, rfl, rfl, rfl, r2, s2⟩ := trodAll_cons s1
  obtain ⟨rfl, rfl, rfl⟩ := trodAll_nil s2
  obtain rfl : args = #[v0, v1, v2] := by cases args; simp_all
  obtain ⟨⟨va, a⟩, c0, ⟨hs_a, ok_a⟩⟩ := ((rd_slice (k := 19) Tryz.underlying71 (by kernel_rfl) (by decide) rd_e_api_Want)).arg r0
  obtain ⟨a0, l0, k0, rfl⟩ := okWide_slice Tryz.underlying71 (hval 0 71 v0 rfl rfl)
  have e0 := cells_one rfl c0
  clear c0; subst e0
  obtain ⟨⟨vb, b⟩, c1, ⟨hs_b, ok_b⟩⟩ := ((rd_slice (k := 19) Tryz.underlying71 (by kernel_rfl) (by decide) rd_e_api_Want)).arg r1
  obtain ⟨a1, l1, k1, rfl⟩ := okWide_slice Tryz.underlying71 (hval 1 71 v1 rfl rfl)
  have e1 := cells_one rfl c1
  clear c1; subst e1
  obtain ⟨ask, c2, ok_ask⟩ := (rd_e_acequialaw24_Ask).arg r2
  obtain ⟨xs2, rfl, _⟩ := okWide_struct Tryz.underlying73 (hval 2 73 v2 rfl rfl)
  obtain rfl : xs2 = #[.bool ask.1.1, .int .u8 (b8 ask.1.2 0), .int .u8 (b8 ask.1.2 1), .int .u8 (b8 ask.1.2 2), .int .u8 (b8 ask.1.2 3), .int .u8 (b8 ask.1.2 4), .int .u8 (b8 ask.1.2 5), .int .u8 (b8 ask.1.2 6), .int .u8 (b8 ask.1.2 7), .int .u8 (b8 ask.1.2 8), .int .u8 (b8 ask.1.2 9), .int .u8 (b8 ask.1.2 10), .int .u8 (b8 ask.1.2 11), .int .u8 (b8 ask.1.2 12), .int .u8 (b8 ask.1.2 13), .int .u8 (b8 ask.1.2 14), .int .u8 (b8 ask.1.2 15), .bool ask.2.1, .int .u8 (b8 ask.2.2 0), .int .u8 (b8 ask.2.2 1), .int .u8 (b8 ask.2.2 2), .int .u8 (b8 ask.2.2 3), .int .u8 (b8 ask.2.2 4), .int .u8 (b8 ask.2.2 5), .int .u8 (b8 ask.2.2 6), .int .u8 (b8 ask.2.2 7), .int .u8 (b8 ask.2.2 8), .int .u8 (b8 ask.2.2 9), .int .u8 (b8 ask.2.2 10), .int .u8 (b8 ask.2.2 11), .int .u8 (b8 ask.2.2 12), .int .u8 (b8 ask.2.2 13), .int .u8 (b8 ask.2.2 14), .int .u8 (b8 ask.2.2 15)] := Array.toList_inj.1 (c2)
  refine ((show HC Tryz.prog 5 _ W.heap (fun u h' => u = .bool true ∧ Ext W.heap h') from (law24_ProxyGathers_walk (fr := []) a b ask _ _ (St.init W.heap) (NfL.init ⟨ok_a⟩) (SliceF.init hs_a) (NfL.init ⟨ok_b⟩) (SliceF.init hs_b) rfl (Q := fun r => r = true) (proxyGathers_ok rfl)).mono (fun u h' ⟨F', r, hu, hk, _, _, _, _, _, hr⟩ => ⟨hu.trans (by rw [hr]), hk.ext⟩)) W rfl).mono fun e W' ⟨hk, v, he, hR⟩ => ?_
  obtain ⟨rfl, hE⟩ := hR
  exact ⟨_, he, law_post laid reads rfl Tryz.underlying4 rfl (fun ds hd => by
    match ds, hd with
    | [_, _, _], _ => rfl) hW' (below_of hk hE)⟩
theorem proved : Rows.ProxyGathersSaid :=
  OpenClaim.holds_of_wide 5 Tryz.f5 rfl rfl rfl rfl rfl rfl rfl ⟨rfl, rfl, rfl, rfl, rfl⟩ rfl rfl rfl rfl rfl (by kernel_rfl) Tryz.func5 (by kernel_rfl)
    (of_decide_eq_true (by kernel_rfl)) (by unfold Func.isWrapper; first | (rw [if_pos (by decide +kernel)]; kernel_rfl) | (rw [if_neg (by decide +kernel)]; exact ⟨rfl, rfl⟩))
    (fun os started H enc _ => lifted os started H enc)
end Go.Proofs.YtmbkoonblmfdpaaGreat.proxyGathers
