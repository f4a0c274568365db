/- ProxyNil holds at whatever. No conditions. -/
import Derived.Test.YtmbkoonblmfdpaaGreatRows
import Derived.Test.YtmbkoonblmfdpaaGreatArgs
import Derived.Test.YtmbkoonblmfdpaaGreatArgs4
import Derived.Test.YtmbkoonblmfdpaaGreatHzN
import Derived.WalkKit
import Derived.JoinedOf
import Derived.Handed
set_option linter.unusedSimpArgs false
set_option linter.unusedVariables false
set_option linter.unusedSectionVars false
namespace Go.Proofs.YtmbkoonblmfdpaaGreat.proxyNil
open Go.ChangeShapes Go.WideShapes Go.ChangeAt Go.RowKit Go.HL Go.Wk
theorem own : ownKnob Tryz.prog.godebug = none := by kernel_rfl
theorem laid : laidOutB Tryz.prog = true := by kernel_rfl
theorem reads : ∀ t ∈ Tryz.f6.params.toList, Tryz.prog.readableRec t = true ∧ t < Tryz.prog.types.size := by
  rw [Tryz.params6]; intro t ht; simp at ht; rcases ht with rfl | rfl | rfl <;> exact ⟨by kernel_rfl, of_decide_eq_true (by kernel_rfl)⟩
local instance : DM := ⟨false⟩
theorem rd_e_api_Addr : Rd Tryz.prog 28 e_api_Addr (fun _ x => (True ∧ True)) :=
  Rd.imp (rd_struct Tryz.underlying28 (by kernel_rfl) (RdF.cons (k := 1) rfl (by kernel_rfl) (rd_bool Tryz.underlying4) (RdF.cons (k := 16) rfl (by kernel_rfl) (rd_B Tryz.underlying26 Tryz.underlying5 (by kernel_rfl) (by kernel_rfl)) RdF.nil))) (fun p => (p.1, p.2.1)) (fun _ => rfl) (fun _ p h => ⟨h.1, h.2.1⟩)
theorem rd_e_api_Filter : Rd Tryz.prog 50 e_api_Filter (fun h x => (nf_api_Filter).q h x) :=
  Rd.imp (rd_struct Tryz.underlying50 (by kernel_rfl) (RdF.cons (k := 1) rfl (by kernel_rfl) (rd_bool Tryz.underlying4) (RdF.cons (k := 1) rfl (by kernel_rfl) (rd_slice (k := 17) Tryz.underlying29 (by kernel_rfl) (by decide) rd_e_api_Addr) RdF.nil))) (fun p => (p.1, p.2.1)) (fun _ => rfl) (fun _ p h => h.2.1.1)
theorem rd_e_api_Want : Rd Tryz.prog 77 e_api_Want (fun h x => (nf_api_Want).q h x) :=
  Rd.imp (rd_struct Tryz.underlying77 (by kernel_rfl) (RdF.cons (k := 17) rfl (by kernel_rfl) rd_e_api_Addr (RdF.cons (k := 2) rfl (by kernel_rfl) rd_e_api_Filter RdF.nil))) (fun p => (p.1, p.2.1)) (fun _ => rfl) (fun _ p h => h.2.1)
theorem rd_e_api_Record : Rd Tryz.prog 89 e_api_Record (fun h x => (nf_api_Record).q h x) :=
  Rd.imp (rd_struct Tryz.underlying89 (by kernel_rfl) (RdF.cons (k := 1) rfl (by kernel_rfl) (rd_I Tryz.underlying3) (RdF.cons (k := 17) rfl (by kernel_rfl) rd_e_api_Addr (RdF.cons (k := 1) rfl (by kernel_rfl) (rd_slice (k := 17) Tryz.underlying29 (by kernel_rfl) (by decide) rd_e_api_Addr) RdF.nil)))) (fun p => (p.1, p.2.1, p.2.2.1)) (fun _ => rfl) (fun _ p h => h.2.2.1.1)
set_option maxRecDepth 100000 in
theorem lifted (os : Os) (started : os.Started) (H : Type) (enc : TypeId × Value → H) :
    ReturnsInHanded {} Tryz.checked os 6 .any (Rows.proxyNilSpec.pre6 enc Tryz.prog Tryz.f6 Rows.proxyNilRow.domain false) (Rows.proxyNilSpec.post enc Tryz.prog Tryz.f6 false true false false) := by
  refine returnsInHanded_of_change (C := Tryz.checked) own started (by kernel_rfl) Tryz.func6
    (ChangeSpec.witness6 (enc := enc) (C := Tryz.checked) false ⟨#[], #[.int .i64 0, .slice none 0 0, .agg #[.bool false, .int .i64 0, .int .i64 0, .int .i64 0, .bool false, .int .u8 0, .int .u8 0, .int .u8 0, .int .u8 0, .int .u8 0, .int .u8 0, .int .u8 0, .int .u8 0, .int .u8 0, .int .u8 0, .int .u8 0, .int .u8 0, .int .u8 0, .int .u8 0, .int .u8 0, .int .u8 0, .bool false, .int .i64 0, .int .i64 0, .slice none 0 0, .slice none 0 0]], []⟩ 8 (by kernel_rfl) (by kernel_rfl) (by kernel_rfl) (by kernel_rfl)) ?_
  intro W base args ds gs before hval hW _ _
  have hW' := hW
  obtain ⟨p, q, hA0, hV, rfl, hfz, hnd⟩ := hW
  have hA : DataW.TrodAll enc Tryz.prog W 0 (fun _ => true) true Tryz.f6.params.toList args.toList ds p := hA0
  rw [Tryz.params6] at hA hval
  obtain ⟨v0, vs0, d0, ds0, p0, q0, hargs, rfl, rfl, r0, s0⟩ := trodAll_cons hA
  obtain ⟨v1, vs1, d1, ds1, p1, q1, rfl, rfl, rfl, r1, s1⟩ := trodAll_cons s0
  obtain ⟨v2, vs2, d2, ds2, p2, q2, rfl, rfl, rfl, r2, s2⟩ := trodAll_cons s1
  obtain ⟨rfl, rfl, rfl⟩ := trodAll_nil s2
  obtain rfl : args = #[v0, v1, v2] := by cases args; simp_all
  obtain ⟨now, c0, ok_now⟩ := ((rd_I Tryz.underlying3)).arg r0
  obtain ⟨n0, rfl⟩ := okWide_int Tryz.underlying3 (hval 0 3 v0 rfl rfl)
  have e0 := cells_one rfl c0
  clear c0; injection e0 with _ e0; replace e0 := e0.symm; subst e0
  obtain ⟨⟨vl, l⟩, c1, ⟨hs_l, ok_l⟩⟩ := ((rd_slice (k := 19) Tryz.underlying71 (by kernel_rfl) (by decide) rd_e_api_Want)).arg r1
  obtain ⟨a1, l1, k1, rfl⟩ := okWide_slice Tryz.underlying71 (hval 1 71 v1 rfl rfl)
  have e1 := cells_one rfl c1
  clear c1; subst e1
  obtain ⟨⟨q_V6, q_Version, q_Kind, q_Resp, q_Group, q_Quiet, q_Robust, q_Every, ⟨vq_Sources, q_Sources⟩, ⟨vq_Records, q_Records⟩, _⟩, c2, ⟨ok_q_V6, ok_q_Version, ok_q_Kind, ok_q_Resp, ok_q_Group, ok_q_Quiet, ok_q_Robust, ok_q_Every, ⟨hs_q_Sources, ok_q_Sources⟩, ⟨hs_q_Records, ok_q_Records⟩, _⟩⟩ := ((rd_struct Tryz.underlying31 (by kernel_rfl) (RdF.cons (k := 1) rfl (by kernel_rfl) (rd_bool Tryz.underlying4) (RdF.cons (k := 1) rfl (by kernel_rfl) (rd_I Tryz.underlying3) (RdF.cons (k := 1) rfl (by kernel_rfl) (rd_I Tryz.underlying3) (RdF.cons (k := 1) rfl (by kernel_rfl) (rd_I Tryz.underlying3) (RdF.cons (k := 17) rfl (by kernel_rfl) rd_e_api_Addr (RdF.cons (k := 1) rfl (by kernel_rfl) (rd_bool Tryz.underlying4) (RdF.cons (k := 1) rfl (by kernel_rfl) (rd_I Tryz.underlying3) (RdF.cons (k := 1) rfl (by kernel_rfl) (rd_I Tryz.underlying3) (RdF.cons (k := 1) rfl (by kernel_rfl) (rd_slice (k := 17) Tryz.underlying29 (by kernel_rfl) (by decide) rd_e_api_Addr) (RdF.cons (k := 1) rfl (by kernel_rfl) (rd_slice (k := 19) Tryz.underlying22 (by kernel_rfl) (by decide) rd_e_api_Record) RdF.nil)))))))))))).arg r2
  obtain ⟨xs2, rfl, _⟩ := okWide_struct Tryz.underlying31 (hval 2 31 v2 rfl rfl)
  obtain rfl : xs2 = #[.bool q_V6, .int .i64 q_Version, .int .i64 q_Kind, .int .i64 q_Resp, .bool q_Group.1, .int .u8 (b8 q_Group.2 0), .int .u8 (b8 q_Group.2 1), .int .u8 (b8 q_Group.2 2), .int .u8 (b8 q_Group.2 3), .int .u8 (b8 q_Group.2 4), .int .u8 (b8 q_Group.2 5), .int .u8 (b8 q_Group.2 6), .int .u8 (b8 q_Group.2 7), .int .u8 (b8 q_Group.2 8), .int .u8 (b8 q_Group.2 9), .int .u8 (b8 q_Group.2 10), .int .u8 (b8 q_Group.2 11), .int .u8 (b8 q_Group.2 12), .int .u8 (b8 q_Group.2 13), .int .u8 (b8 q_Group.2 14), .int .u8 (b8 q_Group.2 15), .bool q_Quiet, .int .i64 q_Robust, .int .i64 q_Every, vq_Sources, vq_Records] := Array.toList_inj.1 (c2)
  refine ((show HC Tryz.prog 6 _ W.heap (fun u h' => u = .bool true ∧ Ext W.heap h') from (law24_ProxyNil_walk (fr := []) now l q_V6 q_Version q_Kind q_Resp q_Group q_Quiet q_Robust q_Every q_Sources q_Records _ _ _ (St.init W.heap) (NfL.init ⟨ok_l⟩) (SliceF.init hs_l) (SliceF.init hs_q_Sources) (NfL.init ⟨ok_q_Records⟩) (SliceF.init hs_q_Records) rfl (Q := fun r => r = true) (proxyNil_ok rfl)).mono (fun u h' ⟨F', r, hu, hk, _, _, _, _, _, _, hr⟩ => ⟨hu.trans (by rw [hr]), hk.ext⟩)) W rfl).mono fun e W' ⟨hk, v, he, hR⟩ => ?_
  obtain ⟨rfl, hE⟩ := hR
  exact ⟨_, he, law_post laid reads rfl Tryz.underlying4 rfl (fun ds hd => by
    match ds, hd with
    | [_, _, _], _ => rfl) hW' (below_of hk hE)⟩
theorem proved : Rows.ProxyNilSaid :=
  OpenClaim.holds_of_wide 6 Tryz.f6 rfl rfl rfl rfl rfl rfl rfl ⟨rfl, rfl, rfl, rfl, rfl⟩ rfl rfl rfl rfl rfl (by kernel_rfl) Tryz.func6 (by kernel_rfl)
    (of_decide_eq_true (by kernel_rfl)) (by unfold Func.isWrapper; first | (rw [if_pos (by decide +kernel)]; kernel_rfl) | (rw [if_neg (by decide +kernel)]; exact ⟨rfl, rfl⟩))
    (fun os started H enc _ => lifted os started H enc)
end Go.Proofs.YtmbkoonblmfdpaaGreat.proxyNil
