/- QueryPlays holds at whatever. No conditions. -/
import Derived.Test.YtfoebjicglgklaaGreatRows
import Derived.Test.YtfoebjicglgklaaGreatArgs
import Derived.Test.YtfoebjicglgklaaGreatArgs4
import Derived.Test.YtfoebjicglgklaaGreatQryT
import Derived.WalkKit
import Derived.JoinedOf
import Derived.Handed
set_option linter.unusedSimpArgs false
set_option linter.unusedVariables false
set_option linter.unusedSectionVars false
namespace Go.Proofs.YtfoebjicglgklaaGreat.queryPlays
open Go.ChangeShapes Go.WideShapes Go.ChangeAt Go.RowKit Go.HL Go.Wk
theorem own : ownKnob Tryz.prog.godebug = none := by kernel_rfl
theorem laid : laidOutB Tryz.prog = true := by kernel_rfl
theorem reads : ∀ t ∈ Tryz.f7.params.toList, Tryz.prog.readableRec t = true ∧ t < Tryz.prog.types.size := by
  rw [Tryz.params7]; intro t ht; simp at ht; rcases ht with rfl | rfl <;> exact ⟨by kernel_rfl, of_decide_eq_true (by kernel_rfl)⟩
local instance : DM := ⟨false⟩
theorem rd_e_api_Tune : Rd Tryz.prog 56 e_api_Tune (fun _ x => (I64 x.1 ∧ I64 x.2.1 ∧ I64 x.2.2.1 ∧ I64 x.2.2.2.1 ∧ I64 x.2.2.2.2)) :=
  Rd.imp (rd_struct Tryz.underlying56 (by kernel_rfl) (RdF.cons (k := 1) rfl (by kernel_rfl) (rd_I Tryz.underlying3) (RdF.cons (k := 1) rfl (by kernel_rfl) (rd_I Tryz.underlying3) (RdF.cons (k := 1) rfl (by kernel_rfl) (rd_I Tryz.underlying3) (RdF.cons (k := 1) rfl (by kernel_rfl) (rd_I Tryz.underlying3) (RdF.cons (k := 1) rfl (by kernel_rfl) (rd_I Tryz.underlying3) RdF.nil)))))) (fun p => (p.1, p.2.1, p.2.2.1, p.2.2.2.1, p.2.2.2.2.1)) (fun _ => rfl) (fun _ p h => ⟨h.1, h.2.1, h.2.2.1, h.2.2.2.1, h.2.2.2.2.1⟩)
theorem rd_e_api_Addr : Rd Tryz.prog 28 eA (fun _ x => (True ∧ True)) :=
  Rd.imp (rd_struct Tryz.underlying28 (by kernel_rfl) (RdF.cons (k := 1) rfl (by kernel_rfl) (rd_bool Tryz.underlying4) (RdF.cons (k := 16) rfl (by kernel_rfl) (rd_B Tryz.underlying26 Tryz.underlying5 (by kernel_rfl) (by kernel_rfl)) RdF.nil))) (fun p => (p.1, p.2.1)) (fun _ => rfl) (fun _ p h => ⟨h.1, h.2.1⟩)
theorem rd_e_api_Asked : Rd Tryz.prog 97 e_api_Asked (fun h x => (nf_api_Asked).q h x) :=
  Rd.imp (rd_struct Tryz.underlying97 (by kernel_rfl) (RdF.cons (k := 17) rfl (by kernel_rfl) rd_e_api_Addr (RdF.cons (k := 1) rfl (by kernel_rfl) (rd_bool Tryz.underlying4) (RdF.cons (k := 1) rfl (by kernel_rfl) (rd_slice (k := 17) Tryz.underlying29 (by kernel_rfl) (by decide) rd_e_api_Addr) RdF.nil)))) (fun p => (p.1, p.2.1, p.2.2.1)) (fun _ => rfl) (fun _ p h => h.2.2.1.1)
theorem rd_e_acequiaref22_Act : Rd Tryz.prog 99 e_acequiaref22_Act (fun h x => (nf_acequiaref22_Act).q h x) :=
  Rd.imp (rd_struct Tryz.underlying99 (by kernel_rfl) (RdF.cons (k := 1) rfl (by kernel_rfl) (rd_I Tryz.underlying3) (RdF.cons (k := 1) rfl (by kernel_rfl) (rd_I Tryz.underlying3) (RdF.cons (k := 19) rfl (by kernel_rfl) rd_e_api_Asked RdF.nil)))) (fun p => (p.1, p.2.1, p.2.2.1)) (fun _ => rfl) (fun _ p h => h.2.2.1)
set_option maxRecDepth 100000 in
theorem lifted (os : Os) (started : os.Started) (H : Type) (enc : TypeId × Value → H) :
    ReturnsInHanded {} Tryz.checked os 7 .any (Rows.queryPlaysSpec.pre6 enc Tryz.prog Tryz.f7 Rows.queryPlaysRow.domain false) (Rows.queryPlaysSpec.post enc Tryz.prog Tryz.f7 false true false false) := by
  refine returnsInHanded_of_change (C := Tryz.checked) own started (by kernel_rfl) Tryz.func7
    (ChangeSpec.witness6 (enc := enc) (C := Tryz.checked) false ⟨#[], #[.agg (e_api_Tune (0, 0, 0, 0, 0)).toArray, .slice none 0 0], []⟩ 8 (by kernel_rfl) (by kernel_rfl) (by kernel_rfl) (by kernel_rfl)) ?_
  intro W base args ds gs before hval hW _ _
  have hW' := hW
  obtain ⟨p, q, hA0, hV, rfl, hfz, hnd⟩ := hW
  have hA : DataW.TrodAll enc Tryz.prog W 0 (fun _ => true) true Tryz.f7.params.toList args.toList ds p := hA0
  rw [Tryz.params7] at hA hval
  obtain ⟨v0, vs0, d0, ds0, p0, q0, hargs, rfl, rfl, r0, s0⟩ := trodAll_cons hA
  obtain ⟨v1, vs1, d1, ds1, p1, q1, rfl, rfl, rfl, r1, s1⟩ := trodAll_cons s0
  obtain ⟨rfl, rfl, rfl⟩ := trodAll_nil s1
  obtain rfl : args = #[v0, v1] := by cases args; simp_all
  obtain ⟨t, c0, ok_t⟩ := (rd_e_api_Tune).arg r0
  obtain ⟨xs0, rfl, _⟩ := okWide_struct Tryz.underlying56 (hval 0 56 v0 rfl rfl)
  obtain rfl : xs0 = #[.int .i64 t.1, .int .i64 t.2.1, .int .i64 t.2.2.1, .int .i64 t.2.2.2.1, .int .i64 t.2.2.2.2] := Array.toList_inj.1 (c0)
  obtain ⟨⟨vacts, acts⟩, c1, ⟨hs_acts, ok_acts⟩⟩ := ((rd_slice (k := 21) Tryz.underlying88 (by kernel_rfl) (by decide) rd_e_acequiaref22_Act)).arg r1
  obtain ⟨a1, l1, k1, rfl⟩ := okWide_slice Tryz.underlying88 (hval 1 88 v1 rfl rfl)
  have e1 := cells_one rfl c1
  clear c1; subst e1
  refine ((show HC Tryz.prog 7 _ W.heap (fun u h' => u = .bool true ∧ Ext W.heap h') from (law22_QueryPlays_walk (fr := []) t acts _ (St.init W.heap) (NfL.init ⟨ok_acts⟩) (SliceF.init hs_acts) rfl (Q := fun r => r = true) (queryPlays_ok rfl)).mono (fun u h' ⟨F', r, hu, hk, _, _, _, hr⟩ => ⟨hu.trans (by rw [hr]), hk.ext⟩)) W rfl).mono fun e W' ⟨hk, v, he, hR⟩ => ?_
  obtain ⟨rfl, hE⟩ := hR
  exact ⟨_, he, law_post laid reads rfl Tryz.underlying4 rfl (fun ds hd => by
    match ds, hd with
    | [_, _], _ => rfl) hW' (below_of hk hE)⟩
theorem proved : Rows.QueryPlaysSaid :=
  OpenClaim.holds_of_wide 7 Tryz.f7 rfl rfl rfl rfl rfl rfl rfl ⟨rfl, rfl, rfl, rfl, rfl⟩ rfl rfl rfl rfl rfl (by kernel_rfl) Tryz.func7 (by kernel_rfl)
    (of_decide_eq_true (by kernel_rfl)) (by unfold Func.isWrapper; first | (rw [if_pos (by decide +kernel)]; kernel_rfl) | (rw [if_neg (by decide +kernel)]; exact ⟨rfl, rfl⟩))
    (fun os started H enc _ => lifted os started H enc)
end Go.Proofs.YtfoebjicglgklaaGreat.queryPlays
