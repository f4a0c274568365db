/- Plain words: PlanMakes. -/
import Derived.Test.YtjliljlmgepmpaaPlnP7
import Derived.Test.YtjliljlmgepmpaaPlnM1
set_option linter.unusedSimpArgs false
set_option linter.unusedVariables false
set_option linter.unusedSectionVars false
namespace Go.Wk
open Go.HL
variable [DM]
theorem planMakes_ok {r f : Int} {M S : List Int} {Q : Bool → Prop} (hf : 0 ≤ f ∧ f < 256) (h : Q true) : law33_PlanMakes_W r M S f Q := by
  refine own_ok hf fun m s k a => copied_ok (by have := a.lm; omega) (copied_ok (by have := a.ls; omega) ?_)
  have lm := a.lm; have ls := a.ls; have hk := a.fan
  have hN := a.nd (List.Perm.refl s)
  refine makeT_ok hN a.rm (by omega) (by omega) fun L hL => copied_ok (by omega) (star_ok (by omega) (refMakeT_ok a.rm (by omega) (by omega) fun L' hL' => ?_))
  have e := hL.uniq hL'; subst e
  have g := hL.good hN a.rm (by omega) hk.1
  have hLl := g.few
  have v := hL.valid hN a.rm (by omega) hk.1 a.rs (List.Perm.refl s)
  refine refSame_ok (by omega) ⟨fun c => by simp at c, fun _ => refStar_ok (by omega) fun T hp hs => ?_⟩
  have eT : T = m.map fun n => (r, n) := sorted_uniq hp hs (blt_weak (star_ris a.rm))
  subst eT
  refine refSame_ok (by simp; omega) ⟨fun c => by simp at c, fun _ => copied_ok (by omega) (copied_ok (by omega) (valid_ok (by omega) (by omega) (by omega) (by omega) fun b hb => ?_))⟩
  rw [hb.2 v]
  refine ⟨fun c => by simp at c, fun _ => refValid_ok (by omega) (by omega) (by omega) (by omega) fun b2 hb2 => ?_⟩
  rw [hb2.2 v]
  refine ⟨fun _ => refFits_ok (by omega) (by omega) fun b3 hb3 => ⟨fun _ => lives_ok h, fun c => ?_⟩, fun c => by cases c⟩
  have hF := hb3.1 (by simpa using c)
  exact refFan_ok (by omega) g.toGd0 fun f' _ hfi => ⟨fun _ => lives_ok h, fun c => absurd (hL.fanle hN hk.1 hF hfi) (by omega)⟩
end Go.Wk
