/- Plain words: that the made tree joins and lets go. -/
import Derived.Test.YtjliljlmgepmpaaGreatRqL
set_option linter.unusedSimpArgs false
set_option linter.unusedVariables false
set_option linter.unusedSectionVars false
namespace Go.Wk
open Go.HL
variable [DM]
def lt0 : List Br := [(1, 2), (1, 3)]
def lt1 : List Br := [(1, 2), (1, 9), (9, 3), (9, 4)]
def lt2 : List Br := [(1, 9), (9, 3), (9, 4)]
theorem lcx : Cx 1 [9] 2 [2, 3, 4] := ⟨by decide, by decide, by decide, by decide, by decide, by decide, by decide, by decide⟩
theorem lv0 : VI 1 lt0 [2, 3] [9] 2 where
  good := { toGd0 := star_gd (ms := [2, 3]) (by decide) (by decide), ris := star_ris (ms := [2, 3]) (by decide), few := by decide }
  leaf := star_leaf (ms := [2, 3]) (by decide) (by decide)
  inn := by decide
  cap := .inl fun y => kids_len lt0 y
theorem ljn : JoinR 1 lt0 [2, 3] 4 [9] 2 lt1 :=
  .fresh (fun ⟨y, hy⟩ => by have := kids_len lt0 y; have e : lt0.length = 2 := rfl; omega) (by decide) 9 (by decide) (by decide) (by decide) (by decide)
theorem lv1 : VI 1 lt1 [2, 3, 4] [9] 2 := ljn.vi lcx lv0 (by decide) (by decide) (by decide)
theorem lns : ¬ StarP lt1 2 := fun ⟨y, hy⟩ => by
  rcases lv1.cap with q | ⟨_, q⟩
  · have := q y; omega
  · exact absurd q (by decide)
theorem llv : LeaveR 1 lt1 [2, 3, 4] 2 [9] 2 lt2 := .cut lns (Pr.refl.step (s := 2) (by decide) (by decide)) (by unfold Stable; decide)
theorem lives34_ok {Q : Bool → Prop} (h : Q true) : law34_lives_W Q := by
  refine join_ok (fan := 2) lcx lv0 (by decide) (by decide) (by decide) fun L hj => ?_
  obtain rfl := hj.uniq ljn
  refine leave_ok (fan := 2) lcx lv1 (by decide) (by decide) fun L hl => ?_
  obtain rfl := hl.uniq llv
  refine rprint_ok (by decide) (by decide) (by decide) ⟨fun _ => rprint_ok (by decide) (by decide) (by decide) ⟨fun _ => ?_, fun c => absurd (by decide +kernel) c⟩, fun c => absurd (by decide +kernel) c⟩
  exact pstar_ok (fan := 2) (by decide) (fun st => absurd st lns) fun _ => ⟨fun _ => pstar_ok (fan := 1) (by decide) (fun _ => h) fun st => absurd ⟨9, by decide⟩ st, fun c => by cases c⟩
end Go.Wk
