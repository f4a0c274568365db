/- Plain words: the law ScriptParses. -/
import Derived.Test.YtlnagjjldpgbpaaGreatDoorScG
set_option linter.unusedSimpArgs false
set_option linter.unusedVariables false
set_option linter.unusedSectionVars false
namespace Go.Wk
open Go.HL
variable [DM]
theorem bdu {c : Cm} (h : ac2 c = true) : c.l.length <= 64 := by
  have hk := aqb h
  obtain ⟨k, nd, vl, po, n, b, g, s, x, l, t⟩ := c
  simp only [kinds, List.mem_cons, List.not_mem_nil, or_false] at hk
  rcases hk with rfl | rfl | rfl | rfl | rfl | rfl | rfl | rfl | rfl | rfl | rfl | rfl | rfl | rfl | rfl | rfl | rfl | rfl | rfl | rfl
  all_goals (simp [ac2, xq, als, asg, ao2, zC, aqu, af2] at h)
  all_goals grind
theorem avb {s : Str} {Q : Bool -> Prop} (h : Q true) : aij s Q := by
  refine a9m (n := 120) fun r hr => a7o (by omega) (fun c g e _ => ⟨fun q => absurd rfl q, fun _ => ?_⟩) (fun _ => ⟨fun _ => ⟨fun _ => ?_, fun q => absurd rfl q⟩, fun q => absurd q (by decide)⟩)
  · have hl := bdu g
    refine bdv (c := c) (avu g) (by omega) ⟨fun _ => bat (c := c) (avu g) (by omega) fun p hp hq => ⟨fun _ => a0r h, fun q => absurd ((hq g).trans e) q⟩, fun q => ?_⟩
    rw [g] at q; cases q
  · exact a1t (a := zC 0) (b := zC 0) (by decide) ⟨fun _ => a0r h, fun q => by rw [decide_eq_true rfl] at q; cases q⟩
end Go.Wk
