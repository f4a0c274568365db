/- Plain words: who is let through, and when timers have run out: the law. -/
import Derived.Test.YtokodpeigafenaaFilX1
import Derived.Test.YtokodpeigafenaaFilL0
set_option linter.unusedSimpArgs false
set_option linter.unusedVariables false
set_option linter.unusedSectionVars false
namespace Go.Wk
open Go.HL
variable [DM]
theorem filterLets_ok (e : Bool) (on off : List Ad) (a : Ad) (l : List Ad) {Q : Bool → Prop} (h : Q true) : law15_FilterLets_W e on off a l Q := by
  have hF := few_set e on off
  have l6 := take6_len l
  have q1 := hF.lon
  have q2 := hF.loff
  refine few_ok (addrs_ok (few_again (addrs_ok ?_)))
  rw [take66]
  refine expireP_ok hF (by omega) (few_again (clone_Ad (by omega) ?_))
  have em : minusL (fOn on) (ofL (l.take 6)) = minusL (fOn on) (l.take 6) := minus_of hF.sOn
  have eo : expOff e (fOn on) (fOff e on off) (ofL (l.take 6)) = expOff e (fOn on) (fOff e on off) (l.take 6) := by unfold expOff; rw [and_of hF.sOn]
  rw [em, eo]
  have la := filt_len (fOn on) (fun x => !aIn (l.take 6) x)
  have lb : (expOff e (fOn on) (fOff e on off) (l.take 6)).length ≤ 1000 := by
    unfold expOff; split
    · have h1 := orL_len (fOff e on off) (andL (fOn on) (l.take 6))
      have h2 := filt_len (fOn on) (aIn (l.take 6))
      unfold andL at h1 ⊢; omega
    · omega
  have lm : (minusL (fOn on) (l.take 6)).length ≤ 1000 := by unfold minusL; omega
  have ge : stGood e (minusL (fOn on) (l.take 6)) (expOff e (fOn on) (fOff e on off) (l.take 6)) := by
    refine ⟨hF.sOn.filter _, ?_, fun x hx => ?_, fun hq => ?_⟩
    · unfold expOff; split
      · exact orL_set _ _
      · exact hF.sOff
    · obtain ⟨h1, h2⟩ := mem_minusL.1 hx
      unfold expOff; split
      · rw [mem_orL hF.sOff (show ASet (andL (fOn on) (l.take 6)) from hF.sOn.filter _)]
        rintro (q | q)
        · exact hF.apart x h1 q
        · exact h2 (mem_andL.1 q).2
      · exact hF.apart x h1
    · unfold expOff; rw [if_neg (by rw [hq]; decide)]; exact hF.inc hq
  have gt : stGood false (fOn on) [] := ⟨hF.sOn, ASet.nil, by simp, fun _ => rfl⟩
  have hj2 : law15_FilterLets_j2 a Q e (fOn on) (fOff e on off) false := by
    unfold law15_FilterLets_j2
    refine ⟨fun c => (by cases c), fun _ => letsP_ok hF.sOn hF.sOff (by omega) (by omega) (letsR_ok (by omega) (by omega) ⟨fun _ => goneP_ok (goneR_ok ⟨fun _ => goneP_ok ⟨fun _ => lives_ok h, fun g => letsP_ok hF.sOn hF.sOff (by omega) (by omega) ⟨fun _ => lives_ok h, fun k => ?_⟩⟩, fun c => by simp at c⟩), fun c => by simp at c⟩)⟩
    exfalso
    unfold gone at g
    have g' : e = false ∧ fOn on = [] := by cases e <;> simp_all
    unfold lets at k
    rw [g'.1, g'.2] at k; simp [aIn] at k
  unfold law15_FilterLets_j1
  refine expireR_ok (by omega) (by omega) (by omega) (same3R_ok lm lb ?_)
  simp only [and_self, decide_true]
  refine ⟨fun c => by simp at c, fun _ => same3R_ok (by omega) (by simp) ?_⟩
  simp only [and_self, decide_true]
  refine ⟨fun c => by simp at c, fun _ => sgoodP_ok lm lb fun b hb => ⟨fun c => ?_, fun _ => sgoodP_ok (by omega) (by simp) fun d hd => ?_⟩⟩
  · rw [hb.2 ge] at c; simp at c
  · rw [hd.2 gt]; exact hj2
end Go.Wk
