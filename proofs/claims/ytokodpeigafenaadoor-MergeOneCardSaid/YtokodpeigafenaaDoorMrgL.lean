/- Plain words: the laws MergeAll and MergeStates. -/
import Derived.Test.YtokodpeigafenaaDoorMrgP4
set_option linter.unusedSimpArgs false
set_option linter.unusedVariables false
set_option linter.unusedSectionVars false
namespace Go.Wk
open Go.HL
variable [DM]
theorem goodM_ok {e : Bool} {s : List Ad} {Q : Bool → Prop} (hs : ASet s) (hl : s.length ≤ 1000) (h : Q true) : merge_Good_W e s Q :=
  setP_ok (by omega) fun b hb => by rw [hb.2 hs]; exact h
theorem sameF_ok {e : Bool} {s t : List Ad} {Q : Bool → Prop} (hst : s = t) (hl : s.length ≤ 1000) (h : Q true) : ref19_Same_W e s e t Q := by
  subst hst
  refine ⟨fun _ => sameR_ok (by omega) ?_, fun c => by simp at c⟩
  rw [decide_eq_true rfl]; exact h
theorem four_txt : joinS ([four 2].map dots) [44] = [49, 48, 46, 48, 46, 48, 46, 50] := by decide +kernel
theorem livesP_ok {Q : Bool → Prop} (h : Q true) : law19_lives_W Q := by
  refine fourP_ok (by decide) (fourP_ok (by decide) (fourP_ok (by decide) fun b1 b2 => ?_))
  have s1 : ASet [four 1] := ⟨by simp, by decide +kernel⟩
  have s12 : ASet [four 1, four 2] := by
    have : ofL [four 1, four 2] = [four 1, four 2] := by decide +kernel
    rw [← this]; exact ofL_set _
  have hs2 : ASet [four 2] := ⟨by simp, by decide +kernel⟩
  have hg : Goods ([(false, (.slice (some ⟨b1, 0, none⟩) 1 1, [four 1])), (true, (.slice (some ⟨b2, 0, none⟩) 2 2, [four 1, four 2]))] : List Fi) :=
    ⟨fun f hf => by
      simp only [List.mem_cons, List.not_mem_nil, or_false] at hf
      rcases hf with rfl | rfl
      · exact ⟨s1, by simp⟩
      · exact ⟨s12, by simp⟩, by simp⟩
  refine allP_ok hg fun S hS hl hm => ?_
  have hS2 : S = [four 2] := hS.ext hs2 fun x => by
    rw [hm, inB1 (by rfl)]
    constructor
    · rintro ⟨q, r⟩
      have h1 := q _ (List.mem_cons_of_mem _ (List.mem_cons_self ..)) rfl
      have h2 : x ∉ [four 1] := fun e => r ⟨_, List.mem_cons_self .., rfl, e⟩
      simp only [List.mem_cons, List.not_mem_nil, or_false] at h1 h2 ⊢
      exact h1.resolve_left h2
    · intro e
      have e : x = four 2 := by simpa using e
      subst e
      have ne : four 2 ≠ four 1 := by decide +kernel
      refine ⟨fun f hf a => ?_, fun ⟨f, hf, a, b⟩ => ?_⟩
      · simp only [List.mem_cons, List.not_mem_nil, or_false] at hf
        rcases hf with rfl | rfl
        · cases a
        · simp
      · simp only [List.mem_cons, List.not_mem_nil, or_false] at hf
        rcases hf with rfl | rfl
        · simp at b; exact ne b
        · cases a
  subst hS2
  refine ⟨fun _ => ⟨fun _ => ⟨by decide, fourP_ok (by decide) ⟨fun _ => ⟨fun _ => ?_, fun c => ?_⟩, fun c => absurd rfl c⟩⟩, fun c => absurd rfl c⟩, fun c => ?_⟩
  · refine printL_ok (by simp) (by simp) (by intro a ha; rw [List.mem_singleton.1 ha]; decide +kernel) (by decide +kernel) ⟨by rw [four_txt]; decide, ?_⟩
    rw [four_txt]; exact h
  · cases (show true = false from c)
  · cases (show true = false from c)
theorem mergeAll_ok {l : List Fi} {a : Ad} {Q : Bool → Prop} (h : Q true) : law19_MergeAll_W l a Q := by
  refine fewL_ok fun r hr => allP_ok (goods_of hr) fun S hS hl hm => fewL_ok fun x hx => ?_
  rw [hr] at hm ⊢
  have hg := goods_of hx
  have hl6 := hg.len
  refine loop_up x.length (fun i s => s = anyB ((x.take i).map bare) a) rfl fun K i s hi hs hK => ?_
  show law19_MergeAll_l1 a Q _ S x _ s (i : Int)
  unfold law19_MergeAll_l1
  refine ⟨fun d => ⟨fun c => ⟨by (first | omega | (unfold I64; omega) | (simp only [List.length_append, List.length_cons, List.length_nil, List.length_take, List.length_drop] at *; omega) | (unfold I64; simp only [List.length_append, List.length_cons, List.length_nil, List.length_take, List.length_drop] at *; omega)), ?_⟩, fun c => ?_⟩, fun d => ?_⟩
  · have i1 : i < x.length := by simp at d; omega
    refine hK (i + 1) _ (by omega) (by omega) ?_
    rw [anyB_take i1, ← hs, c]; rfl
  · have i1 : i < x.length := by simp at d; omega
    have hf := hg.set _ (List.getElem_mem i1)
    rw [gi_nat i1]
    refine ⟨by (first | omega | (unfold I64; omega) | (simp only [List.length_append, List.length_cons, List.length_nil, List.length_take, List.length_drop] at *; omega) | (unfold I64; simp only [List.length_append, List.length_cons, List.length_nil, List.length_take, List.length_drop] at *; omega)), fewP_id hf.1 hf.2 (letsP_ok hf.1 (by omega) ⟨by (first | omega | (unfold I64; omega) | (simp only [List.length_append, List.length_cons, List.length_nil, List.length_take, List.length_drop] at *; omega) | (unfold I64; simp only [List.length_append, List.length_cons, List.length_nil, List.length_take, List.length_drop] at *; omega)), hK (i + 1) _ (by omega) (by omega) ?_⟩)⟩
    rw [anyB_take i1, ← hs, c]; rfl
  · have i1 : i = x.length := by simp at d; omega
    subst i1
    rw [List.take_length, hx] at hs
    refine allR_ok hg fun T hT hmT => ?_
    rw [hx] at hmT ⊢
    refine sameF_ok (hS.ext hT fun y => by rw [hm, hmT]) (by omega) ⟨fun _ => letsP_ok hS (by omega) ⟨fun _ => goodM_ok hS (by omega) ⟨fun _ => livesP_ok h, fun c => (by cases c)⟩, fun c => ?_⟩, fun c => (by cases c)⟩
    exfalso
    have : letsB (exB ((l.take 6).map fewB), S) a = s := by
      rw [hs]
      have q : aIn S a = inB ((l.take 6).map fewB) a := by
        rw [Bool.eq_iff_iff, ← hm a]; unfold aIn; simp
      unfold letsB; rw [q]; unfold inB
      cases anyB ((l.take 6).map fewB) a <;> cases exB ((l.take 6).map fewB) <;> rfl
    rw [this] at c; simp at c
/-! ### A router's state -/
structure FewS (e : Bool) (on off : List Ad) : Prop where
  son : ASet on
  soff : ASet off
  lon : on.length ≤ 6
  loff : off.length ≤ 6
  no : ∀ x ∈ off, x ∉ on
  any : e = false → off = []
theorem few15_ok {e : Bool} {on off : List Ad} {Q : Bool → List Ad → List Ad → Prop} (h : ∀ on' off', FewS e on' off' → (FewS e on off → on' = on ∧ off' = off) → Q e on' off') : law15_Few_W e on off Q := by
  refine addrs_ok (addrs_ok (ofR_ok (by rw [List.length_take]; omega) ?_))
  have l1 : (on.take 6).length ≤ 6 := by rw [List.length_take]; omega
  have l2 : (off.take 6).length ≤ 6 := by rw [List.length_take]; omega
  have k1 := ofL_len (on.take 6)
  have k2 := ofL_len (off.take 6)
  refine ⟨fun c => ofR_ok (by omega) (pickR_ok (by omega) (by omega) ?_), fun c => ?_⟩
  · subst c
    have e2 : ((ofL (off.take 6)).filter fun x => aIn (ofL (on.take 6)) x == false) = minusL (ofL (off.take 6)) (ofL (on.take 6)) := by
      unfold minusL; congr 1; funext x; cases aIn (ofL (on.take 6)) x <;> rfl
    rw [e2]
    refine h _ _ ⟨ofL_set _, (ofL_set _).filter _, by omega, Nat.le_trans (List.length_filter_le _ _) (by omega), fun x hx => (mem_minusL.1 hx).2, fun c => (by cases c)⟩ fun q => ?_
    have a1 : on.take 6 = on := List.take_of_length_le q.lon
    have a2 : off.take 6 = off := List.take_of_length_le q.loff
    rw [a1, a2, ofL_id q.son, ofL_id q.soff]
    refine ⟨rfl, ?_⟩
    unfold minusL
    rw [List.filter_eq_self]
    intro x hx; unfold aIn; simp [q.no x hx]
  · subst c
    refine h _ _ ⟨ofL_set _, ASet.nil, by omega, by simp, by simp, fun _ => rfl⟩ fun q => ?_
    have a1 : on.take 6 = on := List.take_of_length_le q.lon
    rw [a1, ofL_id q.son]
    exact ⟨rfl, (q.any rfl).symm⟩
theorem mergeStates_ok {e : Bool} {on off : List Ad} {e2 : Bool} {raw : List Ad} {a : Ad} {Q : Bool → Prop} (h : Q true) : law19_MergeStates_W e on off e2 raw a Q := by
  refine few15_ok fun on' off' hF _ => few15_ok fun on2 off2 _ hE => ?_
  obtain ⟨rfl, rfl⟩ := hE hF
  have n1 := hF.lon
  have n2 := hF.loff
  have tail : ∀ (w : List Ad) (b : Bool), ASet w → w.length ≤ 6 → (∀ K : Bool → Prop, K (letsB (b, w) a) → ref15_Lets_W e on2 off2 a K) → b = e →
      ref19_Same_W b w b w (fun r_3 => (r_3 = true → merge_Lets_W b w a (fun r_4 => ref15_Lets_W e on2 off2 a (fun r_5 => ((r_4 == r_5) = true → merge_Good_W false (raw.take 6) (fun r_6 => ref11_Of_W (raw.take 6) (fun r_7 => ref11_Same_W r_7 (raw.take 6) (fun r_8 => ((r_6 == r_8) = true → law19_lives_W  (fun r_9 => Q r_9)) ∧ ((r_6 == r_8) = false → Q false))))) ∧ ((r_4 == r_5) = false → Q false)))) ∧ (r_3 = false → Q false)) := by
    intro w b hw hl hL _
    have lr : (raw.take 6).length ≤ 6 := by rw [List.length_take]; omega
    have ll := ofL_len (raw.take 6)
    refine sameF_ok rfl (by omega) ⟨fun _ => letsP_ok hw (by omega) (hL _ ?_), fun c => (by cases c)⟩
    rw [beq_self_eq_true]
    refine ⟨fun _ => setP_ok (by omega) fun g hg => ofR_ok (by omega) (sameR_ok (by omega) ?_), fun c => (by cases c)⟩
    have : g = decide (ofL (raw.take 6) = raw.take 6) := by
      rw [Bool.eq_iff_iff, hg, decide_eq_true_iff]
      exact ⟨fun q => ofL_id q, fun q => by rw [← q]; exact ofL_set _⟩
    rw [this, beq_self_eq_true]
    exact ⟨fun _ => livesP_ok h, fun c => (by cases c)⟩
  refine ⟨fun c => clone_Ad (by omega) (addrs_ok ⟨fun _ => ?_, fun c2 => ?_⟩), fun c => clone_Ad (by omega) (addrs_ok ⟨fun c2 => ?_, fun _ => ?_⟩)⟩
  · subst c
    refine tail off2 true hF.soff n2 (fun K hK => ⟨fun _ => hasR_ok (by omega) ?_, fun c => (by cases c)⟩) rfl
    unfold letsB at hK
    cases q : aIn off2 a <;> rw [q] at hK <;> exact ⟨fun c => (by first | exact hK | cases c), fun c => (by first | exact hK | cases c)⟩
  · rw [c] at c2; cases c2
  · rw [c] at c2; cases c2
  · subst c
    refine tail on2 false hF.son n1 (fun K hK => ⟨fun c => (by cases c), fun _ => hasR_ok (by omega) ?_⟩) rfl
    unfold letsB at hK
    cases q : aIn on2 a <;> rw [q] at hK <;> exact hK
end Go.Wk
