/- Plain words: the law of filters' texts. -/
import Derived.Test.YtlhcpndehikneaaGreatDoorSxmL
set_option linter.unusedSimpArgs false
set_option linter.unusedVariables false
set_option linter.unusedSectionVars false
namespace Go.Wk
open Go.HL
variable [DM]
theorem cut_one {c : UInt8} {x r : Str} (h : c ∉ x) : cutS (x ++ c :: r) [c] = (x, r, true) := by
  unfold cutS Lib.cut
  rw [idx_at h, if_pos (by omega)]
  simp
def mode (e : Bool) : Str := if e = true then [101, 120] else [105, 110]
theorem mode_no (e : Bool) : (32 : UInt8) ∉ mode e := by cases e <;> decide
theorem mode_ex (e : Bool) : decide ((mode e : Str) = [101, 120]) = e := by cases e <;> rfl
/-- A filter's text. -/
def txF (e : Bool) (l : List Ad) : Str := mode e ++ 32 :: txL l
theorem txF_ex (l : List Ad) : txF true l = [101, 120, 32] ++ txL l := rfl
theorem txF_in (l : List Ad) : txF false l = [105, 110, 32] ++ txL l := rfl
theorem txF_cut (e : Bool) (l : List Ad) : cutS (txF e l) [32] = (mode e, txL l, true) := cut_one (mode_no e)
theorem txF_len (e : Bool) (l : List Ad) : (txF e l).length ≤ l.length * 101 + 4 := by
  have := txL_len (l := l)
  cases e
  · rw [txF_in, List.length_append]; simp only [List.length_cons, List.length_nil]; omega
  · rw [txF_ex, List.length_append]; simp only [List.length_cons, List.length_nil]; omega
theorem printMR_ok {e : Bool} {l : List Ad} {Q : Str → Prop} (hl : l.length ≤ 1000) (h : Q (txF e l)) : ref19_Print_W e l Q := by
  have hb := txL_len (l := l)
  refine ⟨fun c => printTR_ok hl ⟨?_, ?_⟩, fun c => printTR_ok hl ⟨?_, ?_⟩⟩
  · simp only [List.length_cons, List.length_nil]; omega
  · rw [c, txF_ex] at h; exact h
  · simp only [List.length_cons, List.length_nil]; omega
  · rw [c, txF_in] at h; exact h
theorem textMP_ok {e : Bool} {l : List Ad} {Q : Str → Prop} (hl : l.length ≤ 1000) (h : Q (txF e l)) : merge_text_W e l Q := by
  have hb := txL_len (l := l)
  refine ⟨fun c => textTP_ok hl ⟨?_, ?_⟩, fun c => textTP_ok hl ⟨?_, ?_⟩⟩
  · simp only [List.length_cons, List.length_nil]; omega
  · rw [c, txF_ex] at h; exact h
  · simp only [List.length_cons, List.length_nil]; omega
  · rw [c, txF_in] at h; exact h
theorem cutS_le (s : Str) : (cutS s [32]).2.1.length ≤ s.length := (cutS_len s [32]).2
theorem parseM_any {s : Str} (hl : s.length ≤ 900) {Q : Bool → List Ad → Int → Prop} (hp : ∀ x ∈ splitS (cutS s [32]).2.1 [44], x.length ≤ 800)
    (h1 : ∀ e l, ASet l → l.length ≤ s.length + 1 → txF e l = s → (∀ e' l', ASet l' → txF e' l' = s → e' = e ∧ l' = l) → Q e l 0) (h2 : (∀ e l, ASet l → txF e l ≠ s) → Q false [] 2) : merge_Parse_W s Q := by
  have hc := cutS_le s
  have of : ∀ e l, txF e l = s → (cutS s [32]).1 = mode e ∧ (cutS s [32]).2.1 = txL l := by
    rintro e l rfl; rw [txF_cut]; exact ⟨rfl, rfl⟩
  refine ⟨by omega, parseL_any (by omega) hp (fun l hA hn ht hu => ⟨fun q => absurd rfl q, fun _ => textMP_ok (by omega) ⟨fun q => h2 fun e' l' hA' e => ?_, fun q => h1 _ l hA (by omega) (by simpa using q) fun e' l' hA' e => ?_⟩⟩) (fun hno => ⟨fun _ => ⟨fun _ => h2 fun e' l' hA' e => ?_, fun q => (by cases q)⟩, fun q => absurd q (by decide)⟩)⟩
  · have q' : txF (decide (((cutS s [32]).1 : Str) = [101, 120])) l ≠ s := by simpa using q
    obtain ⟨k1, k2⟩ := of e' l' e
    rw [hu l' hA' k2.symm] at e
    rw [k1, mode_ex] at q'
    exact q' e
  · obtain ⟨k1, k2⟩ := of e' l' e
    exact ⟨by rw [k1, mode_ex], hu l' hA' k2.symm⟩
  · exact hno l' hA' (of e' l' e).2.symm
theorem livesM_ok {Q : Bool → Prop} (h : Q true) : law19_lives_W Q := by
  refine fourP_ok (by decide) (fourP_ok (by decide) (fourP_ok (by decide) fun b1 b2 => ?_))
  have s1 : ASet [four 1] := ⟨by simp, by decide +kernel⟩
  have s12 : ASet [four 1, four 2] := by
    have : ofL [four 1, four 2] = [four 1, four 2] := by decide +kernel
    rw [← this]; exact ofL_set _
  have hs2 : ASet [four 2] := ⟨by simp, by decide +kernel⟩
  have hg : Goods ([(false, (.slice (some ⟨b1, 0, none⟩) 1 1, [four 1])), (true, (.slice (some ⟨b2, 0, none⟩) 2 2, [four 1, four 2]))] : List Fi) :=
    ⟨fun f hf => by
      simp only [List.mem_cons, List.not_mem_nil, or_false] at hf
      rcases hf with rfl | rfl
      · exact ⟨s1, by simp⟩
      · exact ⟨s12, by simp⟩, by simp⟩
  refine allP_ok hg fun S hS hl hm => ?_
  have hS2 : S = [four 2] := hS.ext hs2 fun x => by
    rw [hm, inB1 (by rfl)]
    constructor
    · rintro ⟨q, r⟩
      have h1 := q _ (List.mem_cons_of_mem _ (List.mem_cons_self ..)) rfl
      have h2 : x ∉ [four 1] := fun e => r ⟨_, List.mem_cons_self .., rfl, e⟩
      simp only [List.mem_cons, List.not_mem_nil, or_false] at h1 h2 ⊢
      exact h1.resolve_left h2
    · intro e
      have e : x = four 2 := by simpa using e
      subst e
      have ne : four 2 ≠ four 1 := by decide +kernel
      refine ⟨fun f hf a => ?_, fun ⟨f, hf, a, b⟩ => ?_⟩
      · simp only [List.mem_cons, List.not_mem_nil, or_false] at hf
        rcases hf with rfl | rfl
        · cases a
        · simp
      · simp only [List.mem_cons, List.not_mem_nil, or_false] at hf
        rcases hf with rfl | rfl
        · simp at b; exact ne b
        · cases a
  subst hS2
  have ht : txF true [four 2] = [101, 120, 32, 49, 48, 46, 48, 46, 48, 46, 50] := by
    rw [txF_ex, txL_ne (by simp)]
    show [101, 120, 32] ++ joinS [txt (four ((2 : Nat) : Int))] [44] = _
    rw [joinS_one, four_tx 2 (by decide)]
    rfl
  refine ⟨fun _ => ⟨fun _ => ⟨by decide, fourP_ok (by decide) ⟨fun _ => ?_, fun c => absurd rfl c⟩⟩, fun c => absurd rfl c⟩, fun c => ?_⟩
  · refine textMP_ok (e := true) (by simp) ?_
    rw [ht]; dsimp only; rw [decide_eq_true rfl]; exact h
  · cases (show true = false from c)
theorem few_ok {e : Bool} {l : List Ad} {Q : Bool → List Ad → Prop} (h : Q e (ofL (l.take 6))) : law19_Few_W e l Q :=
  addrsN_ok 6 (by omega) (ofR_ok (by rw [List.length_take]; omega) h)
theorem mergeTexts_ok {e : Bool} {l : List Ad} {s : Str} {Q : Bool → Prop} (h : Q true) : law19_MergeTexts_W e l s Q := by
  refine few_ok (cutT_any (n := 80) fun r hr => ?_)
  have ha := ofL_set (l.take 6)
  have hn : (ofL (l.take 6)).length ≤ 6 := by have := ofL_len (l.take 6); rw [List.length_take] at this; omega
  generalize ofL (l.take 6) = a at ha hn
  have ht := txF_len e a
  have rest : ∀ (x : Bool) (c : List Ad) (f : Int), (f = 0 ∧ ASet c ∧ txF x c = r ∧ c.length ≤ 81) ∨ (f = 2 ∧ x = false ∧ c = []) → law19_MergeTexts_j1 Q r x c f false := by
    rintro x c f (⟨rfl, hc, ec, nc⟩ | ⟨rfl, rfl, rfl⟩)
    · exact ⟨fun q => (by cases q), fun _ => ⟨fun q => absurd rfl q, fun _ => printMR_ok (by omega) ⟨fun _ => livesM_ok h, fun q => absurd ec q⟩⟩⟩
    · exact ⟨fun q => (by cases q), fun _ => ⟨fun _ => ⟨fun _ => sameR_ok (by simp) ⟨fun _ => ⟨fun _ => livesM_ok h, fun q => absurd rfl q⟩, fun q => absurd rfl (of_decide_eq_false q)⟩, fun q => (by cases q)⟩, fun q => absurd q (by decide)⟩⟩
  have tail : ∀ (x : Bool) (c : List Ad) (f : Int), (f = 0 ∧ ASet c ∧ txF x c = r ∧ c.length ≤ 81) ∨ (f = 2 ∧ x = false ∧ c = []) → law19_Few_W e a (fun r_0_2 r_1_2 => merge_Print_W r_0_2 r_1_2 (fun r_4 => ref19_Print_W e a (fun r_5 => (¬ ((r_4 : Str) = r_5) → law19_MergeTexts_j1 Q r x c f true) ∧ ((r_4 : Str) = r_5 → ref19_Same_W e a e a (fun r_6 => ((!r_6) = true → law19_MergeTexts_j1 Q r x c f true) ∧ ((!r_6) = false → law19_MergeTexts_j1 Q r x c f (!decide ((0 : Int) = 0)))))))) := by
    intro x c f hc
    refine few_ok ?_
    rw [List.take_of_length_le hn, ofL_id ha]
    exact textMP_ok (by omega) (printMR_ok (by omega) ⟨fun q => absurd rfl q, fun _ => ⟨fun _ => sameR_ok (by omega) ⟨fun q => (by simp at q), fun _ => rest x c f hc⟩, fun q => (by simp at q)⟩⟩)
  refine printMR_ok (by omega) (parseM_any (by omega) (fun x hx => ?_) (fun e1 b hb _ eb ub => ?_) (fun q => absurd rfl (q e a ha)))
  · rw [txF_cut] at hx
    have hx : x ∈ splitS (txL a) [44] := hx
    by_cases q : a = []
    · subst q
      have := (split_mem _ _ x hx).1
      have e : (txL []).length = 1 := rfl
      omega
    · rw [txL_ne q, txJ_split q] at hx
      obtain ⟨y, _, rfl⟩ := List.mem_map.1 hx
      have := txt_len y; omega
  · obtain ⟨rfl, rfl⟩ := ub e a ha rfl
    refine parseM_any (by omega) (fun x hx => by have := (split_mem _ _ x hx).1; have := cutS_le r; omega) (fun x c hc nc ec _ => tail x c 0 (.inl ⟨rfl, hc, ec, by omega⟩)) (fun _ => tail false [] 2 (.inr ⟨rfl, rfl, rfl⟩))
end Go.Wk
