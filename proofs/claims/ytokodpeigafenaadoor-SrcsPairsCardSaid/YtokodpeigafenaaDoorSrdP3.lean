/- Plain words: what a set prints; the laws SrcsMakes and SrcsPairs. -/
import Derived.Test.YtokodpeigafenaaDoorSrdP2
set_option linter.unusedSimpArgs false
set_option linter.unusedVariables false
set_option linter.unusedSectionVars false
namespace Go.Wk
open Go.HL
variable [DM]
theorem sameP_ok {a b : List Ad} {Q : Bool → Prop} (ha : a.length ≤ 100000) (h : Q (decide (a = b))) : srcs_Same_W a b Q := equal_Ad (by omega) h
theorem len0 (l : List Ad) : decide ((l.length : Int) = 0) = decide (l = []) := by
  rw [Bool.eq_iff_iff, decide_eq_true_iff, decide_eq_true_iff, ← List.length_eq_zero_iff]; omega
theorem withinP_ok {a b : List Ad} {Q : Bool → Prop} (ha : ASet a) (hb : ASet b) (hl : a.length + b.length ≤ 10000) (h : Q (decide (minusL a b = []))) : srcs_Within_W a b Q := by
  refine ⟨aCmp, fun _ _ => cmpP_ok rfl, walkP_ok hl ?_⟩
  rw [walkL_minus ha hb]
  show Q (decide (((minusL a b).length : Int) = 0))
  rw [len0]; exact h
/-! ### Texts -/
def four (n : Int) : Ad := (false, mkB 16 [10, 0, 0, n, 0, 0, 0, 0, 0, 0, 0, 0, 0, 0, 0, 0])
theorem fourP_ok {n : Int} {Q : Ad → Prop} (hn : 0 ≤ n ∧ n < 256) (h : Q (four n)) : law11_four_W n Q := ⟨hn, h⟩
def dots (a : Ad) : Str := joinS ((cut a.2.1 0 4).map fun x => dec (x.toNat : Int)) [46]
theorem textP_ok {a : Ad} {Q : Str → Prop} (h4 : a.1 = false) (hb : ∀ x ∈ cut a.2.1 0 4, x.toNat < 100) (hl : (dots a).length ≤ 1000) (h : Q (dots a)) : addr_text_W a Q := by
  have h44 : (cut a.2.1 0 4).length ≤ 4 := by unfold cut; simp; omega
  refine ⟨fun _ => ?_, fun c => by rw [h4] at c; cases c⟩
  refine loop_up (cut a.2.1 0 4).length (fun i s => s = ((cut a.2.1 0 4).take i).map fun x => dec (x.toNat : Int)) rfl fun K i s hi hs hK => ?_
  have e : s.length = i := by rw [hs, List.length_map, List.length_take]; omega
  show addr_text_l2 _ _ _ _ _
  unfold addr_text_l2
  refine ⟨fun d => ?_, fun d => ?_⟩
  · have h1 : i < (cut a.2.1 0 4).length := by omega
    have h2 := hb _ (List.getElem_mem h1)
    rw [gi_nat h1]
    refine ⟨by (first | omega | (unfold I64; omega) | (simp only [List.length_append, List.length_cons, List.length_nil, List.length_take, List.length_drop] at *; omega) | (unfold I64; simp only [List.length_append, List.length_cons, List.length_nil, List.length_take, List.length_drop] at *; omega)), by (first | omega | (unfold I64; omega) | (simp only [List.length_append, List.length_cons, List.length_nil, List.length_take, List.length_drop] at *; omega) | (unfold I64; simp only [List.length_append, List.length_cons, List.length_nil, List.length_take, List.length_drop] at *; omega)), ⟨by omega, by omega⟩, by (first | omega | (unfold I64; omega) | (simp only [List.length_append, List.length_cons, List.length_nil, List.length_take, List.length_drop] at *; omega) | (unfold I64; simp only [List.length_append, List.length_cons, List.length_nil, List.length_take, List.length_drop] at *; omega)), by (first | omega | (unfold I64; omega) | (simp only [List.length_append, List.length_cons, List.length_nil, List.length_take, List.length_drop] at *; omega) | (unfold I64; simp only [List.length_append, List.length_cons, List.length_nil, List.length_take, List.length_drop] at *; omega)), hK (i + 1) _ (by omega) (by omega) ?_⟩
    rw [List.take_succ_eq_append_getElem h1, List.map_append, hs]; rfl
  · have h3 : i = (cut a.2.1 0 4).length := by omega
    subst h3
    rw [List.take_length] at hs
    subst hs
    exact ⟨⟨by simp only [List.length_map]; omega, Nat.le_trans hl (by decide)⟩, h⟩
theorem printP_ok {a b : Ad} {Q : Str → Prop} (ha : a.1 = false ∧ (∀ x ∈ cut a.2.1 0 4, x.toNat < 100) ∧ (dots a).length ≤ 1000) (hb : b.1 = false ∧ (∀ x ∈ cut b.2.1 0 4, x.toNat < 100) ∧ (dots b).length ≤ 1000) (hl : (joinS [dots a, dots b] [44]).length ≤ 1000) (h : Q (joinS [dots a, dots b] [44])) : srcs_Print_W [a, b] Q := by
  refine ⟨fun c => by simp at c, fun _ => ?_⟩
  refine loop_up 2 (fun i s => s = ([a, b].take i).map dots) rfl fun K i s hi hs hK => ?_
  have e : s.length = i := by rw [hs, List.length_map, List.length_take]; simp; omega
  show srcs_text_l1 _ _ _ _ _
  unfold srcs_text_l1
  refine ⟨fun d => ?_, fun d => ?_⟩
  · have h1 : i < [a, b].length := by simp at d ⊢; omega
    refine ⟨by (first | omega | (unfold I64; omega) | (simp only [List.length_append, List.length_cons, List.length_nil, List.length_take, List.length_drop] at *; omega) | (unfold I64; simp only [List.length_append, List.length_cons, List.length_nil, List.length_take, List.length_drop] at *; omega)), ?_⟩
    rw [gi_nat h1]
    have hx : [a, b][i].1 = false ∧ (∀ x ∈ cut [a, b][i].2.1 0 4, x.toNat < 100) ∧ (dots [a, b][i]).length ≤ 1000 := by
      have : i = 0 ∨ i = 1 := by simp at h1; omega
      rcases this with rfl | rfl
      · exact ha
      · exact hb
    refine textP_ok hx.1 hx.2.1 hx.2.2 ⟨by (first | omega | (unfold I64; omega) | (simp only [List.length_append, List.length_cons, List.length_nil, List.length_take, List.length_drop] at *; omega) | (unfold I64; simp only [List.length_append, List.length_cons, List.length_nil, List.length_take, List.length_drop] at *; omega)), by (first | omega | (unfold I64; omega) | (simp only [List.length_append, List.length_cons, List.length_nil, List.length_take, List.length_drop] at *; omega) | (unfold I64; simp only [List.length_append, List.length_cons, List.length_nil, List.length_take, List.length_drop] at *; omega)), hK (i + 1) _ (by omega) (by simp at h1; omega) ?_⟩
    rw [List.take_succ_eq_append_getElem h1, List.map_append, hs]; rfl
  · have h3 : i = 2 := by simp at d; omega
    subst h3
    subst hs
    exact ⟨⟨by simp, Nat.le_trans hl (by decide)⟩, h⟩
theorem four_of : ofL [four 2, four 1, four 2] = [four 1, four 2] := by decide +kernel
theorem four_txt : joinS [dots (four 1), dots (four 2)] [44] = [49, 48, 46, 48, 46, 48, 46, 49, 44, 49, 48, 46, 48, 46, 48, 46, 50] := by decide +kernel
theorem livesP_ok {Q : Bool → Prop} (h : Q true) : law11_lives_W Q := by
  have hset : ASet [four 1, four 2] := by rw [← four_of]; exact ofL_set _
  refine fourP_ok (by decide) (fourP_ok (by decide) (fourP_ok (by decide) (ofP_ok (by decide) ?_)))
  rw [four_of]
  refine ⟨fun _ => ⟨by decide, fourP_ok (by decide) ⟨fun _ => fourP_ok (by decide) (hasP_ok hset (by decide) ⟨fun _ => fourP_ok (by decide) (hasP_ok hset (by decide) ⟨fun _ => ?_, fun c => ?_⟩), fun c => ?_⟩), fun c => ?_⟩⟩, fun c => ?_⟩
  · refine printP_ok (by decide +kernel) (by decide +kernel) (by decide +kernel) ?_
    rw [four_txt, decide_eq_true rfl]; exact h
  · exact absurd c (by decide +kernel)
  · exact absurd c (by decide +kernel)
  · exact absurd rfl c
  · exact absurd (by decide) c
/-! ### The laws -/
theorem makes_ok {l : List Ad} {a : Ad} {Q : Bool → Prop} (h : Q true) : law11_SrcsMakes_W l a Q := by
  have hn : (l.take 10).length ≤ 10 := by rw [List.length_take]; omega
  have hs := ofL_set (l.take 10)
  have ho := ofL_len (l.take 10)
  refine addrs_ok (ofR_ok (by omega) (addrs_ok (ofP_ok (by omega) (sameR_ok (by omega) ?_))))
  rw [decide_eq_true rfl]
  refine ⟨fun c => (by cases c), fun _ => setP_ok (by omega) fun b hb => ?_⟩
  rw [hb.2 hs]
  refine ⟨fun c => (by cases c), fun _ => addrs_ok (setP_ok (by omega) fun b2 hb2 => addrs_ok (sameR_ok (by omega) ?_))⟩
  have e : b2 = decide (l.take 10 = ofL (l.take 10)) := by
    rw [Bool.eq_iff_iff, hb2, decide_eq_true_iff]
    exact ⟨fun q => (ofL_id q).symm, fun q => by rw [q]; exact ofL_set _⟩
  rw [e, beq_self_eq_true]
  refine ⟨fun c => (by cases c), fun _ => ?_⟩
  refine loop_up1 (ofL (l.take 10)).length (fun _ => True) trivial fun K i hi _ hK => ?_
  show law11_SrcsMakes_l1 _ _ _ _ _ _
  unfold law11_SrcsMakes_l1
  refine ⟨fun d => ?_, fun d => ?_⟩
  · have h1 : i < (ofL (l.take 10)).length := by omega
    rw [gi_nat h1]
    refine ⟨by (first | omega | (unfold I64; omega) | (simp only [List.length_append, List.length_cons, List.length_nil, List.length_take, List.length_drop] at *; omega) | (unfold I64; simp only [List.length_append, List.length_cons, List.length_nil, List.length_take, List.length_drop] at *; omega)), hasP_ok hs (by omega) ?_⟩
    have : aIn (ofL (l.take 10)) (ofL (l.take 10))[i] = true := decide_eq_true (List.getElem_mem h1)
    rw [this]
    exact ⟨fun c => (by cases c), fun _ => ⟨by (first | omega | (unfold I64; omega) | (simp only [List.length_append, List.length_cons, List.length_nil, List.length_take, List.length_drop] at *; omega) | (unfold I64; simp only [List.length_append, List.length_cons, List.length_nil, List.length_take, List.length_drop] at *; omega)), hK (i + 1) (by omega) (by omega) trivial⟩⟩
  · have e2 : (ofL (l.take 10)).take 10 = ofL (l.take 10) := List.take_of_length_le (by omega)
    refine addrs_ok ?_
    rw [e2]
    refine hasP_ok hs (by omega) (hasR_ok (by omega) ?_)
    rw [beq_self_eq_true]
    exact ⟨fun _ => livesP_ok h, fun c => (by cases c)⟩
theorem orL_comm {a b : List Ad} (ha : ASet a) (hb : ASet b) : orL b a = orL a b :=
  (orL_set b a).ext (orL_set a b) fun x => by rw [mem_orL hb ha, mem_orL ha hb, or_comm]
theorem or_parts {a b : List Ad} (ha : ASet a) (hb : ASet b) : orL (andL a b) (minusL a b) = a :=
  (orL_set _ _).ext ha fun x => by
    have h := mem_orL (a := andL a b) (b := minusL a b) (ha.filter _) (ha.filter _) (x := x)
    rw [h, mem_andL, mem_minusL]
    by_cases q : x ∈ b <;> simp [q]
theorem pairs_ok {l m : List Ad} {Q : Bool → Prop} (h : Q true) : law11_SrcsPairs_W l m Q := by
  have hn : (l.take 10).length ≤ 10 := by rw [List.length_take]; omega
  have hm : (m.take 10).length ≤ 10 := by rw [List.length_take]; omega
  have hs := ofL_set (l.take 10)
  have ht := ofL_set (m.take 10)
  have ho := ofL_len (l.take 10)
  have hp := ofL_len (m.take 10)
  refine addrs_ok (ofR_ok (by omega) (addrs_ok (ofR_ok (by omega) ?_)))
  generalize ofL (l.take 10) = a at *
  generalize ofL (m.take 10) = b at *
  have ea : a.take 10 = a := List.take_of_length_le (by omega)
  have eb : b.take 10 = b := List.take_of_length_le (by omega)
  have la : (andL a b).length ≤ a.length := List.length_filter_le _ _
  have lm : (minusL a b).length ≤ a.length := List.length_filter_le _ _
  have lo := orL_len a b
  have lo2 := orL_len b a
  have lo3 := orL_len (andL a b) (minusL a b)
  have sa : ASet (andL a b) := hs.filter _
  have sm : ASet (minusL a b) := hs.filter _
  refine addrs_ok (addrs_ok ?_)
  rw [ea, eb]
  refine andP_ok hs ht (by omega) (addrs_ok (addrs_ok ?_))
  rw [ea, eb]
  refine minusP_ok hs ht (by omega) (addrs_ok (addrs_ok ?_))
  rw [ea, eb]
  refine orP_ok hs ht (by omega) (pickR_ok (by omega) (by omega) (sameR_ok (by omega) ?_))
  have e1 : andL a b = a.filter fun x => aIn b x == true := by unfold andL; congr 1; funext x; cases aIn b x <;> rfl
  have e2 : minusL a b = a.filter fun x => aIn b x == false := by unfold minusL; congr 1; funext x; cases aIn b x <;> rfl
  rw [← e1, decide_eq_true rfl]
  refine ⟨fun c => (by cases c), fun _ => pickR_ok (by omega) (by omega) (sameR_ok (by omega) ?_)⟩
  rw [← e2, decide_eq_true rfl]
  refine ⟨fun c => (by cases c), fun _ => orR_ok (by omega) (by omega) (sameR_ok (by omega) ?_)⟩
  rw [decide_eq_true rfl]
  refine ⟨fun c => (by cases c), fun _ => orP_ok ht hs (by omega) (sameR_ok (by omega) ?_)⟩
  rw [orL_comm hs ht, decide_eq_true rfl]
  refine ⟨fun c => (by cases c), fun _ => orP_ok sa sm (by omega) (sameR_ok (by omega) ?_)⟩
  rw [or_parts hs ht, decide_eq_true rfl]
  refine ⟨fun _ => sameP_ok (by omega) (sameR_ok (by omega) ?_), fun c => (by cases c)⟩
  rw [beq_self_eq_true]
  refine ⟨fun _ => withinP_ok hs ht (by omega) ?_, fun c => (by cases c)⟩
  rw [len0, beq_self_eq_true]
  refine ⟨fun _ => withinP_ok sa ht (by omega) ?_, fun c => (by cases c)⟩
  have e4 : minusL (andL a b) b = [] := by
    unfold minusL andL aIn; rw [List.filter_filter, List.filter_eq_nil_iff]; intro x hx; simp
  rw [e4, decide_eq_true rfl]
  exact ⟨fun _ => livesP_ok h, fun c => (by cases c)⟩
end Go.Wk
