/- Plain words: the program's and the document's functions of filters together; the laws MergeAll and MergeStates. -/
import Derived.Test.YtokodpeigafenaaDoorMrgP3
set_option linter.unusedSimpArgs false
set_option linter.unusedVariables false
set_option linter.unusedSectionVars false
namespace Go.Wk
open Go.HL
variable [DM]
structure AllInv (l : List Fi) (i : Nat) (sm : List Ad) (e : Bool) (o : List Ad) : Prop where
  s1 : ASet sm
  s2 : ∀ x, x ∈ sm ↔ ∃ f ∈ l.take i, f.1 = false ∧ x ∈ f.2.2
  s3 : sm.length ≤ 6 * i
  e1 : e = true ↔ ∃ f ∈ l.take i, f.1 = true
  o1 : ASet o
  o2 : e = true → ∀ x, x ∈ o ↔ ∀ f ∈ l.take i, f.1 = true → x ∈ f.2.2
  o3 : o.length ≤ 6
theorem allP_ok {l : List Fi} {Q : Bool → List Ad → Prop} (hg : Goods l) (h : ∀ S, ASet S → S.length ≤ 100 → (∀ x, x ∈ S ↔ inB (l.map bare) x = true) → Q (exB (l.map bare)) S) : merge_All_W l Q := by
  have hl := hg.len
  refine ⟨fun s => ∃ i : Nat, s.2.2.2 = i ∧ i ≤ l.length ∧ AllInv l i s.1 s.2.1 s.2.2.1, fun s => ((l.length : Int) - s.2.2.2).toNat, ⟨0, rfl, Nat.zero_le _, ⟨ASet.nil, by simp, by simp, by simp, ASet.nil, by simp, by simp⟩⟩, ?_⟩
  rintro ⟨sm, e, o, _⟩ ⟨i, rfl, hi, hI⟩
  replace hI : AllInv l i sm e o := hI
  have h3 := hI.s3
  have h4 := hI.o3
  show merge_All_l1 l Q _ sm e o (i : Int)
  unfold merge_All_l1
  refine ⟨fun d => ⟨by (first | omega | (unfold I64; omega) | (simp only [List.length_append, List.length_cons, List.length_nil, List.length_take, List.length_drop] at *; omega) | (unfold I64; simp only [List.length_append, List.length_cons, List.length_nil, List.length_take, List.length_drop] at *; omega)), ?_⟩, fun d => ?_⟩
  · have i1 : i < l.length := by simp at d; omega
    have hf := hg.set _ (List.getElem_mem i1)
    rw [gi_nat i1]
    have key : ∀ sm' e' o', AllInv l (i + 1) sm' e' o' → (I64 ((i : Int) + 1)) ∧ ((∃ j : Nat, ((sm', e', o', (i : Int) + 1) : List Ad × Bool × List Ad × Int).2.2.2 = j ∧ j ≤ l.length ∧ AllInv l j sm' e' o') ∧ ((l.length : Int) - ((i : Int) + 1)).toNat < ((l.length : Int) - (i : Int)).toNat) := fun sm' e' o' q =>
      ⟨by (first | omega | (unfold I64; omega) | (simp only [List.length_append, List.length_cons, List.length_nil, List.length_take, List.length_drop] at *; omega) | (unfold I64; simp only [List.length_append, List.length_cons, List.length_nil, List.length_take, List.length_drop] at *; omega)), ⟨i + 1, by simp, by omega, q⟩, by omega⟩
    have tm := fun x : Fi => take_succ_mem i1 (x := x)
    refine ⟨fun c => ?_, fun c => ⟨fun c2 => ?_, fun c2 => ?_⟩⟩
    · have c' : l[i].1 = false := by simpa using c
      refine orP_ok hI.s1 hf.1 (by omega) (key _ _ _ ?_)
      refine ⟨orL_set _ _, fun x => ?_, by have := orL_len sm l[i].2.2; omega, ?_, hI.o1, fun he x => ?_, hI.o3⟩
      · rw [mem_orL hI.s1 hf.1, hI.s2]
        constructor
        · rintro (⟨f, hm, a, b⟩ | b)
          · exact ⟨f, (tm f).2 (.inl hm), a, b⟩
          · exact ⟨_, (tm _).2 (.inr rfl), c', b⟩
        · rintro ⟨f, hm, a, b⟩
          rcases (tm f).1 hm with hm | rfl
          · exact .inl ⟨f, hm, a, b⟩
          · exact .inr b
      · rw [hI.e1]
        constructor
        · rintro ⟨f, hm, a⟩; exact ⟨f, (tm f).2 (.inl hm), a⟩
        · rintro ⟨f, hm, a⟩
          rcases (tm f).1 hm with hm | rfl
          · exact ⟨f, hm, a⟩
          · rw [c'] at a; cases a
      · rw [hI.o2 he]
        constructor
        · intro q f hm a
          rcases (tm f).1 hm with hm | rfl
          · exact q f hm a
          · rw [c'] at a; cases a
        · intro q f hm a; exact q f ((tm f).2 (.inl hm)) a
    · have c' : l[i].1 = true := by simpa using c
      have e0 : e = false := by simpa using c2
      subst e0
      have none : ∀ f ∈ l.take i, f.1 = false := fun f hm => by
        cases q : f.1 with
        | false => rfl
        | true => exact absurd (hI.e1.2 ⟨f, hm, q⟩) (by simp)
      refine key _ _ _ ⟨hI.s1, fun x => ?_, by omega, ?_, hf.1, fun _ x => ?_, hf.2⟩
      · rw [hI.s2]
        constructor
        · rintro ⟨f, hm, a, b⟩; exact ⟨f, (tm f).2 (.inl hm), a, b⟩
        · rintro ⟨f, hm, a, b⟩
          rcases (tm f).1 hm with hm | rfl
          · exact ⟨f, hm, a, b⟩
          · rw [c'] at a; cases a
      · exact ⟨fun _ => ⟨_, (tm _).2 (.inr rfl), c'⟩, fun _ => rfl⟩
      · constructor
        · intro q f hm a
          rcases (tm f).1 hm with hm | rfl
          · rw [none f hm] at a; cases a
          · exact q
        · intro q; exact q _ ((tm _).2 (.inr rfl)) c'
    · have c' : l[i].1 = true := by simpa using c
      have e0 : e = true := by simpa using c2
      refine andP_ok hI.o1 hf.1 (by omega) (key _ _ _ ?_)
      refine ⟨hI.s1, fun x => ?_, by omega, ?_, hI.o1.filter _, fun _ x => ?_, Nat.le_trans (List.length_filter_le _ _) hI.o3⟩
      · rw [hI.s2]
        constructor
        · rintro ⟨f, hm, a, b⟩; exact ⟨f, (tm f).2 (.inl hm), a, b⟩
        · rintro ⟨f, hm, a, b⟩
          rcases (tm f).1 hm with hm | rfl
          · exact ⟨f, hm, a, b⟩
          · rw [c'] at a; cases a
      · exact ⟨fun _ => ⟨_, (tm _).2 (.inr rfl), c'⟩, fun _ => e0⟩
      · rw [mem_andL, hI.o2 e0]
        constructor
        · rintro ⟨q, q2⟩ f hm a
          rcases (tm f).1 hm with hm | rfl
          · exact q f hm a
          · exact q2
        · intro q; exact ⟨fun f hm a => q f ((tm f).2 (.inl hm)) a, q _ ((tm _).2 (.inr rfl)) c'⟩
  · have i1 : i = l.length := by simp at d; omega
    subst i1
    have tk : l.take l.length = l := List.take_length
    have ee : e = exB (l.map bare) := by
      have := hI.e1; rw [tk, ← exB_iff] at this
      exact Bool.eq_iff_iff.2 this
    have s2 := hI.s2; rw [tk] at s2
    have o2 := hI.o2; rw [tk] at o2
    refine ⟨fun c => ?_, fun c => ?_⟩
    · have e0 : e = false := by simpa using c
      have := h sm hI.s1 (by omega) fun x => by rw [s2, inB0 (ee ▸ e0)]
      rw [← ee, e0] at this; exact this
    · have e0 : e = true := by simpa using c
      refine minusP_ok hI.o1 hI.s1 (by omega) ?_
      rw [ee]
      refine h _ (hI.o1.filter _) (Nat.le_trans (List.length_filter_le _ _) (by omega)) fun x => ?_
      rw [mem_minusL, o2 e0, s2, inB1 (ee ▸ e0)]
theorem letsR_ok {e : Bool} {s : List Ad} {a : Ad} {Q : Bool → Prop} (hl : s.length ≤ 1000) (h : Q (letsB (e, s) a)) : ref19_Lets_W e s a Q := by
  refine ⟨fun c => ?_, fun c => ?_⟩ <;> subst c <;> refine hasR_ok (by omega) ?_
  · have : (!aIn s a) = letsB (true, s) a := by unfold letsB; cases aIn s a <;> rfl
    rw [this]; exact h
  · have : aIn s a = letsB (false, s) a := by unfold letsB; cases aIn s a <;> rfl
    rw [this]; exact h
theorem letsP_ok {e : Bool} {s : List Ad} {a : Ad} {Q : Bool → Prop} (hs : ASet s) (hl : s.length ≤ 1000) (h : Q (letsB (e, s) a)) : merge_Lets_W e s a Q := hasP_ok hs (by omega) h
theorem anyB_take {l : List Fi} {i : Nat} (h : i < l.length) (x : Ad) : anyB ((l.take (i + 1)).map bare) x = (anyB ((l.take i).map bare) x || letsB (bare l[i]) x) := by
  rw [List.take_succ_eq_append_getElem h, List.map_append]; unfold anyB; rw [List.any_append]; simp
theorem exB_take {l : List Fi} {i : Nat} (h : i < l.length) : exB ((l.take (i + 1)).map bare) = (exB ((l.take i).map bare) || l[i].1) := by
  rw [List.take_succ_eq_append_getElem h, List.map_append]; unfold exB; rw [List.any_append]; simp [bare]
theorem anyR_ok {l : List Fi} {out all o : List Ad} {e : Bool} {i : Nat} {K : List Ad → Int → Prop} (hg : Goods l) (hi : i < all.length) (ha : all.length ≤ 100) (ho : o.length ≤ i)
    (h : K (o ++ sel (!(anyB (l.map bare) all[i] == e)) all[i]) ((i : Int) + 1)) :
    loopW (fun (K_3 : (Bool × Int) → Prop) (s : Bool × Int) => ref19_All_l3 l e all o (i : Int) K (fun some_1 k_1 => K_3 (some_1, k_1)) s.1 s.2) (false, 0) := by
  have hl := hg.len
  refine loop_up l.length (fun k s => s = anyB ((l.take k).map bare) all[i]) rfl fun K3 k s hk hs hK => ?_
  show ref19_All_l3 l e all o (i : Int) K _ s (k : Int)
  unfold ref19_All_l3
  refine ⟨fun d => ⟨fun c => ?_, fun c => ⟨by (first | omega | (unfold I64; omega) | (simp only [List.length_append, List.length_cons, List.length_nil, List.length_take, List.length_drop] at *; omega) | (unfold I64; simp only [List.length_append, List.length_cons, List.length_nil, List.length_take, List.length_drop] at *; omega)), by (first | omega | (unfold I64; omega) | (simp only [List.length_append, List.length_cons, List.length_nil, List.length_take, List.length_drop] at *; omega) | (unfold I64; simp only [List.length_append, List.length_cons, List.length_nil, List.length_take, List.length_drop] at *; omega)), ?_⟩⟩, fun d => ⟨fun c => ⟨by (first | omega | (unfold I64; omega) | (simp only [List.length_append, List.length_cons, List.length_nil, List.length_take, List.length_drop] at *; omega) | (unfold I64; simp only [List.length_append, List.length_cons, List.length_nil, List.length_take, List.length_drop] at *; omega)), by (first | omega | (unfold I64; omega) | (simp only [List.length_append, List.length_cons, List.length_nil, List.length_take, List.length_drop] at *; omega) | (unfold I64; simp only [List.length_append, List.length_cons, List.length_nil, List.length_take, List.length_drop] at *; omega)), by (first | omega | (unfold I64; omega) | (simp only [List.length_append, List.length_cons, List.length_nil, List.length_take, List.length_drop] at *; omega) | (unfold I64; simp only [List.length_append, List.length_cons, List.length_nil, List.length_take, List.length_drop] at *; omega)), ?_⟩, fun c => ⟨by (first | omega | (unfold I64; omega) | (simp only [List.length_append, List.length_cons, List.length_nil, List.length_take, List.length_drop] at *; omega) | (unfold I64; simp only [List.length_append, List.length_cons, List.length_nil, List.length_take, List.length_drop] at *; omega)), ?_⟩⟩⟩
  · have k1 : k < l.length := by omega
    refine ⟨by (first | omega | (unfold I64; omega) | (simp only [List.length_append, List.length_cons, List.length_nil, List.length_take, List.length_drop] at *; omega) | (unfold I64; simp only [List.length_append, List.length_cons, List.length_nil, List.length_take, List.length_drop] at *; omega)), hK (k + 1) _ (by omega) (by omega) ?_⟩
    rw [anyB_take k1, ← hs, c]; rfl
  · have k1 : k < l.length := by omega
    have hf := hg.set _ (List.getElem_mem k1)
    rw [gi_nat k1, gi_nat hi]
    refine letsR_ok (by omega) ⟨by (first | omega | (unfold I64; omega) | (simp only [List.length_append, List.length_cons, List.length_nil, List.length_take, List.length_drop] at *; omega) | (unfold I64; simp only [List.length_append, List.length_cons, List.length_nil, List.length_take, List.length_drop] at *; omega)), hK (k + 1) _ (by omega) (by omega) ?_⟩
    rw [anyB_take k1, ← hs, c]; rfl
  · have k1 : k = l.length := by omega
    subst k1
    rw [List.take_length] at hs
    rw [← hs, c] at h
    rw [gi_nat hi]; exact h
  · have k1 : k = l.length := by omega
    subst k1
    rw [List.take_length] at hs
    rw [← hs, c] at h
    simpa [sel] using h
theorem allR_ok {l : List Fi} {Q : Bool → List Ad → Prop} (hg : Goods l) (h : ∀ S, ASet S → (∀ x, x ∈ S ↔ inB (l.map bare) x = true) → Q (exB (l.map bare)) S) : ref19_All_W l Q := by
  have hl := hg.len
  refine ⟨fun s => ∃ i : Nat, s.2.2 = i ∧ i ≤ l.length ∧ s.1 = exB ((l.take i).map bare) ∧ ASet s.2.1 ∧ s.2.1.length ≤ 6 * i ∧ ∀ x, x ∈ s.2.1 ↔ ∃ f ∈ l.take i, x ∈ f.2.2, fun s => ((l.length : Int) - s.2.2).toNat, ⟨0, rfl, Nat.zero_le _, rfl, ASet.nil, by simp, by simp⟩, ?_⟩
  rintro ⟨e, all, _⟩ ⟨i, rfl, hi, he, hs, hn, hm⟩
  replace he : e = exB ((l.take i).map bare) := he
  replace hs : ASet all := hs
  replace hn : all.length ≤ 6 * i := hn
  replace hm : ∀ x, x ∈ all ↔ ∃ f ∈ l.take i, x ∈ f.2.2 := hm
  show ref19_All_l1 l Q _ e all (i : Int)
  unfold ref19_All_l1
  refine ⟨fun d => ?_, fun d => ?_⟩
  · have i1 : i < l.length := by simp at d; omega
    have hf := hg.set _ (List.getElem_mem i1)
    have tm := fun x : Fi => take_succ_mem i1 (x := x)
    have key : ∀ e', e' = exB ((l.take (i + 1)).map bare) → ref19_All_j1 l all (i : Int) (fun e_ a_ i_ => (∃ j : Nat, ((e_, a_, i_) : Bool × List Ad × Int).2.2 = j ∧ j ≤ l.length ∧ e_ = exB ((l.take j).map bare) ∧ ASet a_ ∧ a_.length ≤ 6 * j ∧ ∀ x, x ∈ a_ ↔ ∃ f ∈ l.take j, x ∈ f.2.2) ∧ ((l.length : Int) - i_).toNat < ((l.length : Int) - (i : Int)).toNat) e' := by
      intro e' he'
      unfold ref19_All_j1
      refine ⟨by (first | omega | (unfold I64; omega) | (simp only [List.length_append, List.length_cons, List.length_nil, List.length_take, List.length_drop] at *; omega) | (unfold I64; simp only [List.length_append, List.length_cons, List.length_nil, List.length_take, List.length_drop] at *; omega)), ?_⟩
      rw [gi_nat i1]
      refine orR_ok (by omega) (by omega) ⟨by (first | omega | (unfold I64; omega) | (simp only [List.length_append, List.length_cons, List.length_nil, List.length_take, List.length_drop] at *; omega) | (unfold I64; simp only [List.length_append, List.length_cons, List.length_nil, List.length_take, List.length_drop] at *; omega)), ⟨i + 1, by simp, by omega, he', orL_set _ _, by have := orL_len all l[i].2.2; omega, fun x => ?_⟩, by omega⟩
      rw [mem_orL hs hf.1, hm]
      constructor
      · rintro (⟨f, a, b⟩ | b)
        · exact ⟨f, (tm f).2 (.inl a), b⟩
        · exact ⟨_, (tm _).2 (.inr rfl), b⟩
      · rintro ⟨f, a, b⟩
        rcases (tm f).1 a with a | rfl
        · exact .inl ⟨f, a, b⟩
        · exact .inr b
    refine ⟨fun c => key _ ?_, fun c => ⟨by (first | omega | (unfold I64; omega) | (simp only [List.length_append, List.length_cons, List.length_nil, List.length_take, List.length_drop] at *; omega) | (unfold I64; simp only [List.length_append, List.length_cons, List.length_nil, List.length_take, List.length_drop] at *; omega)), key _ ?_⟩⟩
    · rw [exB_take i1, ← he, c]; rfl
    · rw [exB_take i1, ← he, c, gi_nat i1]; rfl
  · have i1 : i = l.length := by simp at d; omega
    subst i1
    rw [List.take_length] at he hm
    refine loop_up all.length (fun j s => s = (all.take j).filter fun x => inB (l.map bare) x) rfl fun K j o hj ho hK => ?_
    have lo : o.length ≤ j := by rw [ho]; refine Nat.le_trans (List.length_filter_le _ _) ?_; rw [List.length_take]; omega
    show ref19_All_l2 l Q e all _ o (j : Int)
    unfold ref19_All_l2
    refine ⟨fun d2 => ?_, fun d2 => ?_⟩
    · have j1 : j < all.length := by omega
      refine anyR_ok (out := o) hg j1 (by omega) lo (hK (j + 1) _ (by omega) (by omega) ?_)
      rw [List.take_succ_eq_append_getElem j1, List.filter_append, ← ho, he]
      congr 1
      show sel (inB (l.map bare) all[j]) all[j] = _
      unfold sel; cases c : inB (l.map bare) all[j] <;> simp [c]
    · have j1 : j = all.length := by omega
      subst j1
      rw [List.take_length] at ho
      rw [he, ho]
      refine h _ (hs.filter _) fun x => ?_
      rw [List.mem_filter, hm]
      refine ⟨fun q => q.2, fun q => ⟨?_, q⟩⟩
      cases c : exB (l.map bare) with
      | false => obtain ⟨f, a, _, b⟩ := (inB0 c).1 q; exact ⟨f, a, b⟩
      | true =>
        obtain ⟨f, a, b⟩ := exB_iff.1 c
        exact ⟨f, a, ((inB1 c).1 q).1 f a b⟩
end Go.Wk
