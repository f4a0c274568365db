/- TreeChanges: who sends on otherwise. -/
import Derived.Test.YtjliljlmgepmpaaGreatDoorTreV
import Derived.Test.YtjliljlmgepmpaaGreatDoorTreC1
set_option linter.unusedSimpArgs false
set_option linter.unusedVariables false
set_option linter.unusedSectionVars false
namespace Go.Wk
open Go.HL
variable [DM]
theorem equal_I {a b : List Int} {Q : Bool → Prop} (hl : a.length ≤ 1000000) (h : Q (decide (a = b))) : slices_Equal_s_int_int_W a b Q := by
  refine ⟨fun c => ?_, fun c => ?_⟩
  · have : a ≠ b := fun e => by subst e; exact c rfl
    rw [decide_eq_false this] at h; exact h
  · have c : a.length = b.length := by omega
    refine loop_up1 a.length (fun i => a.take i = b.take i) (by simp) fun K i hi hI hK => ?_
    show slices_Equal_s_int_int_l1 _ _ _ _ _
    unfold slices_Equal_s_int_int_l1
    refine ⟨fun d => ⟨by (first | omega | (unfold I64; omega) | (simp only [List.length_append, List.length_cons, List.length_nil, List.length_take, List.length_drop] at *; omega) | (unfold I64; simp only [List.length_append, List.length_cons, List.length_nil, List.length_take, List.length_drop] at *; omega)), by (first | omega | (unfold I64; omega) | (simp only [List.length_append, List.length_cons, List.length_nil, List.length_take, List.length_drop] at *; omega) | (unfold I64; simp only [List.length_append, List.length_cons, List.length_nil, List.length_take, List.length_drop] at *; omega)), ?_⟩, fun d => ?_⟩
    · have h1 : i < a.length := by omega
      have h2 : i < b.length := by omega
      rw [gi_nat h1, gi_nat h2]
      refine ⟨fun q => ?_, fun q => ⟨by (first | omega | (unfold I64; omega) | (simp only [List.length_append, List.length_cons, List.length_nil, List.length_take, List.length_drop] at *; omega) | (unfold I64; simp only [List.length_append, List.length_cons, List.length_nil, List.length_take, List.length_drop] at *; omega)), hK (i + 1) (by omega) (by omega) ?_⟩⟩
      · have : a ≠ b := fun e => by subst e; exact q rfl
        rw [decide_eq_false this] at h; exact h
      · rw [List.take_succ_eq_append_getElem h1, List.take_succ_eq_append_getElem h2, hI, q]
    · have hab : a = b := by
        have h3 : i = a.length := by omega
        subst h3
        rw [List.take_length, c, List.take_length] at hI; exact hI
      rw [decide_eq_true hab] at h; exact h
theorem few_ok {l : List Br} {Q : List Br → Prop} (h : Q (l.take 12)) : law32_few_W l Q := by
  refine loop_up (min 12 l.length) (fun i s => s = l.take i) (by simp) fun K i s hi hs hK => ?_
  show law32_few_l1 _ _ _ s (i : Int)
  unfold law32_few_l1 law32_few_j1
  have fin : i = min 12 l.length → Q s := fun e => by
    rw [hs, e]
    by_cases c : l.length ≤ 12
    · rw [List.take_of_length_le (by omega)]; rwa [List.take_of_length_le c] at h
    · rwa [show min 12 l.length = 12 by omega]
  refine ⟨fun c => ⟨fun d => ?_, fun d => fin ?_⟩, fun c => ⟨fun q => by simp at q, fun _ => fin (by omega)⟩⟩
  · have d' := of_decide_eq_true d
    have hlt : i < l.length := by omega
    have hsl := congrArg List.length hs
    rw [List.length_take] at hsl
    rw [gi_nat hlt]
    refine ⟨by omega, by simp only [List.length_cons, List.length_nil]; omega, by unfold I64; omega, hK (i + 1) _ (by omega) (by omega) ?_⟩
    rw [List.take_succ_eq_append_getElem hlt, hs]
  · have d' := of_decide_eq_false d
    omega
theorem few12 {L : List Br} (h : L.length ≤ 12) : L.take 12 = L := List.take_of_length_le h

/-- Who sends on otherwise, rising. -/
structure ChIs (A B : List Br) (l : List Int) : Prop where
  ris : l.Pairwise (· < ·)
  mem : ∀ x, x ∈ l ↔ kids A x ≠ kids B x
theorem ChIs.uniq {A B : List Br} {l m : List Int} (h : ChIs A B l) (k : ChIs A B m) : l = m := rise_eq h.ris k.ris fun x => by rw [h.mem, k.mem]
theorem kids_from {L : List Br} {x : Int} (h : kids L x ≠ []) : x ∈ L.map (·.1) := by
  obtain ⟨y, r, e⟩ : ∃ y r, kids L x = y :: r := by
    cases hk : kids L x with
    | nil => exact absurd hk h
    | cons y r => exact ⟨y, r, rfl⟩
  have : (x, y) ∈ L := mem_kids.1 (by rw [e]; simp)
  exact List.mem_map.2 ⟨_, this, rfl⟩
theorem ch_from {A B : List Br} {x : Int} (h : kids A x ≠ kids B x) : x ∈ (A ++ B).map (·.1) := by
  rw [List.map_append, List.mem_append]
  by_cases c : kids A x = []
  · exact .inr (kids_from fun q => h (c.trans q.symm))
  · exact .inl (kids_from c)
theorem ch_len {A B : List Br} {l : List Int} (hn : l.Nodup) (h : ∀ x ∈ l, kids A x ≠ kids B x) : l.length ≤ A.length + B.length := by
  have := nodup_le hn fun x hx => ch_from (h x hx)
  simpa using this
theorem keys_some {L : List Br} {nx : List (Int × Value × List Int)} (h : BagNx L nx) (k : Int) : (mget nx k).isSome = true ↔ kids L k ≠ [] := by
  rw [← h.keys k, Option.isSome_iff_ne_none, ne_eq, mget_none, Classical.not_not]
theorem changed_ok {r s : Int} {A B : List Br} {Q : List Int → Prop} (hA : A.length ≤ 1000) (hB : B.length ≤ 1000) (h : ∀ l, ChIs A B l → Q l) : tree_Changed_W r A s B Q := by
  refine nexts_ok (by omega) fun nx hnx => nexts_ok (by omega) fun ny hny => ?_
  refine ⟨fun q => ∃ done, nx.Perm (done ++ q.2) ∧ q.1.Nodup ∧ ∀ x, x ∈ q.1 ↔ x ∈ done.map Prod.fst ∧ kids A x ≠ kids B x, fun q => q.2.length, ⟨[], List.Perm.refl _, List.nodup_nil, fun x => by simp⟩, ?_⟩
  rintro ⟨out, rem⟩ ⟨done, hp, hn, hm⟩
  simp only at hp hn hm ⊢
  unfold tree_Changed_l1
  refine ⟨fun hr => ?_, fun p rem' hpr => ?_⟩
  · subst hr
    rw [List.append_nil] at hp
    have hm1 : ∀ x, x ∈ out ↔ kids A x ≠ [] ∧ kids A x ≠ kids B x := fun x => by
      rw [hm x, ← (hp.map Prod.fst).mem_iff, hnx.keys x]
    refine ⟨fun q => ∃ done, ny.Perm (done ++ q.2) ∧ q.1.Nodup ∧ ∀ x, x ∈ q.1 ↔ (kids A x ≠ [] ∧ kids A x ≠ kids B x) ∨ (x ∈ done.map Prod.fst ∧ kids A x = []), fun q => q.2.length, ⟨[], List.Perm.refl _, hn, fun x => by rw [hm1]; simp⟩, ?_⟩
    rintro ⟨out2, rem2⟩ ⟨done2, hp2, hn2, hm2⟩
    simp only at hp2 hn2 hm2 ⊢
    have hsub : ∀ x, x ∈ done2.map Prod.fst → kids B x ≠ [] := fun x hx => (hny.keys x).1 ((hp2.map Prod.fst).mem_iff.2 (by rw [List.map_append]; exact List.mem_append_left _ hx))
    have hne : ∀ x ∈ out2, kids A x ≠ kids B x := by
      intro x hx
      rcases (hm2 x).1 hx with q | ⟨q1, q2⟩
      · exact q.2
      · rw [q2]; exact fun e => hsub x q1 e.symm
    have hlen := ch_len hn2 hne
    unfold tree_Changed_l2
    refine ⟨fun hr => ?_, fun p rem' hpr => ?_⟩
    · subst hr
      rw [List.append_nil] at hp2
      refine rising_ok (by omega) hn2 fun m hmr hmm => h m ⟨hmr, fun x => ?_⟩
      rw [hmm x, hm2 x, ← (hp2.map Prod.fst).mem_iff, hny.keys x]
      constructor
      · rintro (q | ⟨q1, q2⟩)
        · exact q.2
        · rw [q2]; exact fun e => q1 e.symm
      · intro q
        by_cases c : kids A x = []
        · exact .inr ⟨fun e => q (c.trans e.symm), c⟩
        · exact .inl ⟨c, q⟩
    · have hp3 : ny.Perm ((done2 ++ [p]) ++ rem') := hp2.trans (by rw [List.append_assoc]; exact (List.Perm.append_left _ hpr))
      have hnd := (hp3.map Prod.fst).nodup_iff.1 hny.nd
      rw [List.map_append, List.map_append] at hnd
      have hpd : p.1 ∉ done2.map Prod.fst := by
        intro q
        have := (List.nodup_append.1 (List.nodup_append.1 hnd).1).2.2 p.1 q p.1 (by simp)
        exact this rfl
      have hlt : rem'.length < rem2.length := by rw [hpr.length_eq]; simp
      have hkp := keys_some hnx p.1
      refine ⟨fun c => ?_, fun c => ?_⟩
      · have hAk : kids A p.1 = [] := Classical.byContradiction fun q => by rw [hkp.2 q] at c; cases c
        refine ⟨by simp only [List.length_cons, List.length_nil]; omega, ⟨done2 ++ [p], hp3, ?_, fun x => ?_⟩, hlt⟩
        · rw [List.nodup_append]
          refine ⟨hn2, by simp, fun a ha b hb e => ?_⟩
          rw [List.mem_singleton] at hb; subst hb; subst e
          rcases (hm2 _).1 ha with q | q
          · exact q.1 hAk
          · exact hpd q.1
        · rw [List.mem_append, List.mem_singleton, hm2 x, List.map_append, List.mem_append]
          constructor
          · rintro ((q | q) | q)
            · exact .inl q
            · exact .inr ⟨.inl q.1, q.2⟩
            · subst q; exact .inr ⟨.inr (by simp), hAk⟩
          · rintro (q | ⟨q1 | q1, q2⟩)
            · exact .inl (.inl q)
            · exact .inl (.inr ⟨q1, q2⟩)
            · exact .inr (by simpa using q1)
      · have hAk : kids A p.1 ≠ [] := hkp.1 (by rw [Bool.not_eq_false'] at c; exact c)
        refine ⟨⟨done2 ++ [p], hp3, hn2, fun x => ?_⟩, hlt⟩
        rw [hm2 x, List.map_append, List.mem_append]
        constructor
        · rintro (q | ⟨q1, q2⟩)
          · exact .inl q
          · exact .inr ⟨.inl q1, q2⟩
        · rintro (q | ⟨q1 | q1, q2⟩)
          · exact .inl q
          · exact .inr ⟨q1, q2⟩
          · have : x = p.1 := by simpa using q1
            subst this; exact absurd q2 hAk
  · have hp3 : nx.Perm ((done ++ [p]) ++ rem') := hp.trans (by rw [List.append_assoc]; exact (List.Perm.append_left _ hpr))
    have hnd := (hp3.map Prod.fst).nodup_iff.1 hnx.nd
    rw [List.map_append, List.map_append] at hnd
    have hpd : p.1 ∉ done.map Prod.fst := by
      intro q
      have := (List.nodup_append.1 (List.nodup_append.1 hnd).1).2.2 p.1 q p.1 (by simp)
      exact this rfl
    have hpm : p ∈ nx := hp3.mem_iff.2 (by simp)
    have hlt : rem'.length < rem.length := by rw [hpr.length_eq]; simp
    have hlen := ch_len hn fun x hx => ((hm x).1 hx).2
    rw [hnx.ent hpm, hny.at_]
    have hkl := kids_len A p.1
    refine equal_I (by omega) ⟨fun c => ?_, fun c => ?_⟩
    · have hne : kids A p.1 ≠ kids B p.1 := by rw [Bool.not_eq_true'] at c; exact of_decide_eq_false c
      refine ⟨by simp only [List.length_cons, List.length_nil]; omega, ⟨done ++ [p], hp3, ?_, fun x => ?_⟩, hlt⟩
      · rw [List.nodup_append]
        refine ⟨hn, by simp, fun a ha b hb e => ?_⟩
        rw [List.mem_singleton] at hb; subst hb; subst e
        exact hpd ((hm _).1 ha).1
      · rw [List.mem_append, List.mem_singleton, hm x, List.map_append, List.mem_append]
        constructor
        · rintro (q | q)
          · exact ⟨.inl q.1, q.2⟩
          · subst q; exact ⟨.inr (by simp), hne⟩
        · rintro ⟨q1 | q1, q2⟩
          · exact .inl ⟨q1, q2⟩
          · exact .inr (by simpa using q1)
    · have he : kids A p.1 = kids B p.1 := by rw [Bool.not_eq_false'] at c; exact of_decide_eq_true c
      refine ⟨⟨done ++ [p], hp3, hn, fun x => ?_⟩, hlt⟩
      rw [hm x, List.map_append, List.mem_append]
      constructor
      · rintro ⟨q1, q2⟩; exact ⟨.inl q1, q2⟩
      · rintro ⟨q1 | q1, q2⟩
        · exact ⟨q1, q2⟩
        · have : x = p.1 := by simpa using q1
          subst this; exact absurd he q2
theorem refChanged_ok {r s : Int} {A B : List Br} {Q : List Int → Prop} (hA : A.length ≤ 1000) (hB : B.length ≤ 1000) (h : ∀ l, ChIs A B l → Q l) : ref32_Changed_W r A s B Q := by
  refine ⟨by simp only [List.length_nil]; omega, by simp only [List.nil_append]; omega, ?_⟩
  unfold ref32_Changed_j1 ref32_Changed_l1
  simp only [List.nil_append]
  generalize hC : A ++ B = C
  have hCl : C.length ≤ 2000 := by rw [← hC, List.length_append]; omega
  refine loop_up C.length (fun i all => all.Pairwise (· < ·) ∧ all.length ≤ i ∧ ∀ x, x ∈ all ↔ x ∈ (C.take i).map (·.1)) ⟨List.Pairwise.nil, Nat.le_refl _, fun x => by simp⟩ fun K i all hi ⟨h1, h2, h3⟩ hK => ?_
  dsimp only
  refine ⟨fun c => ?_, fun c => ?_⟩
  · have hlt : i < C.length := by omega
    rw [gi_nat hlt]
    refine ⟨by omega, add_ok (by omega) ⟨by unfold I64; omega, hK (i + 1) _ (by omega) hlt ⟨rise_addI h1, ?_, fun x => ?_⟩⟩⟩
    · have := len_addI all C[i].1; omega
    · rw [mem_addI, h3 x, List.take_succ_eq_append_getElem hlt, List.map_append, List.mem_append]
      constructor
      · rintro (q | q)
        · exact .inr (by simp [q])
        · exact .inl q
      · rintro (q | q)
        · exact .inr q
        · exact .inl (by simpa using q)
  · have hi' : i = C.length := by omega
    rw [List.take_of_length_le (by omega)] at h3
    refine loop_up all.length (fun j out => out = (all.take j).filter fun x => decide (kids A x ≠ kids B x)) (by simp) fun K2 j out hj hout hK2 => ?_
    show ref32_Changed_l2 _ _ _ _ _ _ _ out (j : Int)
    unfold ref32_Changed_l2
    have hol : out.length ≤ 2000 := by
      rw [hout]; exact Nat.le_trans (List.length_filter_le _ _) (by rw [List.length_take]; omega)
    refine ⟨fun c => ?_, fun c => ?_⟩
    · have hlt : j < all.length := by omega
      rw [gi_nat hlt]
      have hkl := kids_len A all[j]
      refine ⟨by omega, refNext_ok (by omega) (refNext_ok (by omega) (eqI_ok (by omega) ⟨fun c2 => ⟨by simp only [List.length_cons, List.length_nil]; omega, by unfold I64; omega, hK2 (j + 1) _ (by omega) hlt ?_⟩, fun c2 => ⟨by unfold I64; omega, hK2 (j + 1) _ (by omega) hlt ?_⟩⟩))⟩
      · have hne : kids A all[j] ≠ kids B all[j] := by rw [Bool.not_eq_true'] at c2; exact of_decide_eq_false c2
        rw [List.take_succ_eq_append_getElem hlt, List.filter_append, hout]
        congr 1
        simp [hne]
      · have he : kids A all[j] = kids B all[j] := by rw [Bool.not_eq_false'] at c2; exact of_decide_eq_true c2
        rw [List.take_succ_eq_append_getElem hlt, List.filter_append, hout]
        simp [he]
    · rw [List.take_of_length_le (by omega)] at hout
      refine h out ⟨hout ▸ h1.filter _, fun x => ?_⟩
      rw [hout, List.mem_filter, h3 x, decide_eq_true_eq]
      constructor
      · exact fun q => q.2
      · exact fun q => ⟨hC ▸ ch_from q, q⟩
theorem same_of_kids {A B : List Br} (hA : A.Pairwise blt) (hB : B.Pairwise blt) (h : ∀ x, kids A x = kids B x) : A = B := by
  have nd : ∀ {L : List Br}, L.Pairwise blt → L.Nodup := fun hL => List.nodup_iff_pairwise_ne.2 (hL.imp fun {a b} q => fun e => (by subst e; exact blt_irr _ q))
  have hp : A.Perm B := (List.perm_ext_iff_of_nodup (nd hA) (nd hB)).2 fun ⟨x, y⟩ => by rw [← mem_kids, ← mem_kids, h x]
  exact sorted_uniq hp (blt_weak hA) (blt_weak hB)
theorem treeChanges_ok {r s : Int} {l m : List Br} {Q : Bool → Prop} (h : Q true) : law32_TreeChanges_W r l s m Q := by
  refine few_ok (few_ok ?_)
  generalize hL : l.take 12 = A
  generalize hM : m.take 12 = B
  have hA : A.length ≤ 12 := by rw [← hL, List.length_take]; omega
  have hB : B.length ≤ 12 := by rw [← hM, List.length_take]; omega
  have fewA : ∀ {K : Int → List Br → Prop}, K r A → law32_Few_W r A (fun a b => K a b) := fun k => few_ok (by rw [few12 hA]; exact k)
  have fewB : ∀ {K : Int → List Br → Prop}, K s B → law32_Few_W s B (fun a b => K a b) := fun k => few_ok (by rw [few12 hB]; exact k)
  have triv : law32_TreeChanges_j1 Q r A s B true := ⟨fun _ => lives_ok h, fun q => (by cases q)⟩
  refine refGood_ok (by omega) fun b hb => ⟨fun _ => triv, fun c => refGood_ok (by omega) fun b' hb' => ?_⟩
  have gA : Gd r A := hb.1 (by rw [Bool.not_eq_false'] at c; exact c)
  cases hb2 : b' with
  | false => exact triv
  | true =>
    have gB : Gd s B := hb'.1 hb2
    refine ⟨fun q => (by cases q), fun _ => fewA (fewB (changed_ok (by omega) (by omega) fun l1 h1 => refChanged_ok (by omega) (by omega) fun l2 h2 => ?_))⟩
    obtain rfl := h1.uniq h2
    have hll := ch_len (rise_nodup h1.ris) fun x hx => (h1.mem x).1 hx
    refine eqI_ok (by omega) ⟨fun c => by simp at c, fun _ => fewA (fewB (sameT_ok (by omega) (refSame_ok (by omega) ?_)))⟩
    have e : (!((decide (r = s ∧ A = B)) == (decide (r = s ∧ A = B)))) = false := by simp
    rw [e]
    refine ⟨fun q => (by cases q), fun _ => ⟨fun _ => lives_ok h, fun hrs => refSame_ok (by omega) ⟨fun _ => lives_ok h, fun c => ?_⟩⟩⟩
    exfalso
    have hiff : ((l1.length : Int) = 0) ↔ (r = s ∧ A = B) := by
      constructor
      · intro q
        refine ⟨hrs, same_of_kids gA.ris gB.ris fun x => Classical.byContradiction fun hx => ?_⟩
        have hx' := (h1.mem x).2 hx
        have : l1 = [] := List.eq_nil_of_length_eq_zero (by omega)
        rw [this] at hx'; cases hx'
      · rintro ⟨_, rfl⟩
        have : l1 = [] := List.eq_nil_iff_forall_not_mem.2 fun x hx => (h1.mem x).1 hx rfl
        rw [this]; rfl
    have : decide ((l1.length : Int) = 0) = decide (r = s ∧ A = B) := by rw [Bool.eq_iff_iff, decide_eq_true_eq, decide_eq_true_eq]; exact hiff
    rw [this] at c; simp at c
end Go.Wk
