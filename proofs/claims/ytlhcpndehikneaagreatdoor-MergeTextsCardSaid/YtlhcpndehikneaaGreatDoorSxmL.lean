/- Plain words: a set's text, written and read. -/
import Derived.Test.YtlhcpndehikneaaGreatDoorSxmT
set_option linter.unusedSimpArgs false
set_option linter.unusedVariables false
set_option linter.unusedSectionVars false
namespace Go.Wk
open Go.HL
variable [DM]
theorem aGood_iff {a : Ad} : aGood a = true ↔ goodA a := by
  unfold aGood goodA
  simp only [Bool.or_eq_true, decide_eq_true_eq]
theorem parse_uni {s : Str} (hl : s.length ≤ 800) {Q : Ad → Int → Prop} (h1 : ∀ a, goodA a → txt a = s → (∀ a', goodA a' → txt a' = s → a' = a) → Q a 0) (h2 : (∀ a, goodA a → txt a ≠ s) → Q (false, (default : Ba 16)) 2) : addr_Parse_W s Q := by
  refine parse_main hl fun b ok hb => read_ok (fun h4 => ⟨fun c => ⟨fun _ => h2 fun a ha e => ?_, fun q => (by cases q)⟩, fun c => ⟨fun q => absurd rfl q, fun _ => text_ok ?_⟩⟩) (fun h4 => ⟨fun c => ⟨fun _ => h2 fun a ha e => ?_, fun q => (by cases q)⟩, fun c => ⟨fun _ => ⟨fun _ => h2 fun a ha e => ?_, fun q => (by cases q)⟩, fun q => absurd q (by decide)⟩⟩)
  · rw [(hb a e.symm).2] at c; cases c
  · refine ⟨fun d => h2 fun a ha e => ?_, fun d => h1 _ (rdA_good h4) (by simpa using d) fun a' ha' e' => by rw [(hb a' e'.symm).1, (rdA_of ha').1]⟩
    have d : txt (rdA b) ≠ s := by simpa using d
    rw [(hb a e.symm).1, (rdA_of ha).1] at d
    exact d e
  · rw [(hb a e.symm).2] at c; cases c
  · rw [(hb a e.symm).1] at h4; exact h4 (rdA_of ha).2
theorem addrsN_ok (n : Nat) {l : List Ad} {Q : List Ad → Prop} (hn : n ≤ 1000) (h : Q (l.take n)) : law08_Addrs_W l (n : Int) Q := by
  refine loop_up l.length (fun i s => s = l.take i ∧ i ≤ n) ⟨rfl, by omega⟩ fun K i s hi ⟨hs, h8⟩ hK => ?_
  have e : s.length = i := by rw [hs, List.length_take]; omega
  have te : ∀ (h : ¬ (i < l.length ∧ i < n)), l.take i = l.take n := by
    intro h
    by_cases q : i = n
    · rw [q]
    · rw [List.take_of_length_le (by omega), List.take_of_length_le (by omega)]
  show law08_Addrs_l1 _ _ _ _ _ _
  unfold law08_Addrs_l1 law08_Addrs_j1
  refine ⟨fun h1 => ⟨fun h2 => ⟨by (first | omega | (unfold I64; omega) | (simp only [List.length_append, List.length_cons, List.length_nil, List.length_take, List.length_drop] at *; omega) | (unfold I64; simp only [List.length_append, List.length_cons, List.length_nil, List.length_take, List.length_drop] at *; omega)), by (first | omega | (unfold I64; omega) | (simp only [List.length_append, List.length_cons, List.length_nil, List.length_take, List.length_drop] at *; omega) | (unfold I64; simp only [List.length_append, List.length_cons, List.length_nil, List.length_take, List.length_drop] at *; omega)), by (first | omega | (unfold I64; omega) | (simp only [List.length_append, List.length_cons, List.length_nil, List.length_take, List.length_drop] at *; omega) | (unfold I64; simp only [List.length_append, List.length_cons, List.length_nil, List.length_take, List.length_drop] at *; omega)), hK (i + 1) _ (by omega) (by omega) ⟨?_, ?_⟩⟩, fun h2 => ?_⟩, fun h1 => ⟨fun h => (by cases h), fun _ => ?_⟩⟩
  · rw [hs, gi_nat (by omega), List.take_succ_eq_append_getElem (by omega)]
  · have := of_decide_eq_true h2; omega
  · have := of_decide_eq_false h2; rw [hs, te (by omega)]; exact h
  · rw [hs, te (by omega)]; exact h
theorem txJ_succ {l : List Ad} {i : Nat} (h : i < l.length) : joinS ((l.take (i + 1)).map txt) [44] = (if 0 < i then joinS ((l.take i).map txt) [44] ++ [44] else []) ++ txt l[i] := by
  rw [List.take_succ_eq_append_getElem h, List.map_append]
  split
  · rename_i hi
    have : (l.take i).map txt ≠ [] := by intro e; have := congrArg List.length e; rw [List.length_map, List.length_take] at this; simp only [List.length_nil] at this; omega
    exact joinS_snoc this _ _
  · have : i = 0 := by omega
    subst this
    exact joinS_one _ _
theorem txJ_len (l : List Ad) : (joinS (l.map txt) [44]).length ≤ l.length * 101 := by
  have := joinS_len (c := 44) (m := 100) (l := l.map txt) (by intro x hx; obtain ⟨a, _, rfl⟩ := List.mem_map.1 hx; exact txt_len a)
  rw [List.length_map] at this; exact this
theorem printTR_ok {l : List Ad} {Q : Str → Prop} (hl : l.length ≤ 1000) (h : Q (txL l)) : ref11_Print_W l Q := by
  refine ⟨fun c => ?_, fun c => ?_⟩
  · have e : l = [] := List.eq_nil_of_length_eq_zero (by omega)
    unfold txL at h; rw [if_pos e] at h; exact h
  · have e : l ≠ [] := by rintro rfl; exact c rfl
    rw [txL_ne e] at h
    refine loop_up l.length (fun i s => s = joinS ((l.take i).map txt) [44]) rfl fun K i s hi hs hK => ?_
    show ref11_Print_l1 l Q _ s (i : Int)
    unfold ref11_Print_l1 ref11_Print_j1
    have hJ := txJ_len (l.take i)
    rw [List.length_take] at hJ
    rw [← hs] at hJ
    refine ⟨fun d => ?_, fun d => ?_⟩
    · have hi1 : i < l.length := by omega
      have ht := txt_len l[i]
      have hS := txJ_succ hi1
      rw [gi_nat hi1]
      refine ⟨fun q => ⟨?_, by omega, printR_ok ⟨?_, by unfold I64; omega, hK (i + 1) _ (by omega) (by omega) ?_⟩⟩, fun q => ⟨by omega, printR_ok ⟨?_, by unfold I64; omega, hK (i + 1) _ (by omega) (by omega) ?_⟩⟩⟩
      · simp only [List.length_cons, List.length_nil]; omega
      · simp only [List.length_append, List.length_cons, List.length_nil]; omega
      · rw [hS, if_pos (by omega), ← hs]
      · omega
      · have i0 : i = 0 := by omega
        subst i0
        rw [hS, if_neg (by omega), hs]; rfl
    · have : i = l.length := by omega
      subst this
      rw [List.take_length] at hs; rw [hs]; exact h
theorem textTP_ok {l : List Ad} {Q : Str → Prop} (hl : l.length ≤ 1000) (h : Q (txL l)) : srcs_text_W l Q := by
  refine ⟨fun c => ?_, fun c => ?_⟩
  · have e : l = [] := List.eq_nil_of_length_eq_zero (by omega)
    unfold txL at h; rw [if_pos e] at h; exact h
  · have e : l ≠ [] := by rintro rfl; exact c rfl
    rw [txL_ne e] at h
    refine loop_up l.length (fun i s => s = (l.take i).map txt) rfl fun K i s hi hs hK => ?_
    show srcs_text_l1 l Q _ s (i : Int)
    unfold srcs_text_l1
    have hsl : s.length = i := by rw [hs, List.length_map, List.length_take]; omega
    refine ⟨fun d => ?_, fun d => ?_⟩
    · have hi1 : i < l.length := by omega
      rw [gi_nat hi1]
      refine ⟨by omega, text_ok ⟨?_, by unfold I64; omega, hK (i + 1) _ (by omega) (by omega) ?_⟩⟩
      · simp only [List.length_cons, List.length_nil]; omega
      · rw [hs, List.take_succ_eq_append_getElem hi1, List.map_append]; rfl
    · have : i = l.length := by omega
      subst this
      rw [List.take_length] at hs; rw [hs]
      have := txJ_len l
      refine ⟨⟨by rw [List.length_map]; omega, by omega⟩, h⟩
theorem parseL_any {s : Str} (hl : s.length ≤ 1000) {Q : List Ad → Int → Prop} (hp : ∀ x ∈ splitS s [44], x.length ≤ 800)
    (h1 : ∀ l, ASet l → l.length ≤ s.length + 1 → txL l = s → (∀ l', ASet l' → txL l' = s → l' = l) → Q l 0) (h2 : (∀ l, ASet l → txL l ≠ s) → Q [] 2) : srcs_Parse_W s Q := by
  refine ⟨fun c => ?_, fun c => ⟨⟨by omega, by decide⟩, ?_⟩⟩
  · subst c
    refine h1 [] ASet.nil (by simp) rfl fun l' _ e => ?_
    by_cases q : l' = []
    · exact q
    · rw [txL_ne q] at e; exact absurd e (txJ_no q)
  · have key : ∀ l, ASet l → txL l = s → l ≠ [] ∧ l.map txt = splitS s [44] := by
      intro l _ e
      have hl : l ≠ [] := by rintro rfl; exact c e.symm
      rw [txL_ne hl] at e
      exact ⟨hl, by rw [← e, txJ_split hl]⟩
    have hsl := split_len s 44
    have hne := split_ne s 44
    refine loop_from (fun st => st.2.2) 0 (splitS s [44]).length (fun i st => st.2.1.map txt = (splitS s [44]).take i ∧ ASet st.2.1 ∧ ∀ l, ASet l → l.map txt = splitS s [44] → st.2.1 = l.take i) rfl (by omega) ⟨rfl, ASet.nil, fun _ _ _ => rfl⟩ ?_
    rintro K i ⟨l1, out, _⟩ rfl hi ⟨hm, hA, hU⟩ hK
    dsimp only at hm hA hU ⊢
    unfold srcs_Parse_l2
    have hol : out.length = i := by have := congrArg List.length hm; rw [List.length_map, List.length_take] at this; omega
    refine ⟨fun d => ⟨by omega, ?_⟩, fun d => ?_⟩
    · have hi1 : i < (splitS s [44]).length := by omega
      rw [gi_nat hi1]
      have at_i : ∀ l, ASet l → l.map txt = splitS s [44] → ∃ h : i < l.length, txt l[i] = (splitS s [44])[i] ∧ goodA l[i] := by
        intro l hA' hm'
        have hlen : l.length = (splitS s [44]).length := by rw [← hm', List.length_map]
        refine ⟨by omega, ?_, aGood_iff.1 (hA'.good _ (List.getElem_mem _))⟩
        have : (l.map txt)[i]'(by rw [List.length_map]; omega) = (splitS s [44])[i] := by simp only [hm']
        rw [← this, List.getElem_map]
      refine parse_uni (hp _ (List.getElem_mem _)) (fun a ha e ua => ⟨fun q => absurd rfl q, fun _ => ?_⟩) (fun hno => ⟨fun _ => h2 fun l hA' e => ?_, fun q => (by cases q)⟩)
      · have is_i : ∀ l, (hA' : ASet l) → l.map txt = splitS s [44] → ∃ h : i < l.length, l[i] = a := by
          intro l hA' hm'
          obtain ⟨h, e1, g1⟩ := at_i l hA' hm'
          exact ⟨h, ua _ g1 e1⟩
        have next : (∀ x ∈ out, aLt x a) → srcs_Parse_j1 l1 out i (fun l_1 out_1 n_1 => K (l_1, out_1, n_1)) a := by
          intro hlt
          refine ⟨?_, by unfold I64; omega, hK (i + 1) _ (by simp) (by omega) (by omega) ⟨?_, ?_, ?_⟩⟩
          · simp only [List.length_cons, List.length_nil]; omega
          · dsimp only; rw [List.map_append, hm, List.take_succ_eq_append_getElem hi1, List.map_singleton, e]
          · refine ⟨List.pairwise_append.2 ⟨hA.rise, List.pairwise_singleton _ _, fun x hx y hy => ?_⟩, fun x hx => ?_⟩
            · simp at hy; subst hy; exact hlt x hx
            · rcases List.mem_append.1 hx with hx | hx
              · exact hA.good x hx
              · simp at hx; subst hx; exact aGood_iff.2 ha
          · intro l hA' hm'
            obtain ⟨h, el⟩ := is_i l hA' hm'
            dsimp only
            rw [List.take_succ_eq_append_getElem h, el, ← hU l hA' hm']
        refine ⟨fun d0 => ⟨by unfold I64; omega, by omega, cmpP_ok ⟨fun q => h2 fun l hA' e' => ?_, fun q => next fun x hx => ?_⟩⟩, fun d0 => next fun x hx => ?_⟩
        · have hm' := (key l hA' e').2
          obtain ⟨h, el⟩ := is_i l hA' hm'
          have hu := hU l hA' hm'
          have i1 : i - 1 < out.length := by omega
          rw [show (out.length : Int) - 1 = ((i - 1 : Nat) : Int) by omega, gi_nat i1] at q
          have eo : out[i - 1] = l[i - 1]'(by omega) := by simp only [hu, List.getElem_take]
          have := List.pairwise_iff_getElem.1 hA'.rise (i - 1) i (by omega) h (by omega)
          rw [← eo, el] at this
          unfold aLt at this
          have q' : 0 ≤ aCmp out[i - 1] a := q
          omega
        · have i1 : i - 1 < out.length := by omega
          rw [show (out.length : Int) - 1 = ((i - 1 : Nat) : Int) by omega, gi_nat i1] at q
          have q' : aLt out[i - 1] a := by
            have q' : ¬ 0 ≤ aCmp out[i - 1] a := q
            unfold aLt; omega
          obtain ⟨k, hk, rfl⟩ := List.mem_iff_getElem.1 hx
          by_cases hki : k = i - 1
          · subst hki; exact q'
          · exact aLt_trans _ _ _ (List.pairwise_iff_getElem.1 hA.rise k (i - 1) hk i1 (by omega)) q'
        · have : out = [] := List.eq_nil_of_length_eq_zero (by omega)
          rw [this] at hx; cases hx
      · have hm' := (key l hA' e).2
        obtain ⟨_, e1, g1⟩ := at_i l hA' hm'
        exact hno _ g1 e1
    · have hie : i = (splitS s [44]).length := by omega
      rw [hie, List.take_length] at hm
      have hon : out ≠ [] := by rintro rfl; exact hne hm.symm
      refine h1 out hA (by omega) (by rw [txL_ne hon, hm, join_split]) fun l' hA' e' => ?_
      have hm' := (key l' hA' e').2
      rw [hU l' hA' hm', hie, ← hm', List.length_map, List.take_length]
theorem txt4 {a : Ad} (h : a.1 = false) : txt a = joinS [numL 10 (by8 a 0), numL 10 (by8 a 1), numL 10 (by8 a 2), numL 10 (by8 a 3)] [46] := by
  unfold txt; rw [if_neg (by rw [h]; decide)]; rfl
theorem four_tx (n : Nat) (hn : n < 10) : txt (four n) = [49, 48, 46, 48, 46, 48, 46, dig n] := by
  have n10 : numL 10 10 = [49, 48] := by rw [numL_ge (by decide) (by decide), numL_lt (by decide)]; rfl
  have n0 : numL 10 0 = [48] := by rw [numL_lt (by decide)]; rfl
  have nn : numL 10 n = [dig n] := numL_lt hn
  rw [txt4 rfl]
  have b0 : by8 (four n) 0 = 10 := rfl
  have b1 : by8 (four n) 1 = 0 := rfl
  have b2 : by8 (four n) 2 = 0 := rfl
  have b3 : by8 (four n) 3 = n := by
    show (UInt8.ofNat (n : Int).toNat).toNat = n
    rw [Int.toNat_natCast, UInt8.toNat_ofNat']; omega
  rw [b0, b1, b2, b3, n10, n0, nn]
  rfl
theorem four_txL : txL [four 1, four 2] = [49, 48, 46, 48, 46, 48, 46, 49, 44, 49, 48, 46, 48, 46, 48, 46, 50] := by
  rw [txL_ne (by simp)]
  show joinS [txt (four ((1 : Nat) : Int)), txt (four ((2 : Nat) : Int))] [44] = _
  rw [four_tx 1 (by decide), four_tx 2 (by decide)]
  rfl
end Go.Wk
