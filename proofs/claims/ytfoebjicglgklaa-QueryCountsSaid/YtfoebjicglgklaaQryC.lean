/- Plain words: QueryCounts. -/
import Derived.Test.YtfoebjicglgklaaQryO
set_option linter.unusedSimpArgs false
set_option linter.unusedVariables false
set_option linter.unusedSectionVars false
namespace Go.Wk
open Go.HL
variable [DM]
variable {at_ : CM} {op : OM} {A : Qs}
theorem tuneG_ok {t : T_api_Tune} {Q : Bool → Prop} (h0 : Q false) (h1 : (1 ≤ t.1 ∧ t.1 ≤ 7) → (1 ≤ t.2.1 ∧ t.2.1 ≤ 317440) → (1 ≤ t.2.2.2.1 ∧ t.2.2.2.1 ≤ 31744) → (1 ≤ t.2.2.2.2 ∧ t.2.2.2.2 ≤ 7) → Q true) : ref14_Good_W t Q := by
  have j1 : ∀ b, (b = false → (1 ≤ t.1 ∧ t.1 ≤ 7) ∧ (1 ≤ t.2.1 ∧ t.2.1 ≤ 317440) ∧ (1 ≤ t.2.2.2.2 ∧ t.2.2.2.2 ≤ 7)) → ref14_Good_j1 t Q b := by
    intro b hb
    refine ⟨fun _ => h0, fun c => ?_⟩
    obtain ⟨h2, h3, h4⟩ := hb c
    refine ⟨fun a1 => ⟨fun a2 => ⟨fun a3 => ⟨fun a4 => ?_, fun _ => h0⟩, fun _ => h0⟩, fun _ => h0⟩, fun _ => h0⟩
    by_cases e : t.2.2.1 ≤ t.2.1
    · rw [decide_eq_true e]; exact h1 h2 h3 ⟨by omega, by omega⟩ h4
    · rw [decide_eq_false e]; exact h0
  refine ⟨fun _ => j1 _ (by simp), fun a => ⟨fun _ => j1 _ (by simp), fun b => ⟨fun _ => j1 _ (by simp), fun c => ⟨fun _ => j1 _ (by simp), fun d => ⟨fun _ => j1 _ (by simp), fun e => j1 _ fun f => ?_⟩⟩⟩⟩⟩
  have f := of_decide_eq_false f
  exact ⟨⟨by omega, by omega⟩, ⟨by omega, by omega⟩, ⟨by omega, by omega⟩⟩
theorem some22_ok {l : List Ad} {Q : Bool → Prop} (hl : l.length ≤ 1000) (h : Q (decide (ofL l ≠ []))) : law22_some_W l Q := by
  refine loop_up1 l.length (fun i => ∀ a ∈ l.take i, aGood a = false) (by simp) ?_
  intro K i hi hI hK
  show law22_some_l1 _ _ _ _
  unfold law22_some_l1
  refine ⟨fun c => ?_, fun c => ?_⟩
  · have hil : i < l.length := by omega
    rw [gi_nat hil]
    refine ⟨by (first | omega | (unfold I64; omega) | (simp only [List.length_append, List.length_cons, List.length_nil, List.length_take, List.length_drop] at *; omega) | (unfold I64; simp only [List.length_append, List.length_cons, List.length_nil, List.length_take, List.length_drop] at *; omega)), goodR_ok ⟨fun d => ?_, fun d => ⟨by (first | omega | (unfold I64; omega) | (simp only [List.length_append, List.length_cons, List.length_nil, List.length_take, List.length_drop] at *; omega) | (unfold I64; simp only [List.length_append, List.length_cons, List.length_nil, List.length_take, List.length_drop] at *; omega)), hK (i + 1) (by omega) (by omega) fun a ha => ?_⟩⟩⟩
    · have : ofL l ≠ [] := by
        have hm : l[i] ∈ ofL l := mem_ofL.2 ⟨List.getElem_mem hil, d⟩
        intro e; rw [e] at hm; cases hm
      rw [decide_eq_true this] at h; exact h
    · rw [List.take_succ_eq_append_getElem hil] at ha
      rcases List.mem_append.1 ha with ha | ha
      · exact hI a ha
      · rw [List.mem_singleton] at ha; subst ha; exact d
  · have hil : i = l.length := by omega
    subst hil
    rw [List.take_length] at hI
    have : ofL l = [] := by
      cases e : ofL l with
      | nil => rfl
      | cons a r =>
        have hm : a ∈ ofL l := by rw [e]; simp
        obtain ⟨h1, h2⟩ := mem_ofL.1 hm
        rw [hI a h1] at h2; cases h2
    rw [decide_eq_false (by rw [this]; simp)] at h; exact h
theorem setS_all {c : Int} {l : SM} {a : Ad} (h : ∀ p ∈ l, p.2 = c) : ∀ p ∈ setS c l a, p.2 = c := by
  intro p hp
  unfold setS at hp
  split at hp
  · obtain ⟨q, hq, rfl⟩ := List.mem_map.1 hp
    split
    · rfl
    · exact h q hq
  · split at hp
    · exact h p hp
    · rcases mem_mid.1 hp with rfl | hp
      · rfl
      · rw [List.takeWhile_append_dropWhile] at hp; exact h p hp
theorem fold_all {c : Int} : ∀ (ks : List Ad) (l : SM), (∀ p ∈ l, p.2 = c) → ∀ p ∈ ks.foldl (setS c) l, p.2 = c
  | [], _, h => h
  | a :: ks, l, h => fold_all ks _ (setS_all h)
/-- A group, of which so many queries are left. -/
def oK (g : Ad) (all : Bool) (l0 : SM) (c now : Int) : Oq := ⟨g, now, if all = true then c else 0, l0.map fun p => (p.1, c)⟩
theorem decL_same {l0 : SM} {c : Int} : decL (l0.map fun p => (p.1, c)) = if 1 < c then l0.map (fun p => (p.1, c - 1)) else [] := by
  unfold decL
  rw [List.map_map]
  split
  · rename_i h
    rw [List.filter_eq_self.2]
    · rfl
    · intro p hp
      obtain ⟨q, hq, rfl⟩ := List.mem_map.1 hp
      simp only [Function.comp_apply, decide_eq_true_eq]; omega
  · rename_i h
    rw [List.filter_eq_nil_iff]
    intro p hp
    obtain ⟨q, hq, rfl⟩ := List.mem_map.1 hp
    simp only [Function.comp_apply, decide_eq_true_eq]; omega
theorem tell_oK {g : Ad} {all : Bool} {l0 : SM} {c now last : Int} (h1 : 1 ≤ c) (hne : all = true ∨ l0 ≠ []) : (if goneO (tellO now last (oK g all l0 c now)) = true then [] else [tellO now last (oK g all l0 c now)]) = if 1 < c then [oK g all l0 (c - 1) (now + last)] else [] := by
  have ht : tellO now last (oK g all l0 c now) = if 1 < c then oK g all l0 (c - 1) (now + last) else ⟨g, now + last, 0, []⟩ := by
    unfold tellO oK
    simp only [decL_same]
    by_cases e : 1 < c
    · rw [if_pos e, if_pos e]
      cases all
      · rfl
      · simp only [if_true]; rw [Int.max_eq_left (by omega)]
    · rw [if_neg e, if_neg e]
      cases all
      · rfl
      · simp only [if_true]; rw [Int.max_eq_right (by omega)]
  rw [ht]
  by_cases e : 1 < c
  · rw [if_pos e, if_pos e, if_neg]
    unfold goneO oK
    rcases hne with rfl | hne
    · simp only [if_true]
      rw [decide_eq_false (by omega)]; simp
    · cases l0 with
      | nil => exact absurd rfl hne
      | cons p r => simp
  · rw [if_neg e, if_neg e]; rfl
theorem oK_first {g : Ad} {all : Bool} {cnt : Int} {ks : List Ad} : wantO all cnt 0 ks ⟨g, 0, 0, []⟩ = oK g all (ks.foldl (setS cnt) []) cnt 0 := by
  unfold wantO oK
  have : (ks.foldl (setS cnt) []).map (fun p => (p.1, cnt)) = ks.foldl (setS cnt) [] := by
    conv => rhs; rw [← List.map_id (ks.foldl (setS cnt) [])]
    exact List.map_congr_left fun p hp => by
      have := fold_all ks [] (by intro p hp; cases hp) p hp
      rw [← this]; rfl
  rw [this]
theorem queryCounts_ok {t : T_api_Tune} {g : Ad} {all : Bool} {src : List Ad} {Q : Bool → Prop} (h : Q true) : law22_QueryCounts_W t g all src Q := by
  unfold law22_QueryCounts_W
  refine tuneG_ok ⟨fun _ => lives22_ok h, fun c => by cases c⟩ fun t1 t2 t3 t4 => ⟨fun c => (by cases c), fun _ => ?_⟩
  refine addrs_ok ?_
  show law08_Addrs_W _ _ _
  refine addrs_ok ?_
  rw [List.take_take, Nat.min_self]
  have hS : (src.take 5).length ≤ 5 := by rw [List.length_take]; omega
  generalize src.take 5 = S at hS ⊢
  refine want_ok (A := Q0) Q0_ok ⟨by omega, by omega⟩ (by omega) fun at1 op1 R1 => ?_
  -- what was wanted
  obtain ⟨ok, hok⟩ : ∃ ok : Bool, ok = true ↔ (aGood g = true ∧ aGrp g = true ∧ (all = true ∨ ofL S ≠ [])) := ⟨decide (aGood g = true ∧ aGrp g = true ∧ (all = true ∨ ofL S ≠ [])), decide_eq_true_iff⟩
  have hw : Q0.want 0 t.2.2.2.2 g all S = (ok, { Q0 with L := if ok = true then [oK g all ((ofL S).foldl (setS t.2.2.2.2) []) t.2.2.2.2 0] else [] }) := by
    by_cases e : ok = true
    · obtain ⟨h1, h2, h3⟩ := hok.1 e
      rw [want_new (A := Q0) h1 h2 h3 (by intro q; cases q), if_neg (by decide), ← oK_first, e]; rfl
    · have e' : ok = false := by simpa using e
      unfold Qs.want; simp only
      rw [if_neg (fun q => e (hok.2 q)), e']; rfl
  rw [hw] at R1 ⊢
  have hne : ok = true → all = true ∨ (ofL S).foldl (setS t.2.2.2.2) [] ≠ [] := fun e => by
    rcases (hok.1 e).2.2 with h1 | h1
    · exact .inl h1
    · refine .inr fun q => h1 ?_
      have := fold_len (c := t.2.2.2.2) (ofL S) [] (ofL_set S).nodup (by intro a _ q; cases q) (by decide)
      rw [q] at this
      simp only [List.length_nil] at this
      exact List.length_eq_zero_iff.1 (by omega)
  generalize (ofL S).foldl (setS t.2.2.2.2) [] = l0 at R1 hne ⊢
  obtain ⟨C, hC⟩ : ∃ C : Nat, (C : Int) = t.2.2.2.2 := ⟨t.2.2.2.2.toNat, by omega⟩
  rw [← hC] at R1 ⊢
  refine loop_by (fun s => s.2.2.2.2.2.2) 10 (fun i s => ∃ A : Qs, QR s.2.1 s.2.2.2.1 A ∧ s.1 = A.now ∧ s.2.2.1 = A.first ∧ A.on = none ∧ A.first = 0 ∧ (0 ≤ A.now ∧ A.now ≤ s.2.2.2.2.2.1) ∧ s.2.2.2.2.2.1 ≤ 31744 * i ∧ s.2.2.2.2.1 = (if ok = true then ((min i C : Nat) : Int) else 0) ∧ A.L = if ok = true ∧ i < C then [oK g all l0 (C - i) s.2.2.2.2.2.1] else []) rfl
    ⟨_, R1, rfl, rfl, rfl, rfl, ⟨Int.le_refl 0, Int.le_refl 0⟩, Int.le_refl 0, by cases ok <;> simp, ?_⟩ ?_
  · show (if ok = true then _ else _) = _
    by_cases e : ok = true
    · rw [if_pos e, if_pos ⟨e, by omega⟩]; simp
    · rw [if_neg e, if_neg (fun q => e q.1)]
  rintro K i ⟨nw, at2, fs, op2, told, now, _⟩ rfl hi ⟨A, R, e1, e2, hon, hf, hnw, hnow, htold, hL⟩ hK
  have e1 : nw = A.now := e1
  have e2 : fs = A.first := e2
  subst e1; subst e2
  simp only at R hnw hnow htold hL
  show law22_QueryCounts_l1 t g all Q S ok _ A.now at2 A.first op2 told now (i : Int)
  unfold law22_QueryCounts_l1
  refine ⟨fun c => ?_, fun c => ?_⟩
  · have hBd : Bd A := ⟨hnw.1, by omega, by omega, by omega⟩
    refine due_ok R hBd ⟨by omega, by omega⟩ ⟨by omega, by omega⟩ fun out at3 op3 ho R3 => ?_
    have hsn : (A.settle now).now = now := by unfold Qs.settle; simp only; omega
    have hd : A.due now t = (false, (A.L.filter fun o => decide (o.t ≤ now)).map tldO, { A.settle now with L := A.L.flatMap (stepO now t.2.2.2.1) }) := by
      have hg : (A.settle now).gen t = (false, A.settle now) := by
        unfold Qs.gen; show (match A.on with | none => _ | some a => _) = _; rw [hon]
      unfold Qs.due
      simp only [hg, hsn]; rfl
    rw [hd] at ho R3 ⊢
    simp only at ho R3 ⊢
    have hstep : A.L.flatMap (stepO now t.2.2.2.1) = if ok = true ∧ i + 1 < C then [oK g all l0 (C - (i + 1 : Nat)) (now + t.2.2.2.1)] else [] := by
      rw [hL]
      by_cases e : ok = true ∧ i < C
      · rw [if_pos e, List.flatMap_cons, List.flatMap_nil, List.append_nil]
        have h1 : stepO now t.2.2.2.1 (oK g all l0 (C - i) now) = if goneO (tellO now t.2.2.2.1 (oK g all l0 (C - i) now)) = true then [] else [tellO now t.2.2.2.1 (oK g all l0 (C - i) now)] := by
          unfold stepO; rw [if_neg (by show ¬ now < now; omega)]
        rw [h1, tell_oK (by omega) (hne e.1)]
        by_cases e3 : i + 1 < C
        · rw [if_pos (by omega), if_pos ⟨e.1, e3⟩]
          congr 2; omega
        · rw [if_neg (by omega), if_neg (fun q => e3 q.2)]
      · rw [if_neg e, if_neg (fun q => e ⟨q.1, by omega⟩)]; rfl
    have hout : (out.length : Int) = if ok = true ∧ i < C then 1 else 0 := by
      have h1 := congrArg List.length ho
      rw [List.length_map, List.length_map, hL] at h1
      rw [h1]
      by_cases e : ok = true ∧ i < C
      · rw [if_pos e, if_pos e]
        have : ([oK g all l0 (C - i) now].filter fun o => decide (o.t ≤ now)) = [oK g all l0 (C - i) now] := by
          rw [List.filter_eq_self]; intro a ha; rw [List.mem_singleton] at ha; subst ha; exact decide_eq_true (Int.le_refl _)
        rw [this]; rfl
      · rw [if_neg e, if_neg e]; rfl
    have htl : 0 ≤ told ∧ told ≤ 7 := by rw [htold]; split <;> omega
    have hnext : told + (out.length : Int) = (if ok = true then ((min (i + 1) C : Nat) : Int) else 0) := by
      rw [hout, htold]
      by_cases e : ok = true
      · rw [if_pos e, if_pos e]
        by_cases e3 : i < C
        · rw [if_pos ⟨e, e3⟩]; omega
        · rw [if_neg (fun q => e3 q.2)]; omega
      · rw [if_neg e, if_neg e, if_neg (fun q => e q.1)]; rfl
    rw [hstep] at R3
    have hol : 0 ≤ (out.length : Int) ∧ (out.length : Int) ≤ 1 := by rw [hout]; split <;> omega
    refine ⟨by (first | omega | (unfold I64; omega) | (simp only [List.length_append, List.length_cons, List.length_nil, List.length_take, List.length_drop] at *; omega) | (unfold I64; simp only [List.length_append, List.length_cons, List.length_nil, List.length_take, List.length_drop] at *; omega)), ?_⟩
    show query_Queries_Next_W (A.settle now).now at3 (A.settle now).first op3 _
    by_cases e : ok = true ∧ i + 1 < C
    · rw [if_pos e] at R3
      refine nextQ_ok R3 (fun q => ?_) fun u hu _ => ?_
      · have q : A.on.toList ++ [now + t.2.2.2.1] = [] := q
        rw [hon] at q; cases q
      · have hu : u ∈ A.on.toList ++ [now + t.2.2.2.1] := hu
        rw [hon] at hu
        have hu : u = now + t.2.2.2.1 := by simpa using hu
        subst hu
        refine ⟨fun _ => ⟨by (first | omega | (unfold I64; omega) | (simp only [List.length_append, List.length_cons, List.length_nil, List.length_take, List.length_drop] at *; omega) | (unfold I64; simp only [List.length_append, List.length_cons, List.length_nil, List.length_take, List.length_drop] at *; omega)), fun q => absurd rfl q, fun _ => ⟨by (first | omega | (unfold I64; omega) | (simp only [List.length_append, List.length_cons, List.length_nil, List.length_take, List.length_drop] at *; omega) | (unfold I64; simp only [List.length_append, List.length_cons, List.length_nil, List.length_take, List.length_drop] at *; omega)), hK (i + 1) _ rfl (by omega) (by omega) ⟨_, R3, rfl, rfl, hon, hf, ⟨?_, ?_⟩, ?_, hnext, ?_⟩⟩⟩, fun q => by cases q⟩
        · show 0 ≤ (A.settle now).now; rw [hsn]; omega
        · show (A.settle now).now ≤ now + t.2.2.2.1; rw [hsn]; omega
        · show now + t.2.2.2.1 ≤ 31744 * ((i + 1 : Nat) : Int); omega
        · rw [if_pos e]
    · rw [if_neg e] at R3
      refine nextQ_ok R3 (fun q => ?_) fun u hu _ => ?_
      · refine ⟨fun q => (by cases q), fun _ => ⟨by (first | omega | (unfold I64; omega) | (simp only [List.length_append, List.length_cons, List.length_nil, List.length_take, List.length_drop] at *; omega) | (unfold I64; simp only [List.length_append, List.length_cons, List.length_nil, List.length_take, List.length_drop] at *; omega)), hK (i + 1) _ rfl (by omega) (by omega) ⟨_, R3, rfl, rfl, hon, hf, ⟨?_, ?_⟩, ?_, hnext, ?_⟩⟩⟩
        · show 0 ≤ (A.settle now).now; rw [hsn]; omega
        · show (A.settle now).now ≤ now; rw [hsn]; omega
        · show now ≤ 31744 * ((i + 1 : Nat) : Int); omega
        · rw [if_neg e]
      · have hu : u ∈ A.on.toList ++ [] := hu
        rw [hon] at hu; cases hu
  · have hi10 : i = 10 := by omega
    subst hi10
    have hL0 : A.L = [] := by rw [hL, if_neg]; rintro ⟨_, q⟩; omega
    have jm : ∀ w, w = (if ok = true then (C : Int) else 0) → law22_QueryCounts_j1 g all Q S ok A.now at2 A.first op2 told w := by
      intro w hw'
      refine ⟨fun _ => open_ok R fun out ho => ⟨fun _ => ?_, fun q => ?_⟩, fun q => absurd ?_ q⟩
      · refine goodR_ok ⟨fun a1 => grpR_ok ⟨fun a2 => ⟨fun a3 => ?_, fun a3 => some22_ok (by omega) ?_⟩, fun a2 => ?_⟩, fun a1 => ?_⟩
        · have : ok = true := hok.2 ⟨a1, a2, .inl a3⟩
          rw [this]; exact ⟨fun _ => lives22_ok h, fun q => by cases q⟩
        · have : ok = decide (ofL S ≠ []) := by
            rw [Bool.eq_iff_iff, hok, decide_eq_true_iff]
            exact ⟨fun q => q.2.2.resolve_left (by rw [a3]; decide), fun q => ⟨a1, a2, .inr q⟩⟩
          rw [← this]
          cases ok <;> exact ⟨fun _ => lives22_ok h, fun q => by cases q⟩
        · have : ok = false := by
            cases ok with
            | false => rfl
            | true => have := (hok.1 rfl).2.1; rw [this] at a2; cases a2
          rw [this]; exact ⟨fun _ => lives22_ok h, fun q => by cases q⟩
        · have : ok = false := by
            cases ok with
            | false => rfl
            | true => have := (hok.1 rfl).1; rw [this] at a1; cases a1
          rw [this]; exact ⟨fun _ => lives22_ok h, fun q => by cases q⟩
      · have := congrArg List.length ho
        rw [hL0] at this
        simp only [List.length_map, List.length_nil] at this
        exact absurd (by omega) q
      · rw [htold, hw']
        split <;> omega
    exact ⟨fun q => jm _ (by rw [if_pos q, hC]), fun q => jm _ (by rw [if_neg (by rw [q]; decide)])⟩
end Go.Wk
