/- Plain words: queries: the rest of the program's calls; the document's answer over what is left, in order; QueryPlays. -/
import Derived.Test.YtfoebjicglgklaaGreatQryN
set_option linter.unusedSimpArgs false
set_option linter.unusedVariables false
set_option linter.unusedSectionVars false
namespace Go.Wk
open Go.HL
variable [DM]
variable {at_ : CM} {op : OM} {A : Qs}
theorem nodup_len {α : Type} [DecidableEq α] : ∀ {l m : List α}, l.Nodup → (∀ x ∈ l, x ∈ m) → l.length ≤ m.length
  | [], _, _, _ => Nat.zero_le _
  | a :: l, m, hn, hs => by
    rw [List.nodup_cons] at hn
    have ha : a ∈ m := hs a (by simp)
    have := nodup_len (l := l) (m := m.erase a) hn.2 fun x hx => (List.mem_erase_of_ne (show x ≠ a from fun e => hn.1 (by rw [← e]; exact hx))).2 (hs x (by simp [hx]))
    rw [List.length_erase_of_mem ha] at this
    have := List.length_pos_of_mem ha
    simp only [List.length_cons]; omega
def Qs.stop (A : Qs) : Qs := { A with on := none, L := [] }
theorem stop_ok {Q : Int → CM → Int → OM → Prop} (R : QR at_ op A) (h : QR [] [] A.stop → Q A.now [] A.first []) : query_Queries_Stop_W A.now at_ A.first op Q := by
  have h64 := R.len
  have hkey : ∀ k ∈ at_.map Prod.fst, k ∈ [] :: A.L.map fun o => bOf o.g := fun k hk => by
    obtain ⟨t, ht⟩ := mget_in.1 hk
    rcases R.atk k t ht with rfl | ⟨o, ho, rfl⟩
    · simp
    · exact List.mem_cons_of_mem _ (List.mem_map.2 ⟨o, ho, rfl⟩)
  have hlen : at_.length ≤ 65 := by
    have := nodup_len R.atn hkey
    simp only [List.length_map, List.length_cons] at this; omega
  have hkl : ∀ p ∈ at_, p.1.length ≤ 1000000 := fun p hp => by
    have := hkey p.1 (List.mem_map.2 ⟨p, hp, rfl⟩)
    rcases List.mem_cons.1 this with e | e
    · rw [e]; simp
    · obtain ⟨o, _, e⟩ := List.mem_map.1 e
      rw [← e, bOf_len]; split <;> omega
  refine ⟨⟨by omega, hkl⟩, fun ks hks _ => ?_⟩
  have hkn : ks.Nodup := hks.nodup_iff.2 R.atn
  have hksl : ks.length ≤ 65 := by have := hks.length_eq; simp at this; omega
  refine loop_by (fun s => s.2) ks.length (fun i s => (s.1.map Prod.fst).Nodup ∧ ∀ k t, mget s.1 k = some t → k ∈ ks.drop i) rfl ⟨R.atn, fun k t hk => by
    rw [List.drop_zero, hks.mem_iff]; exact mget_in.2 ⟨t, hk⟩⟩ ?_
  rintro K i ⟨m, _⟩ rfl hi ⟨hm, hI⟩ hK
  simp only at hm hI
  show query_Queries_Stop_l1 _ _ _ _ _ m (i : Int)
  unfold query_Queries_Stop_l1
  refine ⟨fun c => ?_, fun c => ?_⟩
  · have hil : i < ks.length := by omega
    rw [gi_nat hil]
    refine ⟨by (first | omega | (unfold I64; omega) | (simp only [List.length_append, List.length_cons, List.length_nil, List.length_take, List.length_drop] at *; omega) | (unfold I64; simp only [List.length_append, List.length_cons, List.length_nil, List.length_take, List.length_drop] at *; omega)), ?_⟩
    show _ ∧ _
    refine ⟨by (first | omega | (unfold I64; omega) | (simp only [List.length_append, List.length_cons, List.length_nil, List.length_take, List.length_drop] at *; omega) | (unfold I64; simp only [List.length_append, List.length_cons, List.length_nil, List.length_take, List.length_drop] at *; omega)), hK (i + 1) _ rfl (by omega) (by omega) ⟨nodup_mdel hm _, fun k t hk => ?_⟩⟩
    have hk : mget (mdel m ks[i]) k = some t := hk
    rw [mget_mdel] at hk
    split at hk
    · cases hk
    · rename_i e
      have := hI k t hk
      rw [List.drop_eq_getElem_cons hil] at this
      exact (List.mem_cons.1 this).resolve_left e
  · have hil : i = ks.length := by omega
    subst hil
    rw [List.drop_length] at hI
    have : m = [] := by
      cases m with
      | nil => rfl
      | cons p r => exact absurd (hI p.1 p.2 (by rw [mget_cons, if_pos rfl])) (by simp)
    subst this
    exact h ⟨List.nodup_nil, rfl, fun o ho => (by cases ho), fun k t h => (by cases h), List.nodup_nil, fun g x h => (by cases h), fun o ho => (by cases ho), ASet.nil, fun o ho => (by cases ho), Nat.zero_le _⟩
def Qs.cancel (A : Qs) (g : Ad) : Bool × Qs := (decide (g ∈ gs A.L), { A with L := A.L.filter fun o => decide (o.g ≠ g) })
theorem filter_mid {pre post : List Oq} {o : Oq} (h : ASet (gs (pre ++ o :: post))) : (pre ++ o :: post).filter (fun p => decide (p.g ≠ o.g)) = pre ++ post := by
  have hne := fun p hp => mid_ne (p := p) h hp
  rw [List.filter_append, List.filter_cons, if_neg (by simp)]
  rw [List.filter_eq_self.2 fun p hp => by simpa using hne p (by simp [hp]), List.filter_eq_self.2 fun p hp => by simpa using hne p (by simp [hp])]
theorem cancel_ok {g : Ad} {Q : Bool → Int → CM → Int → OM → Prop} (R : QR at_ op A) (h : ∀ at' op', QR at' op' (A.cancel g).2 → Q (A.cancel g).1 A.now at' A.first op') : query_Queries_Cancel_W A.now at_ A.first op g Q := by
  show query_Queries_cancel_W _ _ _ _ _ _
  unfold query_Queries_cancel_W
  by_cases hin : g ∈ gs A.L
  · obtain ⟨o, ho, rfl⟩ := List.mem_map.1 hin
    obtain ⟨pre, post, hL⟩ := List.append_of_mem ho
    obtain ⟨j, s, hgo, _⟩ := R.opg o ho
    have hset := R.set
    rw [hL] at hset
    rw [hgo]
    refine ⟨fun _ => key_ok ?_, fun c => by cases c⟩
    have e1 : (A.cancel o.g).1 = true := decide_eq_true hin
    have hq := h (mdel at_ (bOf o.g)) (mdel op o.g)
    rw [e1] at hq
    refine hq ?_
    show QR _ _ { A with L := A.L.filter fun p => decide (p.g ≠ o.g) }
    rw [hL, filter_mid hset]
    exact QR.del (A := A) (R.frame (by show pre ++ o :: post = A.L; rw [hL]) rfl)
  · have hno : mget op g = none := by
      cases e : mget op g with
      | none => rfl
      | some x => exact absurd (R.opk g x e) hin
    rw [hno]
    refine ⟨fun c => (by cases c), fun _ => ?_⟩
    have e1 : (A.cancel g).1 = false := decide_eq_false hin
    have hq := h at_ (mdel op g)
    rw [e1] at hq
    refine hq ?_
    rw [mdel_none hno]
    refine R.frame ?_ rfl
    show A.L.filter _ = A.L
    rw [List.filter_eq_self]
    intro o ho
    exact decide_eq_true fun e => hin (by rw [← e]; exact List.mem_map.2 ⟨o, ho, rfl⟩)
abbrev On := TrO
abbrev PM := List (SV × SM)
def rdO (x : On) : Oq := ⟨x.1, x.2.1, x.2.2.1, x.2.2.2.2⟩
def nst (L : List On) : PM := (L.map fun x => x.2.2.2).filter fun p => decide (p ≠ ((none, 0, 0), []))
def InP (L : List On) (ps : PM) : Prop := ∃ r, ps.Perm (nst L ++ r)
theorem nst_app (a b : List On) : nst (a ++ b) = nst a ++ nst b := by unfold nst; simp
theorem InP.nil (ps : PM) : InP [] ps := ⟨ps, List.Perm.refl _⟩
theorem InP.has {L : List On} {ps : PM} (h : InP L ps) {x : On} (hx : x ∈ L) : PHas ps (x.2.2.2.1, x.2.2.2.2) := by
  by_cases e : x.2.2.2 = ((none, 0, 0), [])
  · exact .inr e
  · obtain ⟨r, hr⟩ := h
    left
    rw [hr.mem_iff]
    refine List.mem_append.2 (.inl (List.mem_filter.2 ⟨List.mem_map.2 ⟨x, hx, rfl⟩, decide_eq_true e⟩))
theorem InP.of {L L' : List On} {ps : PM} (h : InP L ps) {r : PM} (hp : (nst L).Perm (nst L' ++ r)) : InP L' ps := by
  obtain ⟨r', hr⟩ := h
  exact ⟨r ++ r', hr.trans (by rw [← List.append_assoc]; exact hp.append_right r')⟩
theorem InP.put {L : List On} {ps : PM} (h : InP L ps) (p : SV × SM) : InP L (p :: ps) := by
  obtain ⟨r, hr⟩ := h
  exact ⟨p :: r, (hr.cons p).trans List.perm_middle.symm⟩
theorem nst_nil (l : List On) : (((none, 0, 0), []) : SV × SM) ∉ nst l := fun q => by
  have := (List.mem_filter.1 q).2; simp at this
theorem nst_cons (x : On) (b : List On) : nst (x :: b) = (if x.2.2.2 = ((none, 0, 0), []) then [] else [x.2.2.2]) ++ nst b := by
  unfold nst; rw [List.map_cons, List.filter_cons]; by_cases e : x.2.2.2 = ((none, 0, 0), []) <;> simp [e]
theorem InP.mid {a b : List On} {x y : On} {ps : PM} (h : InP (a ++ x :: b) ps) : InP (a ++ y :: b) (y.2.2.2 :: pErase ps x.2.2.2) := by
  obtain ⟨r, hr⟩ := h
  rw [nst_app, nst_cons] at hr
  have h1 : ∃ r', (pErase ps x.2.2.2).Perm (nst a ++ (nst b ++ r')) := by
    have hp := pErase_perm hr x.2.2.2
    by_cases e : x.2.2.2 = ((none, 0, 0), [])
    · rw [if_pos e, List.nil_append] at hp
      rw [e] at hp ⊢
      refine ⟨pErase r ((none, 0, 0), []), hp.trans ?_⟩
      rw [List.append_assoc, pErase_right (nst_nil a), pErase_right (nst_nil b)]
    · rw [if_neg e] at hp
      refine ⟨r, hp.trans ?_⟩
      have hq : (nst a ++ ([x.2.2.2] ++ nst b) ++ r).Perm (x.2.2.2 :: (nst a ++ (nst b ++ r))) := by
        simp only [List.append_assoc, List.cons_append, List.nil_append]
        exact List.perm_middle
      exact (pErase_perm hq x.2.2.2).trans (by rw [pErase_head])
  obtain ⟨r', hr'⟩ := h1
  unfold InP
  rw [nst_app, nst_cons]
  by_cases e : y.2.2.2 = ((none, 0, 0), [])
  · refine ⟨y.2.2.2 :: r', ?_⟩
    rw [if_pos e, List.nil_append]
    refine (hr'.cons y.2.2.2).trans ?_
    rw [← List.append_assoc]
    exact List.perm_middle.symm
  · refine ⟨r', ?_⟩
    rw [if_neg e]
    refine (hr'.cons y.2.2.2).trans ?_
    simp only [List.append_assoc, List.cons_append, List.nil_append]
    exact List.perm_middle.symm
structure RR (now : Int) (on : Bool) (at_ first : Int) (M : List On) (ps : PM) (A : Qs) : Prop where
  now : now = A.now
  on : A.on = if on = true then some at_ else none
  first : first = A.first
  L : M.map rdO = A.L
  ps : InP M ps
variable {now at1 first : Int} {on : Bool} {L : List On} {ps : PM}
theorem within_ok {n : Int} {Q : Int → Prop} (h : Q (max 0 (min n 1000000000000))) : ref01_Within_W n 0 1000000000000 Q := by
  refine ⟨fun c => ?_, fun c => ⟨fun d => ?_, fun d => ?_⟩⟩
  · rw [Int.max_eq_left (by omega)] at h; exact h
  · rw [Int.min_eq_right (by omega), Int.max_eq_right (by omega)] at h; exact h
  · rw [Int.min_eq_left (by omega), Int.max_eq_right (by omega)] at h; exact h
theorem settleR_ok {n : Int} {Q : PM → Int → Bool → Int → Int → List On → Prop} (R : RR now on at1 first L ps A) (hA : Bd A) (h : RR (A.settle n).now on at1 first L ps (A.settle n) → Q ps (A.settle n).now on at1 first L) : ref22_Q_Settle_W now on at1 first L n ps Q := by
  obtain ⟨rfl, r2, rfl, r4, r5⟩ := R
  have h := h ⟨rfl, r2, rfl, r4, r5⟩
  have hn0 := hA.n0
  have e : (A.settle n).now = max A.now (min n 1000000000000) := rfl
  refine within_ok ⟨fun c => ?_, fun c => ?_⟩
  · rw [e] at h
    have : max A.now (min n 1000000000000) = max 0 (min n 1000000000000) := by omega
    rw [this] at h; exact h
  · rw [e] at h
    have : max A.now (min n 1000000000000) = A.now := by omega
    rw [this] at h; exact h
theorem startR_ok {n : Int} {t : T_api_Tune} {Q : PM → Int → Bool → Int → Int → List On → Prop} (R : RR now on at1 first L ps A) (hA : Bd A) (h : RR (A.settle n).now true (A.settle n).now t.1 L ps { A.settle n with first := t.1, on := some (A.settle n).now } → Q ps (A.settle n).now true (A.settle n).now t.1 L) : ref22_Q_Start_W now on at1 first L n t ps Q :=
  settleR_ok R hA fun R1 => h ⟨rfl, rfl, rfl, R1.L, R1.ps⟩
theorem findR_ok {g : Ad} {Q : Int → PM → Prop} (hl : L.length ≤ 64) (h0 : (∀ x ∈ L, x.1 ≠ g) → Q (-1) ps) (h1 : ∀ (i : Nat) (hi : i < L.length), L[i].1 = g → (∀ x ∈ L.take i, x.1 ≠ g) → Q (i : Int) ps) : ref22_Q_find_W now on at1 first L g ps Q := by
  refine loop_up1 L.length (fun i => ∀ x ∈ L.take i, x.1 ≠ g) (by simp) ?_
  intro K i hi hI hK
  show ref22_Q_find_l1 _ _ _ _ _ _
  unfold ref22_Q_find_l1
  refine ⟨fun c => ?_, fun c => ?_⟩
  · have hil : i < L.length := by omega
    rw [gi_nat hil]
    refine ⟨by (first | omega | (unfold I64; omega) | (simp only [List.length_append, List.length_cons, List.length_nil, List.length_take, List.length_drop] at *; omega) | (unfold I64; simp only [List.length_append, List.length_cons, List.length_nil, List.length_take, List.length_drop] at *; omega)), fun d => h1 i hil d hI, fun d => ⟨by (first | omega | (unfold I64; omega) | (simp only [List.length_append, List.length_cons, List.length_nil, List.length_take, List.length_drop] at *; omega) | (unfold I64; simp only [List.length_append, List.length_cons, List.length_nil, List.length_take, List.length_drop] at *; omega)), hK (i + 1) (by omega) (by omega) fun x hx => ?_⟩⟩
    rw [List.take_succ_eq_append_getElem hil] at hx
    rcases List.mem_append.1 hx with hx | hx
    · exact hI x hx
    · rw [List.mem_singleton] at hx; subst hx; exact d
  · have hil : i = L.length := by omega
    subst hil
    rw [List.take_length] at hI
    exact h0 hI
theorem span_at {α : Type} (p : α → Bool) (l : List α) {i : Nat} (hi : i ≤ l.length) (h1 : ∀ x ∈ l.take i, p x = true) (h2 : ∀ h : i < l.length, p l[i] = false) : l.takeWhile p = l.take i ∧ l.dropWhile p = l.drop i := by
  have e : l = l.take i ++ l.drop i := (List.take_append_drop i l).symm
  have hd : (l.drop i).takeWhile p = [] ∧ (l.drop i).dropWhile p = l.drop i := by
    by_cases hil : i < l.length
    · rw [List.drop_eq_getElem_cons hil, List.takeWhile_cons, List.dropWhile_cons, h2 hil]; exact ⟨rfl, rfl⟩
    · rw [List.drop_of_length_le (by omega)]; exact ⟨rfl, rfl⟩
  constructor
  · conv => lhs; rw [e]
    rw [List.takeWhile_append_of_pos h1, hd.1, List.append_nil]
  · conv => lhs; rw [e]
    rw [List.dropWhile_append_of_pos h1, hd.2]
theorem setR_ok {l : SM} {a : Ad} {n : Int} {Q : SM → Prop} (hl : l.length ≤ 64) (hn : (l.map Prod.fst).Nodup) (h : Q (setS n l a)) : ref22_set_W l a n Q := by
  refine loop_up1 l.length (fun i => ∀ x ∈ l.take i, x.1 ≠ a) (by simp) ?_
  intro K i hi hI hK
  show ref22_set_l1 _ _ _ _ _ _
  unfold ref22_set_l1
  refine ⟨fun c => ?_, fun c => ?_⟩
  · have hil : i < l.length := by omega
    rw [gi_nat hil]
    refine ⟨by (first | omega | (unfold I64; omega) | (simp only [List.length_append, List.length_cons, List.length_nil, List.length_take, List.length_drop] at *; omega) | (unfold I64; simp only [List.length_append, List.length_cons, List.length_nil, List.length_take, List.length_drop] at *; omega)), fun d => ?_, fun d => ⟨by (first | omega | (unfold I64; omega) | (simp only [List.length_append, List.length_cons, List.length_nil, List.length_take, List.length_drop] at *; omega) | (unfold I64; simp only [List.length_append, List.length_cons, List.length_nil, List.length_take, List.length_drop] at *; omega)), hK (i + 1) (by omega) (by omega) fun x hx => ?_⟩⟩
    · have hin : a ∈ l.map Prod.fst := List.mem_map.2 ⟨l[i], List.getElem_mem hil, d⟩
      have e : setS n l a = l.set i (l[i].1, n) := by
        unfold setS
        rw [if_pos hin]
        have : mset l a n = l.set i (a, n) := mset_at (by
          rw [List.findIdx?_eq_some_iff_getElem]
          refine ⟨hil, by simp [d], fun k hk => ?_⟩
          simp only [decide_eq_true_eq]
          intro e
          exact hI l[k] (by rw [List.mem_take_iff_getElem]; exact ⟨k, by omega, rfl⟩) e.symm)
        rw [← mset_eq_map hn hin, this, d]
      rw [e] at h
      rw [Int.toNat_natCast]; exact h
    · rw [List.take_succ_eq_append_getElem hil] at hx
      rcases List.mem_append.1 hx with hx | hx
      · exact hI x hx
      · rw [List.mem_singleton] at hx; subst hx; exact d
  · have hil : i = l.length := by omega
    subst hil
    rw [List.take_length] at hI
    have hno : a ∉ l.map Prod.fst := fun q => by obtain ⟨x, hx, e⟩ := List.mem_map.1 q; exact hI x hx e
    unfold setS at h
    rw [if_neg hno] at h
    refine ⟨fun d => ?_, fun d => ?_⟩
    · rw [if_pos (by omega)] at h; exact h
    · rw [if_neg (by omega)] at h
      refine loop_up1 l.length (fun i => ∀ x ∈ l.take i, aCmp x.1 a < 0) (by simp) ?_
      intro K2 j hj hJ hK2
      have fin : ∀ (_ : ∀ q : j < l.length, ¬ aCmp l[j].1 a < 0), ref22_set_j1 l a n Q (j : Int) := by
        intro h2
        have hs := span_at (fun p : Ad × Int => decide (aCmp p.1 a < 0)) l hj (fun x hx => decide_eq_true (hJ x hx)) (fun q => decide_eq_false (h2 q))
        rw [hs.1, hs.2] at h
        unfold ref22_set_j1
        refine ⟨by (first | omega | (unfold I64; omega) | (simp only [List.length_append, List.length_cons, List.length_nil, List.length_take, List.length_drop] at *; omega) | (unfold I64; simp only [List.length_append, List.length_cons, List.length_nil, List.length_take, List.length_drop] at *; omega)), by (first | omega | (unfold I64; omega) | (simp only [List.length_append, List.length_cons, List.length_nil, List.length_take, List.length_drop] at *; omega) | (unfold I64; simp only [List.length_append, List.length_cons, List.length_nil, List.length_take, List.length_drop] at *; omega)), by rw [cut0n]; (first | omega | (unfold I64; omega) | (simp only [List.length_append, List.length_cons, List.length_nil, List.length_take, List.length_drop] at *; omega) | (unfold I64; simp only [List.length_append, List.length_cons, List.length_nil, List.length_take, List.length_drop] at *; omega)), by rw [cut0n]; (first | omega | (unfold I64; omega) | (simp only [List.length_append, List.length_cons, List.length_nil, List.length_take, List.length_drop] at *; omega) | (unfold I64; simp only [List.length_append, List.length_cons, List.length_nil, List.length_take, List.length_drop] at *; omega)), by (first | omega | (unfold I64; omega) | (simp only [List.length_append, List.length_cons, List.length_nil, List.length_take, List.length_drop] at *; omega) | (unfold I64; simp only [List.length_append, List.length_cons, List.length_nil, List.length_take, List.length_drop] at *; omega)), by rw [cut0n, cutn]; (first | omega | (unfold I64; omega) | (simp only [List.length_append, List.length_cons, List.length_nil, List.length_take, List.length_drop] at *; omega) | (unfold I64; simp only [List.length_append, List.length_cons, List.length_nil, List.length_take, List.length_drop] at *; omega)), ?_⟩
        rw [cut0n, cutn]
        simpa using h
      show ref22_set_l2 _ _ _ _ _ _
      unfold ref22_set_l2
      refine ⟨fun c2 => ?_, fun c2 => fin fun q => absurd q (by omega)⟩
      have hjl : j < l.length := by omega
      rw [gi_nat hjl]
      refine ⟨by (first | omega | (unfold I64; omega) | (simp only [List.length_append, List.length_cons, List.length_nil, List.length_take, List.length_drop] at *; omega) | (unfold I64; simp only [List.length_append, List.length_cons, List.length_nil, List.length_take, List.length_drop] at *; omega)), cmpR_ok ⟨fun d2 => ⟨by (first | omega | (unfold I64; omega) | (simp only [List.length_append, List.length_cons, List.length_nil, List.length_take, List.length_drop] at *; omega) | (unfold I64; simp only [List.length_append, List.length_cons, List.length_nil, List.length_take, List.length_drop] at *; omega)), hK2 (j + 1) (by omega) (by omega) fun x hx => ?_⟩, fun d2 => fin fun _ => d2⟩⟩
      rw [List.take_succ_eq_append_getElem hjl] at hx
      rcases List.mem_append.1 hx with hx | hx
      · exact hJ x hx
      · rw [List.mem_singleton] at hx; subst hx; exact d2
end Go.Wk
