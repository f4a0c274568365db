/- Plain words: the law RoutePlays. -/
import Derived.Test.YtolmcabcmphkpaaCloI
set_option linter.unusedSimpArgs false
set_option linter.unusedVariables false
set_option linter.unusedSectionVars false
namespace Go.Wk
open Go.HL
variable [DM]
abbrev On := T_acequiaref23_One
theorem gi_set {α : Type} [Inhabited α] {l : List α} {p k : Int} {x : α} (hp : 0 ≤ p ∧ p < (l.length : Int)) (hk : 0 ≤ k) : gi (l.set p.toNat x) k = if k = p then x else gi l k := by
  unfold gi
  rw [List.getD_eq_getElem?_getD, List.getD_eq_getElem?_getD, List.getElem?_set]
  by_cases e : k = p
  · subst e; rw [if_pos rfl, if_pos (by omega), if_pos rfl]; rfl
  · rw [if_neg (by omega), if_neg e]
structure Rr (now : Int) (m : CM) (fx : List Bool) (L : List On) : Prop where
  n0 : 0 ≤ now
  n1 : now ≤ 1000000000000
  fl : fx.length = L.length
  le : L.length ≤ 32
  nd : (m.map Prod.fst).Nodup
  ml : m.length ≤ 1000
  fx : ∀ k : Int, 0 ≤ k → k < (L.length : Int) → gi fx k = (gi L k).2
  mem : ∀ k t, mget m k = some t → 0 ≤ k ∧ k < (L.length : Int) ∧ (gi L k).1 = t
  non : ∀ k : Int, 0 ≤ k → k < (L.length : Int) → mget m k = none → (gi L k).1 ≤ now
  bd : ∀ k : Int, 0 ≤ k → k < (L.length : Int) → 0 ≤ (gi L k).1 ∧ (gi L k).1 ≤ 1000010000000
/-- What ran out is gone. -/
def Pp (now : Int) (m : CM) : Prop := ∀ k t, mget m k = some t → now < t
theorem left_get {m : CM} (hn : (m.map Prod.fst).Nodup) {T k t : Int} : mget (leftM m T) k = some t ↔ mget m k = some t ∧ T < t := by
  have hn' : ((leftM m T).map Prod.fst).Nodup := hn.sublist (List.Sublist.map _ List.filter_sublist)
  rw [← mem_iff_mget hn', ← mem_iff_mget hn]
  unfold leftM; rw [List.mem_filter]; simp
theorem Rr.settle {x : Int} {m : CM} {fx : List Bool} {L : List On} (R : Rr x m fx L) {T : Int} (h1 : x ≤ T) (h2 : T ≤ 1000000000000) : Rr T (leftM m T) fx L ∧ Pp T (leftM m T) := by
  refine ⟨⟨by have := R.n0; omega, h2, R.fl, R.le, R.nd.sublist (List.Sublist.map _ List.filter_sublist), Nat.le_trans (List.length_filter_le _ _) R.ml, R.fx, fun k t h => R.mem k t ((left_get R.nd).1 h).1, fun k k0 k1 h => ?_, R.bd⟩, fun k t h => ((left_get R.nd).1 h).2⟩
  rcases hm : mget m k with _ | t
  · have := R.non k k0 k1 hm; omega
  · have e := (R.mem k t hm).2.2
    rcases Int.lt_or_le T t with c | c
    · rw [(left_get R.nd).2 ⟨hm, c⟩] at h; cases h
    · omega
theorem left_same {m : CM} {T : Int} (hn : (m.map Prod.fst).Nodup) (h : Pp T m) : leftM m T = m := by
  unfold leftM
  refine List.filter_eq_self.2 fun p hp => ?_
  have := h p.1 p.2 ((mem_iff_mget hn p.1 p.2).1 hp)
  simpa using this
theorem Rr.put {x : Int} {m : CM} {fx : List Bool} {L L' : List On} (R : Rr x m fx L) (hm : m.length ≤ 999) {p v : Int} (hp : 0 ≤ p ∧ p < (L.length : Int)) (hv : 0 ≤ v ∧ v ≤ 1000010000000) (hl : L'.length = L.length) (h1 : (gi L' p).1 = v) (h2 : ∀ k : Int, 0 ≤ k → k < (L.length : Int) → (gi L' k).2 = (gi L k).2 ∧ (k ≠ p → (gi L' k).1 = (gi L k).1)) : Rr x (mset m p v) fx L' := by
  refine ⟨R.n0, R.n1, by rw [R.fl, hl], by rw [hl]; exact R.le, nodup_mset R.nd p v, ?_, fun k k0 k1 => ?_, fun k t h => ?_, fun k k0 k1 h => ?_, fun k k0 k1 => ?_⟩
  · have := congrArg List.length (keys_mset m p v)
    rw [List.length_map] at this
    split at this
    · rw [List.length_map] at this; omega
    · rw [List.length_append, List.length_map] at this; simp only [List.length_cons, List.length_nil] at this; omega
  · rw [hl] at k1; rw [R.fx k k0 k1, (h2 k k0 k1).1]
  · rw [mget_mset] at h
    by_cases e : k = p
    · rw [if_pos e] at h; injection h with h; subst e; rw [hl]; exact ⟨hp.1, hp.2, by rw [h1, h]⟩
    · rw [if_neg e] at h
      obtain ⟨a, b, c⟩ := R.mem k t h
      rw [hl]; exact ⟨a, b, by rw [(h2 k a b).2 e, c]⟩
  · rw [hl] at k1
    rw [mget_mset] at h
    by_cases e : k = p
    · rw [if_pos e] at h; cases h
    · rw [if_neg e] at h; rw [(h2 k k0 k1).2 e]; exact R.non k k0 k1 h
  · rw [hl] at k1
    by_cases e : k = p
    · subst e; rw [h1]; exact hv
    · rw [(h2 k k0 k1).2 e]; exact R.bd k k0 k1
theorem inP_ok {x : Int} {m : CM} {fx : List Bool} {p : Int} {Q : Bool → Prop} (h : Q (decide (0 ≤ p ∧ p < (fx.length : Int)))) : route_Routes_in_W x m fx p Q := by
  refine ⟨fun c => ?_, fun c => ?_⟩
  · have : decide (p < (fx.length : Int)) = decide (0 ≤ p ∧ p < (fx.length : Int)) := by rw [Bool.eq_iff_iff]; simp [c]
    rw [this]; exact h
  · rw [decide_eq_false (fun q => c q.1)] at h; exact h
theorem inR_ok {x : Int} {L : List On} {p : Int} {Q : Bool → Prop} (h : Q (decide (0 ≤ p ∧ p < (L.length : Int)))) : ref23_R_in_W x L p Q := by
  refine ⟨fun c => ?_, fun c => ?_⟩
  · have : decide (p < (L.length : Int)) = decide (0 ≤ p ∧ p < (L.length : Int)) := by rw [Bool.eq_iff_iff]; simp [c]
    rw [this]; exact h
  · rw [decide_eq_false (fun q => c q.1)] at h; exact h
theorem settleP_ok {x : Int} {m : CM} {fx : List Bool} {L : List On} (R : Rr x m fx L) {now : Int} {Q : Int → Int → CM → List Bool → Prop} (h : Q (max x (min now 1000000000000)) (max x (min now 1000000000000)) (leftM m (max x (min now 1000000000000))) fx) : route_Routes_settle_W x m fx now Q :=
  pop_ok R.nd (by have := R.ml; omega) fun _ _ _ => h
theorem settleR_ok {x : Int} {L : List On} {now : Int} {Q : Int → List On → Prop} (hx : 0 ≤ x) (h : Q (max x (min now 1000000000000)) L) : ref23_R_Settle_W x L now Q := by
  have key : ∀ r : Int, max x r = max x (min now 1000000000000) → (x < r → Q r L) ∧ (¬ x < r → Q x L) := by
    intro r e
    rw [← e] at h
    exact ⟨fun c => by rw [show max x r = r by omega] at h; exact h, fun c => by rw [show max x r = x by omega] at h; exact h⟩
  exact ⟨fun c => key 0 (by omega), fun c => ⟨fun d => key 1000000000000 (by omega), fun d => key now (by omega)⟩⟩
theorem same23_ok {a : List Int} {Q : Bool → Prop} (hl : a.length ≤ 1000) (h : Q true) : ref23_Same_W a a Q := by
  refine ⟨fun c => absurd rfl c, fun _ => ?_⟩
  refine loop_up1 a.length (fun _ => True) trivial fun K i hi _ hK => ?_
  show ref23_Same_l1 _ _ _ _ _
  unfold ref23_Same_l1
  exact ⟨fun c => ⟨by (first | omega | (unfold I64; omega) | (simp only [List.length_append, List.length_cons, List.length_nil, List.length_take, List.length_drop] at *; omega) | (unfold I64; simp only [List.length_append, List.length_cons, List.length_nil, List.length_take, List.length_drop] at *; omega)), by (first | omega | (unfold I64; omega) | (simp only [List.length_append, List.length_cons, List.length_nil, List.length_take, List.length_drop] at *; omega) | (unfold I64; simp only [List.length_append, List.length_cons, List.length_nil, List.length_take, List.length_drop] at *; omega)), fun q => absurd rfl q, fun _ => ⟨by (first | omega | (unfold I64; omega) | (simp only [List.length_append, List.length_cons, List.length_nil, List.length_take, List.length_drop] at *; omega) | (unfold I64; simp only [List.length_append, List.length_cons, List.length_nil, List.length_take, List.length_drop] at *; omega)), hK (i + 1) (by omega) (by omega) trivial⟩⟩, fun _ => h⟩
theorem good_ok {t : T_api_Tune} {Q : Bool → Prop} (h0 : Q false) (h1 : 1 ≤ t.1 ∧ t.1 ≤ 7 → 1 ≤ t.2.1 ∧ t.2.1 ≤ 317440 → 0 < t.2.2.1 ∧ t.2.2.1 < 31745 → Q true) : ref14_Good_W t Q := by
  have j : ∀ b : Bool, (b = false → 1 ≤ t.1 ∧ t.1 ≤ 7 ∧ 1 ≤ t.2.1 ∧ t.2.1 ≤ 317440) → ref14_Good_j1 t Q b := by
    intro b hb
    refine ⟨fun _ => h0, fun c => ⟨fun d1 => ⟨fun d2 => ⟨fun d3 => ⟨fun d4 => ?_, fun _ => h0⟩, fun _ => h0⟩, fun _ => h0⟩, fun _ => h0⟩⟩
    obtain ⟨a1, a2, a3, a4⟩ := hb c
    by_cases e : t.2.2.1 ≤ t.2.1
    · rw [decide_eq_true e]; exact h1 ⟨a1, a2⟩ ⟨a3, a4⟩ ⟨d1, d2⟩
    · rw [decide_eq_false e]; exact h0
  exact ⟨fun c => j _ fun q => (by cases q), fun c1 => ⟨fun c => j _ fun q => (by cases q), fun c2 => ⟨fun c => j _ fun q => (by cases q), fun c3 => ⟨fun c => j _ fun q => (by cases q), fun c4 => ⟨fun c => j _ fun q => (by cases q), fun c5 => j _ fun q => ⟨by omega, by omega, by omega, by have := of_decide_eq_false q; omega⟩⟩⟩⟩⟩⟩
theorem mulb {a b : Int} (ha : 1 ≤ a ∧ a ≤ 7) (hb : 1 ≤ b ∧ b ≤ 317440) : 1 ≤ a * b ∧ a * b ≤ 2222080 := by
  have h1 : a * b ≤ 7 * b := Int.mul_le_mul_of_nonneg_right ha.2 (by omega)
  have h2 : 1 * b ≤ a * b := Int.mul_le_mul_of_nonneg_right ha.1 (by omega)
  omega
def otherT (t : T_api_Tune) : Int := (t.1 * t.2.1) + (t.2.2.1.tdiv 2)
theorem other_b {t : T_api_Tune} (h1 : 1 ≤ t.1 ∧ t.1 ≤ 7) (h2 : 1 ≤ t.2.1 ∧ t.2.1 ≤ 317440) (h3 : 0 < t.2.2.1 ∧ t.2.2.1 < 31745) : 1 ≤ t.1 * t.2.1 ∧ t.1 * t.2.1 ≤ 2222080 ∧ 0 ≤ t.2.2.1.tdiv 2 ∧ t.2.2.1.tdiv 2 ≤ 20000 := by
  have := mulb h1 h2
  rw [Int.tdiv_eq_ediv_of_nonneg (by omega)]
  omega
/-- The two of them behind a call of Hear. -/
theorem hear_ok {x : Int} {m : CM} {fx : List Bool} {L : List On} (R : Rr x m fx L) (hm : m.length ≤ 999) {now : Int} {t : T_api_Tune} {p : Int} (h1 : 1 ≤ t.1 ∧ t.1 ≤ 7) (h2 : 1 ≤ t.2.1 ∧ t.2.1 ≤ 317440) (h3 : 0 < t.2.2.1 ∧ t.2.2.1 < 31745) {Q : Bool → Int → CM → List Bool → Bool → Int → List On → Prop}
    (h : ∀ (b : Bool) (x' : Int) (m' : CM) (L' : List On), Rr x' m' fx L' → m'.length ≤ m.length + 1 → L'.length = L.length → Q b x' m' fx b x' L') :
    route_Routes_Hear_W x m fx now t p (fun a b c d => ref23_R_Hear_W x L now t p (fun e f g => Q a b c d e f g)) := by
  obtain ⟨o1, o2, o3, o4⟩ := other_b h1 h2 h3
  refine inP_ok ⟨fun c => ?_, fun c => ?_⟩
  · have e : decide (0 ≤ p ∧ p < (fx.length : Int)) = false := nd_t c
    refine inR_ok ⟨fun _ => h false x m L R (by omega) rfl, fun d => ?_⟩
    rw [← R.fl, e] at d; cases d
  · have e : decide (0 ≤ p ∧ p < (fx.length : Int)) = true := by simpa using c
    have hp := of_decide_eq_true e
    rw [R.fl] at hp
    refine settleP_ok R ?_
    obtain ⟨T, hT⟩ : ∃ T, T = max x (min now 1000000000000) := ⟨_, rfl⟩
    rw [← hT]
    have x0 := R.n0
    have x1 := R.n1
    obtain ⟨R', P⟩ := R.settle (T := T) (by omega) (by omega)
    have l9 : (leftM m T).length ≤ m.length := List.length_filter_le _ _
    refine ⟨by unfold I64; omega, by unfold I64; omega, by unfold I64; omega, by unfold I64; omega, ?_⟩
    show ref23_R_Hear_W _ _ _ _ _ _
    refine inR_ok ⟨fun d => ?_, fun _ => settleR_ok R.n0 ?_⟩
    · rw [← R.fl, e] at d; cases d
    rw [← hT]
    have hb := R.bd p hp.1 hp.2
    have hmax : max (mget0 (leftM m T) p) (T + otherT t) = max (gi L p).1 (T + otherT t) := by
      rcases hg : mget (leftM m T) p with _ | u
      · have := R'.non p hp.1 hp.2 hg
        have e0 : mget0 (leftM m T) p = 0 := by unfold mget0; rw [hg]; rfl
        rw [e0]; unfold otherT; omega
      · have e0 : mget0 (leftM m T) p = u := by unfold mget0; rw [hg]; rfl
        rw [e0, (R'.mem p u hg).2.2]
    have hmax' : max (mget0 (leftM m T) p) (T + ((t.1 * t.2.1) + (t.2.2.1.tdiv 2))) = max (gi L p).1 (T + ((t.1 * t.2.1) + (t.2.2.1.tdiv 2))) := hmax
    have hlen : (mset (leftM m T) p (max (gi L p).1 (T + ((t.1 * t.2.1) + (t.2.2.1.tdiv 2))))).length ≤ m.length + 1 := by
      have := congrArg List.length (keys_mset (leftM m T) p (max (gi L p).1 (T + ((t.1 * t.2.1) + (t.2.2.1.tdiv 2)))))
      rw [List.length_map] at this
      split at this
      · rw [List.length_map] at this; omega
      · rw [List.length_append, List.length_map] at this; simp only [List.length_cons, List.length_nil] at this; omega
    refine ⟨by unfold I64; omega, by unfold I64; omega, by unfold I64; omega, by unfold I64; omega, by omega, fun c2 => ?_, fun c2 => ?_⟩
    · rw [hmax']
      refine h true T _ _ (R'.put (by omega) hp (by omega) (List.length_set ..) ?_ fun k k0 k1 => ?_) hlen (List.length_set ..)
      · rw [gi_set hp hp.1, if_pos rfl]; show T + _ = max _ _; omega
      · rw [gi_set hp k0]
        by_cases ek : k = p
        · subst ek; rw [if_pos rfl]; exact ⟨rfl, fun q => absurd rfl q⟩
        · rw [if_neg ek]; exact ⟨rfl, fun _ => rfl⟩
    · rw [hmax']
      refine h true T _ _ (R'.put (by omega) hp (by omega) rfl ?_ fun k k0 k1 => ⟨rfl, fun _ => rfl⟩) hlen rfl
      show (gi L p).1 = max _ _; omega
theorem fix_ok {x : Int} {m : CM} {fx : List Bool} {L : List On} (R : Rr x m fx L) {p : Int} {is : Bool} {Q : Bool → Int → CM → List Bool → Bool → Int → List On → Prop}
    (h : ∀ (b : Bool) (fx' : List Bool) (L' : List On), Rr x m fx' L' → L'.length = L.length → Q b x m fx' b x L') :
    route_Routes_Fix_W x m fx p is (fun a b c d => ref23_R_Fix_W x L p is (fun e f g => Q a b c d e f g)) := by
  refine inP_ok ⟨fun c => ?_, fun c => ?_⟩
  · have e : decide (0 ≤ p ∧ p < (fx.length : Int)) = false := nd_t c
    refine inR_ok ⟨fun _ => h false fx L R rfl, fun d => ?_⟩
    rw [← R.fl, e] at d; cases d
  · have e : decide (0 ≤ p ∧ p < (fx.length : Int)) = true := by simpa using c
    have hp := of_decide_eq_true e
    refine ⟨by omega, inR_ok ⟨fun d => ?_, fun _ => ?_⟩⟩
    · rw [← R.fl, e] at d; cases d
    have hp' := hp
    rw [R.fl] at hp'
    refine ⟨by omega, ?_⟩
    rw [R.fx p hp'.1 hp'.2]
    refine h _ _ _ ⟨R.n0, R.n1, by rw [List.length_set, List.length_set, R.fl], by rw [List.length_set]; exact R.le, R.nd, R.ml, fun k k0 k1 => ?_, fun k t hk => ?_, fun k k0 k1 hk => ?_, fun k k0 k1 => ?_⟩ (List.length_set ..)
    · rw [List.length_set] at k1
      rw [gi_set hp k0, gi_set hp' k0]
      by_cases ek : k = p
      · rw [if_pos ek, if_pos ek]
      · rw [if_neg ek, if_neg ek]; exact R.fx k k0 k1
    · obtain ⟨a, b, c3⟩ := R.mem k t hk
      rw [List.length_set]
      refine ⟨a, b, ?_⟩
      rw [gi_set hp' a]
      by_cases ek : k = p
      · subst ek; rw [if_pos rfl]; exact c3
      · rw [if_neg ek]; exact c3
    · rw [List.length_set] at k1
      rw [gi_set hp' k0]
      have := R.non k k0 k1 hk
      by_cases ek : k = p
      · subst ek; rw [if_pos rfl]; exact this
      · rw [if_neg ek]; exact this
    · rw [List.length_set] at k1
      rw [gi_set hp' k0]
      have := R.bd k k0 k1
      by_cases ek : k = p
      · subst ek; rw [if_pos rfl]; exact this
      · rw [if_neg ek]; exact this
/-- What is left at a port. -/
def leftL (T : Int) (L : List On) (p : Int) : Int := if 0 ≤ p ∧ p < (L.length : Int) then (if (gi L p).1 < T then 0 else (gi L p).1 - T) else 0
theorem leftR_ok {x : Int} {m : CM} {fx : List Bool} {L : List On} (R : Rr x m fx L) {p : Int} {Q : Int → Prop} (h : Q (leftL x L p)) : ref23_R_Left_W x L p Q := by
  unfold leftL at h
  refine inR_ok ⟨fun c => ⟨fun _ => ?_, fun q => (by cases q)⟩, fun c => ?_⟩
  · have e : ¬ (0 ≤ p ∧ p < (L.length : Int)) := nd_true c
    rw [if_neg e] at h; exact h
  · have hp : 0 ≤ p ∧ p < (L.length : Int) := of_decide_eq_true (by simpa using c)
    rw [if_pos hp] at h
    have := R.bd p hp.1 hp.2
    have a := R.n0
    have b := R.n1
    refine ⟨by omega, fun d => ?_, fun d => ⟨by omega, by unfold I64; omega, ?_⟩⟩
    · rw [if_pos (of_decide_eq_true d)] at h; exact h
    · rw [if_neg (of_decide_eq_false d)] at h; exact h
/-- Is a router there? -/
def isL (T : Int) (L : List On) (p : Int) : Bool := decide (0 ≤ p ∧ p < (L.length : Int)) && ((gi L p).2 || decide (0 < leftL T L p))
theorem isR_ok {x : Int} {m : CM} {fx : List Bool} {L : List On} (R : Rr x m fx L) {p : Int} {Q : Bool → Prop} (h : Q (isL x L p)) : ref23_R_Is_W x L p Q := by
  unfold isL at h
  refine inR_ok ⟨fun c => ⟨by have := of_decide_eq_true c; omega, fun d => ?_, fun d => leftR_ok R ?_⟩, fun c => ?_⟩
  · rw [c, d] at h; exact h
  · rw [c, d] at h; exact h
  · rw [c] at h; exact h
theorem here_iff {x : Int} {m : CM} {fx : List Bool} {L : List On} (R : Rr x m fx L) (P : Pp x m) {p : Int} (hp : 0 ≤ p ∧ p < (L.length : Int)) : (mget m p).isSome = decide (0 < leftL x L p) := by
  unfold leftL
  rw [if_pos hp]
  rcases hg : mget m p with _ | t
  · have := R.non p hp.1 hp.2 hg
    have e : ¬ 0 < (if (gi L p).1 < x then 0 else (gi L p).1 - x) := by split <;> omega
    rw [decide_eq_false e]; rfl
  · have e1 := (R.mem p t hg).2.2
    have e2 := P p t hg
    have e : 0 < (if (gi L p).1 < x then 0 else (gi L p).1 - x) := by rw [if_neg (by omega)]; omega
    rw [decide_eq_true e]; rfl
theorem isP_ok {x : Int} {m : CM} {fx : List Bool} {L : List On} (R : Rr x m fx L) (P : Pp x m) {p : Int} (hp : 0 ≤ p ∧ p < (L.length : Int)) {Q : Bool → Prop} (h : Q (isL x L p)) : route_Routes_is_W x m fx p Q := by
  have e := here_iff R P hp
  unfold isL at h
  rw [decide_eq_true hp, Bool.true_and] at h
  refine ⟨fun c => ?_, fun c => ⟨by have := R.fl; omega, ?_⟩⟩
  · rw [← e, c, Bool.or_true] at h; exact h
  · rw [← e, c, Bool.or_false] at h; rw [R.fx p hp.1 hp.2]; exact h
theorem settle_same {x : Int} {m : CM} {fx : List Bool} {L : List On} (R : Rr x m fx L) (P : Pp x m) {now : Int} (hx : max x (min now 1000000000000) = x) {Q : Int → Int → CM → List Bool → Prop} (h : Q x x m fx) : route_Routes_settle_W x m fx now Q := by
  refine settleP_ok R ?_
  rw [hx, left_same R.nd P]; exact h
theorem IsP_ok {x : Int} {m : CM} {fx : List Bool} {L : List On} (R : Rr x m fx L) (P : Pp x m) {now : Int} (hx : max x (min now 1000000000000) = x) {p : Int} {Q : Bool → Int → CM → List Bool → Prop} (h : Q (isL x L p) x m fx) : route_Routes_Is_W x m fx now p Q := by
  refine inP_ok ⟨fun c => ?_, fun c => ?_⟩
  · have e : decide (0 ≤ p ∧ p < (L.length : Int)) = false := by rw [← R.fl]; exact nd_t c
    unfold isL at h; rw [e] at h; exact h
  · have hp : 0 ≤ p ∧ p < (L.length : Int) := of_decide_eq_true (by rw [← R.fl]; simpa using c)
    exact settle_same R P hx (isP_ok R P hp h)
theorem LeftP_ok {x : Int} {m : CM} {fx : List Bool} {L : List On} (R : Rr x m fx L) (P : Pp x m) {now : Int} (hx : max x (min now 1000000000000) = x) {p : Int} {Q : Int → Int → CM → List Bool → Prop} (h : Q (leftL x L p) x m fx) : route_Routes_Left_W x m fx now p Q := by
  refine inP_ok ⟨fun c => ?_, fun c => settle_same R P hx ?_⟩
  · have e : ¬ (0 ≤ p ∧ p < (L.length : Int)) := by rw [← R.fl]; exact nd_true c
    unfold leftL at h; rw [if_neg e] at h; exact h
  · have hp : 0 ≤ p ∧ p < (L.length : Int) := of_decide_eq_true (by rw [← R.fl]; simpa using c)
    have hb := R.bd p hp.1 hp.2
    have a := R.n0
    have b := R.n1
    unfold leftL at h; rw [if_pos hp] at h
    rcases hg : mget m p with _ | t
    · have := R.non p hp.1 hp.2 hg
      have e : (if (gi L p).1 < x then 0 else (gi L p).1 - x) = 0 := by split <;> omega
      rw [e] at h
      show ((!(mget m p).isSome) = true → _) ∧ ((!(mget m p).isSome) = false → _)
      rw [hg]; exact ⟨fun _ => h, fun q => (by cases q)⟩
    · have e1 := (R.mem p t hg).2.2
      have e2 := P p t hg
      rw [if_neg (by omega), e1] at h
      have e0 : mget0 m p = t := by unfold mget0; rw [hg]; rfl
      show ((!(mget m p).isSome) = true → _) ∧ ((!(mget m p).isSome) = false → (I64 (mget0 m p - x)) ∧ Q (mget0 m p - x) x m fx)
      rw [hg, e0]; exact ⟨fun q => (by cases q), fun _ => ⟨by unfold I64; omega, h⟩⟩
def portsL (T : Int) (L : List On) (n : Nat) : List Int := ((List.range n).filter fun (j : Nat) => isL T L (j : Int)).map fun (j : Nat) => (j : Int)
theorem portsL_len (T : Int) (L : List On) (n : Nat) : (portsL T L n).length ≤ n := by unfold portsL; rw [List.length_map]; exact Nat.le_trans (List.length_filter_le _ _) (by simp)
theorem portsL_succ (T : Int) (L : List On) (n : Nat) : portsL T L (n + 1) = portsL T L n ++ (if isL T L (n : Int) then [(n : Int)] else []) := by
  unfold portsL; rw [List.range_succ, List.filter_append, List.map_append]
  congr 1
  cases c : isL T L (n : Int) <;> simp [c]
theorem PortsP_ok {x : Int} {m : CM} {fx : List Bool} {L : List On} (R : Rr x m fx L) (P : Pp x m) {now : Int} (hx : max x (min now 1000000000000) = x) {Q : List Int → Int → CM → List Bool → Prop} (h : Q (portsL x L L.length) x m fx) : route_Routes_Ports_W x m fx now Q := by
  refine settle_same R P hx ?_
  have hl := R.le
  refine loop_up L.length (fun i o => o = portsL x L i) rfl fun K i o hi ho hK => ?_
  have lo : o.length ≤ i := by rw [ho]; exact portsL_len _ _ _
  show route_Routes_Ports_l1 Q x m fx _ o (i : Int)
  unfold route_Routes_Ports_l1
  rw [R.fl]
  refine ⟨fun c => isP_ok R P ⟨by omega, c⟩ ⟨fun d => ⟨by simp only [List.length_cons, List.length_nil]; omega, by (first | omega | (unfold I64; omega) | (simp only [List.length_append, List.length_cons, List.length_nil, List.length_take, List.length_drop] at *; omega) | (unfold I64; simp only [List.length_append, List.length_cons, List.length_nil, List.length_take, List.length_drop] at *; omega)), hK (i + 1) _ (by omega) (by omega) ?_⟩, fun d => ⟨by (first | omega | (unfold I64; omega) | (simp only [List.length_append, List.length_cons, List.length_nil, List.length_take, List.length_drop] at *; omega) | (unfold I64; simp only [List.length_append, List.length_cons, List.length_nil, List.length_take, List.length_drop] at *; omega)), hK (i + 1) _ (by omega) (by omega) ?_⟩⟩, fun c => ?_⟩
  · rw [portsL_succ, ← ho, d]; rfl
  · rw [portsL_succ, ← ho, d]; simp
  · have : i = L.length := by omega
    rw [ho, this]; exact h
theorem PortsR_ok {x : Int} {m : CM} {fx : List Bool} {L : List On} (R : Rr x m fx L) {Q : List Int → Prop} (h : Q (portsL x L L.length)) : ref23_R_Ports_W x L Q := by
  have hl := R.le
  refine loop_up L.length (fun i o => o = portsL x L i) rfl fun K i o hi ho hK => ?_
  have lo : o.length ≤ i := by rw [ho]; exact portsL_len _ _ _
  show ref23_R_Ports_l1 x L Q _ o (i : Int)
  unfold ref23_R_Ports_l1
  refine ⟨fun c => isR_ok R ⟨fun d => ⟨by simp only [List.length_cons, List.length_nil]; omega, by (first | omega | (unfold I64; omega) | (simp only [List.length_append, List.length_cons, List.length_nil, List.length_take, List.length_drop] at *; omega) | (unfold I64; simp only [List.length_append, List.length_cons, List.length_nil, List.length_take, List.length_drop] at *; omega)), hK (i + 1) _ (by omega) (by omega) ?_⟩, fun d => ⟨by (first | omega | (unfold I64; omega) | (simp only [List.length_append, List.length_cons, List.length_nil, List.length_take, List.length_drop] at *; omega) | (unfold I64; simp only [List.length_append, List.length_cons, List.length_nil, List.length_take, List.length_drop] at *; omega)), hK (i + 1) _ (by omega) (by omega) ?_⟩⟩, fun c => ?_⟩
  · rw [portsL_succ, ← ho, d]; rfl
  · rw [portsL_succ, ← ho, d]; simp
  · have : i = L.length := by omega
    rw [ho, this]; exact h
theorem nextR_ok {x : Int} {m : CM} {fx : List Bool} {L : List On} (R : Rr x m fx L) {Q : Int → Bool → Prop} (h0 : (∀ i : Nat, i < L.length → ¬ x < (gi L (i : Int)).1) → Q 0 false) (h1 : ∀ n : Int, (∃ i : Nat, i < L.length ∧ (gi L (i : Int)).1 = n ∧ x < n) → (∀ i : Nat, i < L.length → x < (gi L (i : Int)).1 → n ≤ (gi L (i : Int)).1) → Q n true) : ref23_R_Next_W x L Q := by
  have hl := R.le
  refine loop_by (fun s => s.2.2) L.length (fun i s => (s.2.1 = false → s.1 = 0 ∧ ∀ j : Nat, j < i → ¬ x < (gi L (j : Int)).1) ∧ (s.2.1 = true → (∃ j : Nat, j < i ∧ (gi L (j : Int)).1 = s.1 ∧ x < s.1) ∧ ∀ j : Nat, j < i → x < (gi L (j : Int)).1 → s.1 ≤ (gi L (j : Int)).1)) rfl ⟨fun _ => ⟨rfl, by omega⟩, fun c => (by cases c)⟩ fun K i s hx hi hI hK => ?_
  obtain ⟨n, is, _⟩ := s
  simp only at hx hI; subst hx
  show ref23_R_Next_l1 x L Q _ n is (i : Int)
  unfold ref23_R_Next_l1
  refine ⟨fun c => leftR_ok R ?_, fun c => ?_⟩
  · have i1 : i < L.length := by omega
    have ll : 0 < leftL x L (i : Int) ↔ x < (gi L (i : Int)).1 := by
      unfold leftL; rw [if_pos (by omega)]; split <;> omega
    have j1 : ∀ b : Bool, (b = true → x < (gi L (i : Int)).1 ∧ (is = true → (gi L (i : Int)).1 < n)) → (b = false → x < (gi L (i : Int)).1 → is = true ∧ n ≤ (gi L (i : Int)).1) → ref23_R_Next_j1 L n is (i : Int) (fun a b c => K (a, b, c)) b := by
      intro b hb1 hb2
      refine ⟨fun d => ⟨by omega, by unfold I64; omega, hK (i + 1) _ (by simp) (by omega) (by omega) ⟨fun q => (by cases q), fun _ => ⟨⟨i, by omega, rfl, (hb1 d).1⟩, fun j hj hxj => ?_⟩⟩⟩, fun d => ⟨by unfold I64; omega, hK (i + 1) _ (by simp) (by omega) (by omega) ⟨fun q => ?_, fun q => ?_⟩⟩⟩
      · show (gi L (i : Int)).1 ≤ _
        by_cases e : j = i
        · subst e; exact Int.le_refl _
        · cases hs : is with
          | false => exact absurd hxj ((hI.1 hs).2 j (by omega))
          | true => have := (hI.2 hs).2 j (by omega) hxj; have := (hb1 d).2 hs; omega
      · have q' : is = false := q
        refine ⟨(hI.1 q').1, fun j hj => ?_⟩
        by_cases e : j = i
        · subst e; intro w; rw [(hb2 d w).1] at q'; cases q'
        · exact (hI.1 q').2 j (by omega)
      · have q' : is = true := q
        obtain ⟨⟨j, a, b, c⟩, w⟩ := hI.2 q'
        refine ⟨⟨j, by omega, b, c⟩, fun j hj hxj => ?_⟩
        by_cases e : j = i
        · subst e; exact (hb2 d hxj).2
        · exact w j (by omega) hxj
    refine ⟨fun d => ⟨fun e => j1 _ (fun _ => ⟨ll.1 d, fun q => by rw [q] at e; cases e⟩) (fun q => (by cases q)), fun e => ⟨by omega, j1 _ (fun q => ⟨ll.1 d, fun _ => of_decide_eq_true q⟩) (fun q _ => ⟨by simpa using e, by have := of_decide_eq_false q; omega⟩)⟩⟩, fun d => j1 _ (fun q => (by cases q)) (fun _ q => absurd (ll.2 q) d)⟩
  · have : i = L.length := by omega
    subst this
    cases hs : is with
    | false => rw [(hI.1 hs).1]; exact h0 (hI.1 hs).2
    | true => obtain ⟨⟨j, a, b, c⟩, w⟩ := hI.2 hs; exact h1 n ⟨j, a, b, c⟩ w
theorem next23_ok {x : Int} {m : CM} {fx : List Bool} {L : List On} (R : Rr x m fx L) {now T : Int} (hT : max x (min now 1000000000000) = T) {Q : Int → Bool → Int → CM → List Bool → Int → Bool → Prop} (h : ∀ (n : Int) (b : Bool), Rr T (leftM m T) fx L → Pp T (leftM m T) → Q n b T (leftM m T) fx n b) :
    route_Routes_Next_W x m fx now (fun a b c d e => ref23_R_Next_W T L (fun f g => Q a b c d e f g)) := by
  refine settleP_ok R ?_
  rw [hT]
  have x0 := R.n0
  have x1 := R.n1
  obtain ⟨R', P⟩ := R.settle (T := T) (by omega) (by omega)
  have key : ∀ i : Nat, i < L.length → T < (gi L (i : Int)).1 → mget (leftM m T) (i : Int) = some (gi L (i : Int)).1 := by
    intro i hi hx
    rcases hg : mget (leftM m T) (i : Int) with _ | t
    · have := R'.non (i : Int) (by omega) (by omega) hg; omega
    · rw [(R'.mem _ _ hg).2.2]
  refine next_ok R'.nd (fun e => nextR_ok R' (fun _ => h 0 false R' P) fun n ⟨i, hi, e1, e2⟩ _ => ?_) fun k t hkt hmin => ?_
  · have := key i hi (by omega); rw [e] at this; cases this
  · have hg := (mem_iff_mget R'.nd k t).1 hkt
    obtain ⟨k0, k1, k2⟩ := R'.mem k t hg
    have ht := P k t hg
    obtain ⟨j, rfl⟩ : ∃ j : Nat, k = j := ⟨k.toNat, by omega⟩
    have low : ∀ i : Nat, i < L.length → T < (gi L (i : Int)).1 → t ≤ (gi L (i : Int)).1 := by
      intro i hi hx
      have gi' := key i hi hx
      have hm := hmin ((i : Int), (gi L (i : Int)).1) ((mem_iff_mget R'.nd _ _).2 gi')
      rcases Int.lt_or_le (gi L (i : Int)).1 t with c | c
      · refine absurd (.inl ?_) hm
        show mget0 _ _ < mget0 _ _
        unfold mget0; rw [gi', hg]; exact c
      · exact c
    refine nextR_ok R' (fun q => absurd (by rw [k2]; exact ht) (q j (by omega))) fun n ⟨i, hi, e1, e2⟩ hn => ?_
    have a1 := low i hi (by omega)
    have a2 := hn j (by omega) (by rw [k2]; exact ht)
    rw [k2] at a2
    have : n = t := by omega
    subst this; exact h n true R' P
theorem lives23_ok {Q : Bool → Prop} (h : Q true) : law23_lives_W Q := by
  refine ⟨by decide, fun _ => ?_, fun c => absurd rfl c⟩
  obtain ⟨m, hm⟩ : ∃ m : CM, m = [(1, 25)] := ⟨_, rfl⟩
  have nd : (m.map Prod.fst).Nodup := by rw [hm]; decide
  have ml : m.length ≤ 1000000 := by rw [hm]; decide
  unfold law18_Usual_W route_Routes_Hear_W
  refine inP_ok ⟨fun c => absurd c (by decide), fun _ => ?_⟩
  unfold route_Routes_settle_W
  refine pop_ok (by decide) (by decide) fun _ _ _ => ?_
  unfold clock_Clock_At_int_W tune_Other_W clock_Clock_Set_int_W
  have e1 : mset (leftM ([] : CM) (max 0 (min 0 1000000000000))) 1 (max (mget0 (leftM ([] : CM) (max 0 (min 0 1000000000000))) 1) (max 0 (min 0 1000000000000) + (2 * 12 + (2 : Int).tdiv 2))) = m := by rw [hm]; decide
  refine ⟨by decide, by decide, by decide, by decide, ?_⟩
  show (true = true → route_Routes_Is_W (max 0 (min 0 1000000000000)) (mset (leftM ([] : CM) (max 0 (min 0 1000000000000))) 1 (max (mget0 (leftM ([] : CM) (max 0 (min 0 1000000000000))) 1) (max 0 (min 0 1000000000000) + (2 * 12 + (2 : Int).tdiv 2)))) _ 24 1 _) ∧ _
  rw [e1]
  have e24 : leftM m (max (max 0 (min 0 1000000000000)) (min 24 1000000000000)) = m := by rw [hm]; decide
  have e24' : leftM m (max (max (max 0 (min 0 1000000000000)) (min 24 1000000000000)) (min 24 1000000000000)) = m := by rw [hm]; decide
  have e25 : leftM m (max (max (max (max 0 (min 0 1000000000000)) (min 24 1000000000000)) (min 24 1000000000000)) (min 25 1000000000000)) = [] := by rw [hm]; decide
  refine ⟨fun _ => inP_ok ⟨fun c => absurd c (by decide), fun _ => pop_ok nd ml fun _ _ _ => ?_⟩, fun c => (by cases c)⟩
  rw [e24]
  refine ⟨fun _ => ⟨fun _ => inP_ok ⟨fun c => absurd c (by decide), fun _ => pop_ok nd ml fun _ _ _ => ?_⟩, fun c => (by cases c)⟩, fun c => absurd c (by rw [hm]; decide)⟩
  rw [e24']
  refine ⟨fun c => absurd c (by rw [hm]; decide), fun _ => ⟨by decide, ⟨fun _ => inP_ok ⟨fun c => absurd c (by decide), fun _ => pop_ok nd ml fun _ _ _ => ?_⟩, fun c => absurd c (by decide)⟩⟩⟩
  rw [e25]
  exact ⟨fun c => (by cases c), fun _ => ⟨by decide, h⟩⟩
theorem gi_rep {α : Type} [Inhabited α] (n : Nat) (k : Int) : gi (List.replicate n (default : α)) k = default := by
  unfold gi; rw [List.getD_eq_getElem?_getD, List.getElem?_replicate]; split <;> rfl
theorem routePlays_ok {n : Int} {t : T_api_Tune} {acts : List T_acequiaref23_Act} {Q : Bool → Prop} (h : Q true) : law23_RoutePlays_W n t acts Q := by
  refine good_ok ⟨fun _ => lives23_ok h, fun c => (by cases c)⟩ fun h1 h2 h3 => ⟨fun c => (by cases c), fun _ => ⟨by omega, ?_⟩⟩
  have main : ∀ r : Int, r = min (max n 0) 32 → ((0 : Int) ≤ r ∧ 16 * r ≤ 281474976710656) ∧ ((¬ ((((List.replicate (min (max n 0) 32).toNat (default : Bool)).length : Int)) = ((List.replicate (r).toNat (default : On)).length : Int)) → Q false) ∧ ((((List.replicate (min (max n 0) 32).toNat (default : Bool)).length : Int)) = ((List.replicate (r).toNat (default : On)).length : Int) → loopW (fun (K_1 : (Int × (List (Int × Int)) × List Bool × Int × List T_acequiaref23_One × Int × Int) → Prop) (s : Int × (List (Int × Int)) × List Bool × Int × List T_acequiaref23_One × Int × Int) => law23_RoutePlays_l1 t acts Q (fun r_0_1 r_1_0_1 r_2_1 x_0_1 x_1_1 now_1 i_1 => K_1 (r_0_1, r_1_0_1, r_2_1, x_0_1, x_1_1, now_1, i_1)) s.1 s.2.1 s.2.2.1 s.2.2.2.1 s.2.2.2.2.1 s.2.2.2.2.2.1 s.2.2.2.2.2.2) (0, [], List.replicate (min (max n 0) 32).toNat (default : Bool), 0, List.replicate (r).toNat (default : On), 0, 0))) := by
    rintro r rfl
    refine ⟨by omega, fun c => absurd (by simp) c, fun _ => ?_⟩
    obtain ⟨N, hN⟩ : ∃ N : Nat, (min (max n 0) 32).toNat = N := ⟨_, rfl⟩
    have hN32 : N ≤ 32 := by omega
    rw [hN]
    have R0 : Rr 0 [] (List.replicate N (default : Bool)) (List.replicate N (default : On)) :=
      ⟨by omega, by omega, by simp, by simpa using hN32, List.nodup_nil, by simp, fun k _ _ => by rw [gi_rep, gi_rep]; rfl, fun k t q => (by cases q), fun k _ _ _ => by rw [gi_rep]; exact Int.le_refl _, fun k _ _ => by rw [gi_rep]; exact ⟨Int.le_refl _, by decide⟩⟩
    refine loop_by (fun s => s.2.2.2.2.2.2) acts.length (fun i s => s.1 = s.2.2.2.1 ∧ Rr s.1 s.2.1 s.2.2.1 s.2.2.2.2.1 ∧ s.2.1.length ≤ i ∧ i ≤ 20 ∧ -1000000 * (i : Int) ≤ s.2.2.2.2.2.1 ∧ s.2.2.2.2.2.1 ≤ 1000000 * (i : Int)) rfl ⟨rfl, R0, by simp, by omega, by simp, by simp⟩ fun K i s hx hn hI hK => ?_
    obtain ⟨x, m, fx, x', L, now, _⟩ := s
    simp only at hx; subst hx
    obtain ⟨ex, R, hm, hi20, hw1, hw2⟩ := hI
    simp only at ex R hm hw1 hw2
    subst ex
    show law23_RoutePlays_l1 t acts Q _ x m fx x L now (i : Int)
    have j1 : ∀ b : Bool, (b = true → i < acts.length ∧ i < 20) → law23_RoutePlays_j1 t acts Q x m fx x L now (i : Int) (fun a b c d e f g => K (a, b, c, d, e, f, g)) b := by
      intro b hb
      refine ⟨fun c => ?_, fun c => lives23_ok h⟩
      obtain ⟨i1, i2⟩ := hb c
      have j2 : ∀ w : Int, -1000000 ≤ w → w ≤ 1000000 → law23_RoutePlays_j2 t acts Q x m fx x L now (i : Int) (fun a b c d e f g => K (a, b, c, d, e, f, g)) w := by
        intro w w1 w2
        have j3 : ∀ (x2 : Int) (m2 : CM) (fx2 : List Bool) (L2 : List On), Rr x2 m2 fx2 L2 → m2.length ≤ i + 1 → law23_RoutePlays_j3 acts Q now (i : Int) (fun a b c d e f g => K (a, b, c, d, e, f, g)) w x2 m2 fx2 x2 L2 := by
          intro x2 m2 fx2 L2 R2 hm2
          refine settleR_ok R2.n0 ?_
          obtain ⟨T, hT⟩ : ∃ T, max x2 (min (now + w) 1000000000000) = T := ⟨_, rfl⟩
          rw [hT]
          have x0 := R2.n0
          refine next23_ok R2 hT fun u bb R3 P3 => ?_
          have hs : max T (min (now + w) 1000000000000) = T := by omega
          have l3 : (leftM m2 T).length ≤ i + 1 := Nat.le_trans (List.length_filter_le _ _) hm2
          have hle := R2.le
          refine PortsP_ok R3 P3 hs (PortsR_ok R3 (same23_ok (Nat.le_trans (portsL_len _ _ _) (by omega)) ⟨fun c => (by cases c), fun _ => IsP_ok R3 P3 hs (isR_ok R3 ⟨fun c => by simp at c, fun _ => LeftP_ok R3 P3 hs (leftR_ok R3 ⟨fun c => absurd rfl c, fun _ => ⟨fun c => absurd rfl c, fun _ => ⟨fun c => by simp at c, fun _ => ⟨by unfold I64; omega, ?_⟩⟩⟩⟩)⟩)⟩))
          exact hK (i + 1) _ (by simp) (by omega) (by omega) ⟨rfl, R3, l3, by omega, by simp only; omega, by simp only; omega⟩
        refine ⟨by unfold I64; omega, fun c => hear_ok R (by omega) h1 h2 h3 fun b2 x2 m2 L2 R2 hm2 _ => ⟨fun d => by simp at d, fun _ => ⟨fun d => ?_, fun _ => j3 _ _ _ _ R2 (by omega)⟩⟩, fun c => ⟨fun _ => fix_ok R fun b2 fx2 L2 R2 _ => ⟨fun d => by simp at d, fun _ => j3 _ _ _ _ R2 (by omega)⟩, fun _ => j3 _ _ _ _ R (by omega)⟩⟩
        rw [c] at d; cases d
      exact ⟨by (first | omega | (unfold I64; omega) | (simp only [List.length_append, List.length_cons, List.length_nil, List.length_take, List.length_drop] at *; omega) | (unfold I64; simp only [List.length_append, List.length_cons, List.length_nil, List.length_take, List.length_drop] at *; omega)), fun d => j2 1 (by omega) (by omega), fun d => ⟨fun e => j2 1 (by omega) (by omega), fun e => j2 _ (by omega) (by omega)⟩⟩
    exact ⟨fun c => j1 _ fun d => ⟨by omega, by have := of_decide_eq_true d; omega⟩, fun c => j1 _ fun d => (by cases d)⟩
  exact ⟨fun c => main 0 (by omega), fun c => ⟨fun d => main 32 (by omega), fun d => main n (by omega)⟩⟩
end Go.Wk
