/- Plain words: queries: the document's Due; QueryPlays. -/
import Derived.Test.YtfoebjicglgklaaGreatQryS
set_option linter.unusedSimpArgs false
set_option linter.unusedVariables false
set_option linter.unusedSectionVars false
namespace Go.Wk
open Go.HL
variable [DM]
variable {at_ : CM} {op : OM} {A : Qs} {now at1 first : Int} {on : Bool} {L : List On} {ps : PM}
theorem decL_app (a b : SM) : decL (a ++ b) = decL a ++ decL b := by unfold decL; rw [List.map_append, List.filter_append]
theorem decL_one (x : Ad × Int) : decL [x] = if 1 < x.2 then [(x.1, x.2 - 1)] else [] := by
  unfold decL
  by_cases e : 1 < x.2
  · rw [if_pos e]; simp; omega
  · rw [if_neg e]; simp; omega
theorem decL_len (l : SM) : (decL l).length ≤ l.length := by
  have := (decL_keys l).length_le; simpa using this
theorem dueJ_ok {B : Qs} {t : T_api_Tune} {gb : Bool} {a2 f2 : Int} {Q : Bool → List T_api_Asked → PM → Int → Bool → Int → Int → List On → Prop} (rL : L.map rdO = B.L) (rps : InP L ps) (hlst : ∀ o ∈ B.L, OkO o) (hlen : B.L.length ≤ 64) (hn : 0 ≤ B.now ∧ B.now ≤ 1000000000000) (ht2 : 0 ≤ t.2.2.2.1 ∧ t.2.2.2.1 ≤ 1000000)
    (h : ∀ out ps' L', out.map rdAsk = (B.L.filter fun o => decide (o.t ≤ B.now)).map tldO → L'.map rdO = B.L.flatMap (stepO B.now t.2.2.2.1) → InP L' ps' → Q gb out ps' B.now on a2 f2 L') : ref22_Q_Due_j2 t Q ps B.now on L gb a2 f2 := by
  have hLl : L.length = B.L.length := by rw [← rL, List.length_map]
  refine loop_by (fun s => s.2.2.2) L.length (fun i s => s.2.1.map rdAsk = (((L.take i).map rdO).filter fun o => decide (o.t ≤ B.now)).map tldO ∧ s.2.2.1.map rdO = ((L.take i).map rdO).flatMap (stepO B.now t.2.2.2.1) ∧ InP (s.2.2.1 ++ L.drop i) s.1) rfl ⟨rfl, rfl, by simpa using rps⟩ ?_
  rintro K i ⟨p1, out, rest, _⟩ rfl hi ⟨ho, hr, hI⟩ hK
  simp only at ho hr hI
  have hol : out.length ≤ i := by
    have := congrArg List.length ho
    simp only [List.length_map] at this
    rw [this]
    exact Nat.le_trans (List.length_filter_le _ _) (by rw [List.length_map, List.length_take]; omega)
  have hrl : rest.length ≤ i := by
    have := congrArg List.length hr
    rw [List.length_map] at this
    rw [this]
    exact Nat.le_trans step_len (by rw [List.length_map, List.length_take]; omega)
  show ref22_Q_Due_l1 t Q B.now on L gb a2 f2 _ p1 out rest (i : Int)
  unfold ref22_Q_Due_l1
  refine ⟨fun c => ?_, fun c => ?_⟩
  · have hil : i < L.length := by omega
    have hgi : gi L (i : Int) = L[i] := gi_nat hil
    have hdrop : L.drop i = L[i] :: L.drop (i + 1) := List.drop_eq_getElem_cons hil
    have htake : L.take (i + 1) = L.take i ++ [L[i]] := List.take_succ_eq_append_getElem hil
    have hmem : L[i] ∈ L := List.getElem_mem hil
    have hok := hlst (rdO L[i]) (by rw [← rL]; exact List.mem_map.2 ⟨_, hmem, rfl⟩)
    rw [hgi]
    rw [hdrop] at hI
    generalize hx : L[i] = x at *
    refine ⟨by (first | omega | (unfold I64; omega) | (simp only [List.length_append, List.length_cons, List.length_nil, List.length_take, List.length_drop] at *; omega) | (unfold I64; simp only [List.length_append, List.length_cons, List.length_nil, List.length_take, List.length_drop] at *; omega)), fun d => ⟨by simp; omega, by (first | omega | (unfold I64; omega) | (simp only [List.length_append, List.length_cons, List.length_nil, List.length_take, List.length_drop] at *; omega) | (unfold I64; simp only [List.length_append, List.length_cons, List.length_nil, List.length_take, List.length_drop] at *; omega)), hK (i + 1) _ rfl (by omega) (by omega) ⟨?_, ?_, ?_⟩⟩, fun d => ⟨hI.has (by simp), askedR_ok hok.len fun v => ⟨by simp; omega, by (first | omega | (unfold I64; omega) | (simp only [List.length_append, List.length_cons, List.length_nil, List.length_take, List.length_drop] at *; omega) | (unfold I64; simp only [List.length_append, List.length_cons, List.length_nil, List.length_take, List.length_drop] at *; omega)), ?_⟩⟩⟩
    · rw [htake, List.map_append, List.filter_append, List.map_append, ho]
      have : ([x].map rdO).filter (fun o => decide (o.t ≤ B.now)) = [] := by
        rw [List.filter_eq_nil_iff]
        intro o ho'
        rw [List.map_cons, List.map_nil, List.mem_singleton] at ho'
        subst ho'
        have d : B.now < (rdO x).t := d
        simp only [decide_eq_true_eq]; omega
      rw [this]; simp
    · show (rest ++ [x]).map rdO = _
      rw [htake, List.map_append, List.map_append, List.flatMap_append, hr]
      congr 1
      rw [List.map_cons, List.map_nil, List.flatMap_cons, List.flatMap_nil, List.append_nil]
      unfold stepO; rw [if_pos (by exact d)]
    · show InP ((rest ++ [x]) ++ L.drop (i + 1)) p1
      simpa using hI
    · have hn0 := hok.n0
      have hn1 := hok.n1
      have hn0 : 0 ≤ x.2.2.1 := hn0
      have hn1 : x.2.2.1 ≤ 1000 := hn1
      have hxl : x.2.2.2.2.length ≤ 64 := hok.len
      have d : ¬ B.now < x.2.1 := d
      have hout : (out ++ ([((x.1.1, x.1.2), decide (0 < x.2.2.1), (v, x.2.2.2.2.map Prod.fst))] : List T_api_Asked)).map rdAsk = (((L.take (i + 1)).map rdO).filter fun o => decide (o.t ≤ B.now)).map tldO := by
        rw [htake, List.map_append, List.map_append, List.filter_append, List.map_append, ho]
        have : ([x].map rdO).filter (fun o => decide (o.t ≤ B.now)) = [rdO x] := by
          rw [List.filter_eq_self.2]
          · rfl
          · intro o ho'
            rw [List.map_cons, List.map_nil, List.mem_singleton] at ho'
            subst ho'
            have d : ¬ B.now < (rdO x).t := d
            exact decide_eq_true (by omega)
        rw [this]; rfl
      have hgone : goneO (tellO B.now t.2.2.2.1 (rdO x)) = (decide (max (x.2.2.1 - 1) 0 = 0) && (decL x.2.2.2.2).isEmpty) := rfl
      have hstep : (((L.take (i + 1)).map rdO).flatMap (stepO B.now t.2.2.2.1)) = rest.map rdO ++ if goneO (tellO B.now t.2.2.2.1 (rdO x)) = true then [] else [tellO B.now t.2.2.2.1 (rdO x)] := by
        rw [htake, List.map_append, List.flatMap_append, ← hr]
        congr 1
        rw [List.map_cons, List.map_nil, List.flatMap_cons, List.flatMap_nil, List.append_nil]
        unfold stepO; rw [if_neg (by exact d)]
      have j4 : ∀ b : Bool, (b = true ↔ goneO (tellO B.now t.2.2.2.1 (rdO x)) = false) → ref22_Q_Due_j4 t B.now L p1 out rest (i : Int) (fun ps_3 out_1 rest_1 i_1 => K (ps_3, out_1, rest_1, i_1)) x.1.1 x.1.2 (decide (0 < x.2.2.1)) (x.2.2.2.2.map Prod.fst) v (max (x.2.2.1 - 1) 0) (decL x.2.2.2.2) b := by
        intro b hb
        unfold ref22_Q_Due_j4
        rw [hgi]
        refine ⟨fun q sv => ⟨by simp; omega, by (first | omega | (unfold I64; omega) | (simp only [List.length_append, List.length_cons, List.length_nil, List.length_take, List.length_drop] at *; omega) | (unfold I64; simp only [List.length_append, List.length_cons, List.length_nil, List.length_take, List.length_drop] at *; omega)), hK (i + 1) _ rfl (by omega) (by omega) ⟨hout, ?_, ?_⟩⟩, fun q => ⟨by (first | omega | (unfold I64; omega) | (simp only [List.length_append, List.length_cons, List.length_nil, List.length_take, List.length_drop] at *; omega) | (unfold I64; simp only [List.length_append, List.length_cons, List.length_nil, List.length_take, List.length_drop] at *; omega)), hK (i + 1) _ rfl (by omega) (by omega) ⟨hout, ?_, ?_⟩⟩⟩
        · rw [hstep, if_neg (by rw [hb.1 q]; decide), List.map_append]; rfl
        · have hm := (hI.put (sv, decL x.2.2.2.2))
          show InP ((rest ++ [(x.1, B.now + t.2.2.2.1, max (x.2.2.1 - 1) 0, (sv, decL x.2.2.2.2))]) ++ L.drop (i + 1)) ((sv, decL x.2.2.2.2) :: p1)
          obtain ⟨r, hr'⟩ := hI
          rw [nst_app, nst_cons] at hr'
          refine ⟨(if x.2.2.2 = ((none, 0, 0), []) then [] else [x.2.2.2]) ++ ((if ((sv, decL x.2.2.2.2) : SV × SM) = ((none, 0, 0), []) then [(sv, decL x.2.2.2.2)] else []) ++ r), ?_⟩
          have hy : nst [(x.1, B.now + t.2.2.2.1, max (x.2.2.1 - 1) 0, (sv, decL x.2.2.2.2))] = if ((sv, decL x.2.2.2.2) : SV × SM) = ((none, 0, 0), []) then [] else [(sv, decL x.2.2.2.2)] := by
            rw [nst_cons]; show _ ++ nst [] = _; simp [nst]
          rw [nst_app, nst_app, hy]
          refine (hr'.cons _).trans ?_
          generalize (if x.2.2.2 = ((none, 0, 0), []) then [] else [x.2.2.2]) = X
          by_cases e : ((sv, decL x.2.2.2.2) : SV × SM) = ((none, 0, 0), [])
          · rw [if_pos e, if_pos e]
            generalize ((sv, decL x.2.2.2.2) : SV × SM) = y
            rw [List.append_nil]
            refine List.perm_iff_count.2 fun z => ?_
            simp only [List.count_cons, List.count_append, List.count_nil]; omega
          · rw [if_neg e, if_neg e]
            generalize ((sv, decL x.2.2.2.2) : SV × SM) = y
            refine List.perm_iff_count.2 fun z => ?_
            simp only [List.count_cons, List.count_append, List.count_nil]; omega
        · have hg : goneO (tellO B.now t.2.2.2.1 (rdO x)) = true := by
            cases e : goneO (tellO B.now t.2.2.2.1 (rdO x)) with
            | true => rfl
            | false => rw [hb.2 e] at q; cases q
          rw [hstep, if_pos hg, List.append_nil]
        · show InP (rest ++ L.drop (i + 1)) p1
          refine hI.of (r := nst [x]) ?_
          rw [nst_app, show x :: L.drop (i + 1) = [x] ++ L.drop (i + 1) from rfl, nst_app, nst_app, List.append_assoc]
          exact List.Perm.append_left _ List.perm_append_comm
      have j3 : ∀ y18 : Int, y18 = max (x.2.2.1 - 1) 0 → ref22_Q_Due_j3 t B.now L p1 out rest (i : Int) (fun ps_3 out_1 rest_1 i_1 => K (ps_3, out_1, rest_1, i_1)) x.1.1 x.1.2 (decide (0 < x.2.2.1)) (x.2.2.2.2.map Prod.fst) v y18 := by
        intro y18 hy18
        unfold ref22_Q_Due_j3
        refine loop_up x.2.2.2.2.length (fun k s => s = decL (x.2.2.2.2.take k)) rfl ?_
        intro K2 k s hk hs hK2
        have hsl : s.length ≤ k := by rw [hs]; exact Nat.le_trans (decL_len _) (by rw [List.length_take]; omega)
        show ref22_Q_Due_l2 t B.now L p1 out rest (i : Int) _ x.1.1 x.1.2 _ _ v y18 _ s (k : Int)
        unfold ref22_Q_Due_l2
        rw [hgi]
        refine ⟨hI.has (by simp), fun c2 => ?_, fun c2 => ?_⟩
        · have hkl : k < x.2.2.2.2.length := by omega
          rw [gi_nat hkl]
          have htk : decL (x.2.2.2.2.take (k + 1)) = s ++ (if 1 < x.2.2.2.2[k].2 then [(x.2.2.2.2[k].1, x.2.2.2.2[k].2 - 1)] else []) := by
            rw [List.take_succ_eq_append_getElem hkl, decL_app, decL_one, hs]
          have hv := hok.v x.2.2.2.2[k] (List.getElem_mem hkl)
          refine ⟨by (first | omega | (unfold I64; omega) | (simp only [List.length_append, List.length_cons, List.length_nil, List.length_take, List.length_drop] at *; omega) | (unfold I64; simp only [List.length_append, List.length_cons, List.length_nil, List.length_take, List.length_drop] at *; omega)), fun d2 => ⟨by (first | omega | (unfold I64; omega) | (simp only [List.length_append, List.length_cons, List.length_nil, List.length_take, List.length_drop] at *; omega) | (unfold I64; simp only [List.length_append, List.length_cons, List.length_nil, List.length_take, List.length_drop] at *; omega)), by simp; omega, by (first | omega | (unfold I64; omega) | (simp only [List.length_append, List.length_cons, List.length_nil, List.length_take, List.length_drop] at *; omega) | (unfold I64; simp only [List.length_append, List.length_cons, List.length_nil, List.length_take, List.length_drop] at *; omega)), hK2 (k + 1) _ (by omega) (by omega) ?_⟩, fun d2 => ⟨by (first | omega | (unfold I64; omega) | (simp only [List.length_append, List.length_cons, List.length_nil, List.length_take, List.length_drop] at *; omega) | (unfold I64; simp only [List.length_append, List.length_cons, List.length_nil, List.length_take, List.length_drop] at *; omega)), hK2 (k + 1) _ (by omega) (by omega) ?_⟩⟩
          · rw [htk, if_pos d2]
          · rw [htk, if_neg d2, List.append_nil]
        · have hkl : k = x.2.2.2.2.length := by omega
          subst hkl
          rw [List.take_length] at hs
          subst hs; subst hy18
          refine ⟨fun d2 => j4 _ ⟨fun _ => ?_, fun _ => rfl⟩, fun d2 => j4 _ ?_⟩
          · rw [hgone, decide_eq_false (by omega)]; rfl
          · have e0 : decide (max (x.2.2.1 - 1) 0 = 0) = true := decide_eq_true (by omega)
            rw [hgone, e0, Bool.true_and, decide_eq_true_iff]
            cases decL x.2.2.2.2 with
            | nil => simp
            | cons a r => exact ⟨fun _ => rfl, fun _ => by simp only [List.length_cons]; omega⟩
      refine ⟨by (first | omega | (unfold I64; omega) | (simp only [List.length_append, List.length_cons, List.length_nil, List.length_take, List.length_drop] at *; omega) | (unfold I64; simp only [List.length_append, List.length_cons, List.length_nil, List.length_take, List.length_drop] at *; omega)), fun q => j3 0 (by omega), fun q => j3 _ (by omega)⟩
  · have hil : i = L.length := by omega
    subst hil
    rw [List.take_length, rL] at ho hr
    rw [List.drop_length, List.append_nil] at hI
    exact h out p1 rest ho hr hI
theorem gapR_ok {t : T_api_Tune} {Q : Int → Prop} (ht : 0 ≤ t.2.1 ∧ t.2.1 ≤ 1000000) (h : Q (max (t.2.1.tdiv 4) 1)) : ref14_Gap_W t Q := by
  have hd : 0 ≤ t.2.1.tdiv 4 ∧ t.2.1.tdiv 4 ≤ 1000000 := by
    rw [Int.tdiv_eq_ediv_of_nonneg ht.1]; omega
  refine ⟨by (first | omega | (unfold I64; omega) | (simp only [List.length_append, List.length_cons, List.length_nil, List.length_take, List.length_drop] at *; omega) | (unfold I64; simp only [List.length_append, List.length_cons, List.length_nil, List.length_take, List.length_drop] at *; omega)), fun c => ?_, fun c => ?_⟩
  · rw [Int.max_eq_left (by omega)] at h; exact h
  · rw [Int.max_eq_right (by omega)] at h; exact h
theorem dueR_ok {n : Int} {t : T_api_Tune} {Q : Bool → List T_api_Asked → PM → Int → Bool → Int → Int → List On → Prop} (R : RR now on at1 first L ps A) (hA : Bd A) (hlst : ∀ o ∈ A.L, OkO o) (hlen : A.L.length ≤ 64) (ht : 0 ≤ t.2.1 ∧ t.2.1 ≤ 1000000) (ht2 : 0 ≤ t.2.2.2.1 ∧ t.2.2.2.1 ≤ 1000000)
    (h : ∀ out ps' L' a', out.map rdAsk = (A.due n t).2.1 → RR (A.due n t).2.2.now on a' (A.due n t).2.2.first L' ps' (A.due n t).2.2 → Q (A.due n t).1 out ps' (A.due n t).2.2.now on a' (A.due n t).2.2.first L') : ref22_Q_Due_W now on at1 first L n t ps Q := by
  have hS : Bd (A.settle n) := by
    obtain ⟨a, b, c, d⟩ := hA
    exact ⟨by unfold Qs.settle; simp only; omega, by unfold Qs.settle; simp only; omega, c, d⟩
  refine settleR_ok R hA fun R1 => ?_
  have hd : 0 ≤ t.2.1.tdiv 4 ∧ t.2.1.tdiv 4 ≤ 1000000 := by
    rw [Int.tdiv_eq_ediv_of_nonneg ht.1]; omega
  unfold Qs.due at h
  simp only at h
  have hlst : ∀ o ∈ (A.settle n).L, OkO o := hlst
  have hlen : (A.settle n).L.length ≤ 64 := hlen
  generalize A.settle n = S at h R1 hS hlst hlen ⊢
  obtain ⟨_, ron, rfirst, rL, rps⟩ := R1
  obtain ⟨n0, n1, f0, f1⟩ := hS
  subst rfirst
  have main : ∀ (gb : Bool) (a2 f2 : Int) (B : Qs), S.gen t = (gb, B) → B.L = S.L → B.now = S.now → f2 = B.first → (B.on = if on = true then some a2 else none) → ref22_Q_Due_j2 t Q ps S.now on L gb a2 f2 := by
    intro gb a2 f2 B hg eL en ef eon
    rw [hg] at h
    subst ef
    rw [← en]
    refine dueJ_ok (by rw [eL]; exact rL) rps (by rw [eL]; exact hlst) (by rw [eL]; exact hlen) ⟨by omega, by omega⟩ ht2 fun out ps' L' ho hL' hI => ?_
    exact h out ps' L' a2 ho ⟨rfl, eon, rfl, hL', hI⟩
  refine ⟨fun c => ?_, fun c => ?_⟩
  · rw [if_pos c] at ron
    unfold ref22_Q_Due_j1
    refine ⟨fun d => ?_, fun d => ?_⟩
    · have hle : at1 ≤ S.now := of_decide_eq_true d
      have e : S.gen t = (true, { S with first := S.first - 1, on := some (S.now + if S.first - 1 ≤ 0 then t.2.1 else max (t.2.1.tdiv 4) 1) }) := by
        unfold Qs.gen; rw [ron]; simp only; rw [if_pos hle]
      rw [d]
      refine ⟨by (first | omega | (unfold I64; omega) | (simp only [List.length_append, List.length_cons, List.length_nil, List.length_take, List.length_drop] at *; omega) | (unfold I64; simp only [List.length_append, List.length_cons, List.length_nil, List.length_take, List.length_drop] at *; omega)), by (first | omega | (unfold I64; omega) | (simp only [List.length_append, List.length_cons, List.length_nil, List.length_take, List.length_drop] at *; omega) | (unfold I64; simp only [List.length_append, List.length_cons, List.length_nil, List.length_take, List.length_drop] at *; omega)), fun q => gapR_ok ht ⟨by (first | omega | (unfold I64; omega) | (simp only [List.length_append, List.length_cons, List.length_nil, List.length_take, List.length_drop] at *; omega) | (unfold I64; simp only [List.length_append, List.length_cons, List.length_nil, List.length_take, List.length_drop] at *; omega)), main _ _ _ _ e rfl rfl rfl ?_⟩, fun q => main _ _ _ _ e rfl rfl rfl ?_⟩
      · show some _ = _; rw [if_pos c, if_neg (by omega)]
      · show some _ = _; rw [if_pos c, if_pos (by omega)]
    · have hle : ¬ at1 ≤ S.now := of_decide_eq_false d
      have e : S.gen t = (false, S) := by unfold Qs.gen; rw [ron]; simp only; rw [if_neg hle]
      rw [d]
      exact main _ _ _ _ e rfl rfl rfl (by rw [ron, if_pos c])
  · rw [if_neg (by rw [c]; decide)] at ron
    have e : S.gen t = (false, S) := by unfold Qs.gen; rw [ron]
    exact ⟨fun q => (by cases q), fun _ => main _ _ _ _ e rfl rfl rfl (by rw [ron, if_neg (by rw [c]; decide)])⟩
theorem act_ok {k w : Int} {g : Ad} {all : Bool} {src : List Ad} {Q : Int → Int → Bool → Ba 16 → Bool → List Ad → Prop} (h : ∀ w', -1000000 ≤ w' → w' ≤ 1000000 → Q k w' g.1 g.2 all (src.take 5)) : law22_Act_W k w g all src Q := by
  refine addrs_ok ⟨fun c => ⟨fun _ => h 1 (by decide) (by decide), fun q => by cases q⟩, fun c => ⟨fun _ => h 1 (by decide) (by decide), fun q => h w ?_ (by omega)⟩⟩
  have := of_decide_eq_false q; omega
theorem want_frame (A : Qs) (n c : Int) (g : Ad) (all : Bool) (src : List Ad) : (A.want n c g all src).2.now = (A.settle n).now ∧ (A.want n c g all src).2.first = A.first := by
  unfold Qs.want; simp only
  split
  · split
    · exact ⟨rfl, rfl⟩
    · split
      · exact ⟨rfl, rfl⟩
      · exact ⟨rfl, rfl⟩
  · exact ⟨rfl, rfl⟩
theorem due_frame (A : Qs) (n : Int) (t : T_api_Tune) : (A.due n t).2.2.now = (A.settle n).now ∧ A.first - 1 ≤ (A.due n t).2.2.first ∧ (A.due n t).2.2.first ≤ A.first := by
  obtain ⟨_, e2, e3, e4⟩ := gen_same (A.settle n) t
  exact ⟨e2, e3, e4⟩
theorem told_len {L : List Oq} {out : List T_api_Asked} (hl : ∀ o ∈ L, OkO o) (h : out.map rdAsk = L.map tldO) : out.length = L.length ∧ ∀ x ∈ out, x.2.2.2.length ≤ 64 := by
  refine ⟨by have := congrArg List.length h; simpa using this, fun x hx => ?_⟩
  have : rdAsk x ∈ L.map tldO := by rw [← h]; exact List.mem_map.2 ⟨x, hx, rfl⟩
  obtain ⟨o, ho, e⟩ := List.mem_map.1 this
  have e2 : x.2.2.2 = o.l.map Prod.fst := congrArg (fun z => z.2.2) e.symm
  rw [e2, List.length_map]; exact (hl o ho).len
theorem queryPlays_ok {t : T_api_Tune} {acts : List T_acequiaref22_Act} {Q : Bool → Prop} (h : Q true) : law22_QueryPlays_W t acts Q := by
  unfold law22_QueryPlays_W
  refine tuneG_ok ⟨fun _ => lives22_ok h, fun c => by cases c⟩ fun t1 t2 t3 t4 => ⟨fun c => (by cases c), fun _ => ?_⟩
  unfold query_New_W clock_New_string_W
  refine loop_by (fun s => s.2.2.2.2.2.2.2.2.2.2.2) (min acts.length 24) (fun i s => ∃ A : Qs, QR s.2.2.1 s.2.2.2.2.1 A ∧ s.2.1 = A.now ∧ s.2.2.2.1 = A.first ∧ RR s.2.2.2.2.2.1 s.2.2.2.2.2.2.1 s.2.2.2.2.2.2.2.1 s.2.2.2.2.2.2.2.2.1 s.2.2.2.2.2.2.2.2.2.1 s.1 A ∧ (0 ≤ A.now ∧ A.now ≤ 1000000000000) ∧ (-(i : Int) ≤ A.first ∧ A.first ≤ 7) ∧ (-(1000000 * i : Int) ≤ s.2.2.2.2.2.2.2.2.2.2.1 ∧ s.2.2.2.2.2.2.2.2.2.2.1 ≤ 1000000 * i)) rfl
    ⟨Q0, Q0_ok, rfl, rfl, ⟨rfl, rfl, rfl, rfl, InP.nil _⟩, ⟨by decide, by decide⟩, ⟨by decide, by decide⟩, ⟨by decide, by decide⟩⟩ ?_
  rintro K i ⟨ps, q0, at1, q2, op1, x0, x1, x2, x3, L, nw, _⟩ rfl hi ⟨A, R, e1, e2, S, hnw, hf, hno⟩ hK
  have e1 : q0 = A.now := e1
  have e2 : q2 = A.first := e2
  subst e1; subst e2
  simp only at R S hno
  show law22_QueryPlays_l1 t acts Q _ ps A.now at1 A.first op1 x0 x1 x2 x3 L nw (i : Int)
  unfold law22_QueryPlays_l1
  have stop : law22_QueryPlays_j1 t acts Q ps A.now at1 A.first op1 x0 x1 x2 x3 L nw (i : Int) (fun ps_1 q_0_1 q_1_0_1 q_2_1 q_3_1 x_0_1 x_1_1 x_2_1 x_3_1 x_4_1 now_1 i_1 => K (ps_1, q_0_1, q_1_0_1, q_2_1, q_3_1, x_0_1, x_1_1, x_2_1, x_3_1, x_4_1, now_1, i_1)) false := ⟨fun c => (by cases c), fun _ => lives22_ok h⟩
  refine ⟨fun c => ?_, fun c => stop⟩
  by_cases c24 : (i : Int) < 24
  · rw [decide_eq_true c24]
    refine ⟨fun _ => ?_, fun q => by cases q⟩
    have hil : i < acts.length := by omega
    rw [gi_nat hil]
    refine ⟨by (first | omega | (unfold I64; omega) | (simp only [List.length_append, List.length_cons, List.length_nil, List.length_take, List.length_drop] at *; omega) | (unfold I64; simp only [List.length_append, List.length_cons, List.length_nil, List.length_take, List.length_drop] at *; omega)), act_ok fun w hw1 hw2 => ⟨by (first | omega | (unfold I64; omega) | (simp only [List.length_append, List.length_cons, List.length_nil, List.length_take, List.length_drop] at *; omega) | (unfold I64; simp only [List.length_append, List.length_cons, List.length_nil, List.length_take, List.length_drop] at *; omega)), ?_⟩⟩
    have hBd : Bd A := ⟨hnw.1, hnw.2, by omega, by omega⟩
    have hset : ∀ n : Int, 0 ≤ (A.settle n).now ∧ (A.settle n).now ≤ 1000000000000 := fun n => by unfold Qs.settle; simp only; omega
    have j2 : ∀ (B : Qs) (ps2 : PM) (at2 : CM) (op2 : OM) (y1 : Bool) (y0 y2 y3 : Int) (M : List On), QR at2 op2 B → RR y0 y1 y2 y3 M ps2 B → (0 ≤ B.now ∧ B.now ≤ 1000000000000) → (-((i + 1 : Nat) : Int) ≤ B.first ∧ B.first ≤ 7) →
        law22_QueryPlays_j2 Q nw (i : Int) (fun ps_1 q_0_1 q_1_0_1 q_2_1 q_3_1 x_0_1 x_1_1 x_2_1 x_3_1 x_4_1 now_1 i_1 => K (ps_1, q_0_1, q_1_0_1, q_2_1, q_3_1, x_0_1, x_1_1, x_2_1, x_3_1, x_4_1, now_1, i_1)) w ps2 B.now at2 B.first op2 y0 y1 y2 y3 M := by
      intro B ps2 at2 op2 y1 y0 y2 y3 M RB SB hBn hBf
      unfold law22_QueryPlays_j2
      have rest : query_Queries_Open_W B.now at2 B.first op2 (fun r_11 q_now_7 qm_13 q_first_7 qm_14 => ref22_Q_Open_W y0 y1 y2 y3 M ps2 (fun r_12 ps_9 q_Now_6 q_On_6 q_At_6 q_First_6 q_L_5 => ref18_SameAsked_W r_11 r_12 (fun r_13 => ((!r_13) = true → Q false) ∧ ((!r_13) = false → (I64 ((i : Int) + 1)) ∧ (K (ps_9, q_now_7, qm_13, q_first_7, qm_14, q_Now_6, q_On_6, q_At_6, q_First_6, q_L_5, (nw + w), ((i : Int) + 1))))))) := by
        refine open_ok RB fun o1 h1 => openR_ok SB RB.lst RB.len fun o2 h2 => ?_
        have hl := told_len RB.lst h1
        refine sameAsked_ok (by have := RB.len; omega) (fun x hx => by have := hl.2 x hx; omega) (h1.trans h2.symm) ⟨fun q => (by cases q), fun _ => ⟨by (first | omega | (unfold I64; omega) | (simp only [List.length_append, List.length_cons, List.length_nil, List.length_take, List.length_drop] at *; omega) | (unfold I64; simp only [List.length_append, List.length_cons, List.length_nil, List.length_take, List.length_drop] at *; omega)), ?_⟩⟩
        exact hK (i + 1) _ rfl (by omega) (by omega) ⟨B, RB, rfl, rfl, SB, hBn, hBf, ⟨by show _ ≤ nw + w; omega, by show nw + w ≤ _; omega⟩⟩
      refine nextQ_ok RB (fun e => nextR_ok SB RB.len (fun _ => ⟨fun q => absurd rfl q, fun _ => ⟨fun q => (by cases q), fun _ => rest⟩⟩) fun u hu => by rw [e] at hu; cases hu) fun u hu hm => nextR_ok SB RB.len (fun e => by rw [e] at hu; cases hu) fun u' hu' hm' => ?_
      have : u = u' := by have a := hm u' hu'; have b := hm' u hu; omega
      subst this
      exact ⟨fun q => absurd rfl q, fun _ => ⟨fun q => (by cases q), fun _ => rest⟩⟩
    refine ⟨fun _ => ?_, fun _ => ⟨fun _ => ?_, fun _ => ⟨fun _ => ?_, fun _ => ⟨fun _ => ?_, fun _ => ?_⟩⟩⟩⟩
    · refine start_ok R ⟨by omega, by omega⟩ fun at2 R2 => startR_ok S hBd fun S2 => ?_
      exact j2 _ _ _ _ _ _ _ _ _ R2 S2 (hset _) ⟨by show _ ≤ t.1; omega, by show t.1 ≤ 7; omega⟩
    · refine stop_ok R fun R2 => ?_
      refine j2 A.stop _ _ _ _ _ _ _ _ R2 ⟨S.now, rfl, S.first, rfl, InP.nil _⟩ hnw ⟨by show _ ≤ A.first; omega, hf.2⟩
    · refine act_ok fun w' _ _ => ?_
      rw [List.take_take, Nat.min_self]
      have hs5 : ((gi acts (i : Int)).2.2.2.2.2.take 5).length ≤ 5 := by rw [List.length_take]; omega
      rw [gi_nat hil] at hs5
      obtain ⟨f1, f2⟩ := want_frame A (nw + w) t.2.2.2.2 (acts[i].2.2.1.1, acts[i].2.2.1.2) acts[i].2.2.2.1 (acts[i].2.2.2.2.2.take 5)
      refine want_ok R ⟨by omega, by omega⟩ (by omega) fun at2 op2 R2 => wantR_ok S hBd R.set R.lst R.len ⟨by omega, by omega⟩ (by omega) fun M ps2 S2 => ⟨fun q => (by simp at q), fun _ => ?_⟩
      exact j2 _ _ _ _ _ _ _ _ _ R2 S2 (by rw [f1]; exact hset _) ⟨by rw [f2]; omega, by rw [f2]; exact hf.2⟩
    · refine cancel_ok R fun at2 op2 R2 => cancelR_ok S R.set R.len fun M S2 => ⟨fun q => (by simp at q), fun _ => ?_⟩
      exact j2 (A.cancel _).2 _ _ _ _ _ _ _ _ R2 S2 hnw ⟨by show _ ≤ A.first; omega, hf.2⟩
    · obtain ⟨f1, f2, f3⟩ := due_frame A (nw + w) t
      refine due_ok R hBd ⟨by omega, by omega⟩ ⟨by omega, by omega⟩ fun o1 at2 op2 h1 R2 => dueR_ok S hBd R.lst R.len ⟨by omega, by omega⟩ ⟨by omega, by omega⟩ fun o2 ps2 M a2 h2 S2 => ⟨fun q => (by simp at q), fun _ => ?_⟩
      have hlf : ∀ o ∈ A.L.filter (fun o => decide (o.t ≤ (A.due (nw + w) t).2.2.now)), OkO o := fun o ho => R.lst o (List.mem_filter.1 ho).1
      have he : (A.due (nw + w) t).2.1 = (A.L.filter fun o => decide (o.t ≤ (A.due (nw + w) t).2.2.now)).map tldO := by
        obtain ⟨g1, _, _, _⟩ := gen_same (A.settle (nw + w)) t
        unfold Qs.due; simp only; rw [g1]; rfl
      have hl := told_len hlf (by rw [h1, he])
      have hfl : (A.L.filter fun o => decide (o.t ≤ (A.due (nw + w) t).2.2.now)).length ≤ 64 := Nat.le_trans (List.length_filter_le _ _) R.len
      refine sameAsked_ok (by omega) (fun x hx => by have := hl.2 x hx; omega) (h1.trans h2.symm) ⟨fun q => (by cases q), fun _ => ?_⟩
      exact j2 _ _ _ _ _ _ _ _ _ R2 S2 (by rw [f1]; exact hset _) ⟨by omega, by omega⟩
  · rw [decide_eq_false c24]; exact stop
end Go.Wk
