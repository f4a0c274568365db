/- Plain words: queries: the document's Want, Cancel, Due, Next, Open; QueryPlays. -/
import Derived.Test.YtfoebjicglgklaaGreatQryR
set_option linter.unusedSimpArgs false
set_option linter.unusedVariables false
set_option linter.unusedSectionVars false
namespace Go.Wk
open Go.HL
variable [DM]
variable {at_ : CM} {op : OM} {A : Qs} {now at1 first : Int} {on : Bool} {L : List On} {ps : PM}
theorem gi_mid {α : Type} [Inhabited α] (a : List α) (x : α) (b : List α) : gi (a ++ x :: b) ((a.length : Nat) : Int) = x := by
  rw [gi_nat (by simp)]; simp
theorem set_mid {α : Type} (a : List α) (x y : α) (b : List α) : (a ++ x :: b).set ((a.length : Nat) : Int).toNat y = a ++ y :: b := by
  rw [Int.toNat_natCast, List.set_append_right _ _ (Nat.le_refl _), Nat.sub_self]; rfl
theorem rdO_gs (L : List On) : gs (L.map rdO) = L.map fun x => x.1 := by unfold gs; rw [List.map_map]; rfl
theorem j5_ok {t : T_api_Tune} {Q : Bool → PM → Int → Bool → Int → Int → List On → Prop} {src : List Ad} {a b : List On} {x : On} (hin : InP (a ++ x :: b) ps) (hx : OkS x.2.2.2.2) (hc : 1 ≤ t.2.2.2.2 ∧ t.2.2.2.2 ≤ 1000) (hg : ∀ s ∈ src, aGood s = true) (hl : src.length ≤ 10000)
    (h : ∀ (y : On) (ps' : PM), rdO y = ⟨x.1, x.2.1, x.2.2.1, src.foldl (setS t.2.2.2.2) x.2.2.2.2⟩ → InP (a ++ y :: b) ps' → Q true ps' now on at1 first (a ++ y :: b)) : ref22_Q_Want_j5 t Q now on at1 first src ps (a.length : Nat) (a ++ x :: b) := by
  refine loop_by (fun s => s.2.2) src.length (fun k s => ∃ y : On, s.1 = a ++ y :: b ∧ InP (a ++ y :: b) s.2.1 ∧ rdO y = ⟨x.1, x.2.1, x.2.2.1, (src.take k).foldl (setS t.2.2.2.2) x.2.2.2.2⟩) rfl ⟨x, rfl, hin, rfl⟩ ?_
  rintro K k ⟨L1, p1, _⟩ rfl hk ⟨y, e, hI, hy⟩ hK
  have e : L1 = a ++ y :: b := e
  subst e
  simp only at hI
  show ref22_Q_Want_l2 t Q now on at1 first src _ _ (a ++ y :: b) p1 (k : Int)
  unfold ref22_Q_Want_l2
  have hyl : y.2.2.2.2 = (src.take k).foldl (setS t.2.2.2.2) x.2.2.2.2 := congrArg Oq.l hy
  refine ⟨fun c => ?_, fun c => ?_⟩
  · have hkl : k < src.length := by omega
    rw [gi_nat hkl, gi_mid]
    have hok : OkS y.2.2.2.2 := by rw [hyl]; exact OkS.fold hc _ _ hx fun s hs => hg s (List.mem_of_mem_take hs)
    refine ⟨by simp; omega, by (first | omega | (unfold I64; omega) | (simp only [List.length_append, List.length_cons, List.length_nil, List.length_take, List.length_drop] at *; omega) | (unfold I64; simp only [List.length_append, List.length_cons, List.length_nil, List.length_take, List.length_drop] at *; omega)), hI.has (by simp), setR_ok hok.len hok.set.nodup fun sv => ⟨by (first | omega | (unfold I64; omega) | (simp only [List.length_append, List.length_cons, List.length_nil, List.length_take, List.length_drop] at *; omega) | (unfold I64; simp only [List.length_append, List.length_cons, List.length_nil, List.length_take, List.length_drop] at *; omega)), ?_⟩⟩
    rw [set_mid]
    refine hK (k + 1) _ rfl (by omega) (by omega) ⟨_, rfl, hI.mid (y := (y.1, y.2.1, y.2.2.1, (sv, setS t.2.2.2.2 y.2.2.2.2 src[k]))), ?_⟩
    rw [List.take_succ_eq_append_getElem hkl, List.foldl_append, ← hyl]
    have e1 : y.1 = x.1 := congrArg Oq.g hy
    have e2 : y.2.1 = x.2.1 := congrArg Oq.t hy
    have e3 : y.2.2.1 = x.2.2.1 := congrArg Oq.n hy
    unfold rdO
    simp only [e1, e2, e3]; rfl
  · have hkl : k = src.length := by omega
    subst hkl
    rw [List.take_length] at hy
    exact h y p1 hy hI
theorem j3_ok {t : T_api_Tune} {all : Bool} {Q : Bool → PM → Int → Bool → Int → Int → List On → Prop} {src : List Ad} {a b : List On} {x : On} (hin : InP (a ++ x :: b) ps) (hx : OkS x.2.2.2.2) (hc : 1 ≤ t.2.2.2.2 ∧ t.2.2.2.2 ≤ 1000) (hg : ∀ s ∈ src, aGood s = true) (hl : src.length ≤ 10000)
    (h : ∀ (y : On) (ps' : PM), rdO y = wantO all t.2.2.2.2 now src (rdO x) → InP (a ++ y :: b) ps' → Q true ps' now on at1 first (a ++ y :: b)) : ref22_Q_Want_j3 t all Q now on at1 first src ps (a ++ x :: b) (a.length : Nat) := by
  unfold ref22_Q_Want_j3
  have hin' : ∀ y : On, y.2.2.2 = x.2.2.2 → InP (a ++ y :: b) ps := fun y e => hin.of (r := []) (by rw [List.append_nil]; unfold nst; simp only [List.map_append, List.map_cons, e]; exact List.Perm.refl _)
  rw [gi_mid, set_mid, gi_mid, set_mid]
  refine ⟨by simp; omega, fun c => ⟨by simp; omega, ?_⟩, fun c => ?_⟩
  · refine j5_ok (hin' _ rfl) hx hc hg hl fun y ps' hy hI => h y ps' ?_ hI
    rw [hy]; unfold wantO rdO; rw [if_pos c]
  · refine j5_ok (hin' _ rfl) hx hc hg hl fun y ps' hy hI => h y ps' ?_ hI
    rw [hy]; unfold wantO rdO; rw [if_neg (by rw [c]; decide)]
theorem wantR_ok {n : Int} {t : T_api_Tune} {g : Ad} {all : Bool} {src : List Ad} {Q : Bool → PM → Int → Bool → Int → Int → List On → Prop} (R : RR now on at1 first L ps A) (hA : Bd A) (hset : ASet (gs A.L)) (hlst : ∀ o ∈ A.L, OkO o) (hlen : A.L.length ≤ 64) (hc : 1 ≤ t.2.2.2.2 ∧ t.2.2.2.2 ≤ 1000) (hl : src.length ≤ 10000)
    (h : ∀ L' ps', RR (A.want n t.2.2.2.2 g all src).2.now on at1 first L' ps' (A.want n t.2.2.2.2 g all src).2 → Q (A.want n t.2.2.2.2 g all src).1 ps' (A.want n t.2.2.2.2 g all src).2.now on at1 first L') : ref22_Q_Want_W now on at1 first L n t g all src ps Q := by
  refine settleR_ok R hA fun R1 => ofR_ok (by omega) (goodR_ok ?_)
  have hB : ∀ {b : Bool}, A.want n t.2.2.2.2 g all src = (b, A.settle n) → Q b ps (A.settle n).now on at1 first L := fun e => by
    have := h L ps; rw [e] at this; exact this R1
  have hsg : ∀ a ∈ ofL src, aGood a = true := fun a ha => (mem_ofL.1 ha).2
  have hol : (ofL src).length ≤ 10000 := Nat.le_trans (ofL_len src) hl
  refine ⟨fun c => hB ?_, fun c => grpR_ok ⟨fun d => hB ?_, fun d => ?_⟩⟩
  · unfold Qs.want; simp only; rw [if_neg]; rintro ⟨q, _⟩; simp [q] at c
  · unfold Qs.want; simp only; rw [if_neg]; rintro ⟨_, q, _⟩; simp [q] at d
  · have hgood : aGood g = true := by simpa using c
    have hgrp : aGrp g = true := by simpa using d
    have main : (all = true ∨ ofL src ≠ []) → ref22_Q_Want_j1 t g all Q ps (A.settle n).now on at1 first L (ofL src) := by
      intro hall
      have hw : A.want n t.2.2.2.2 g all src = if g ∈ gs (A.settle n).L then (true, { A.settle n with L := (A.settle n).L.map fun o => if o.g = g then wantO all t.2.2.2.2 (A.settle n).now (ofL src) o else o })
          else if 64 ≤ (A.settle n).L.length then (false, A.settle n)
          else (true, { A.settle n with L := insO (A.settle n).L (wantO all t.2.2.2.2 (A.settle n).now (ofL src) ⟨g, 0, 0, []⟩) }) := by
        unfold Qs.want; simp only; rw [if_pos ⟨hgood, hgrp, hall⟩]
      have hset : ASet (gs (A.settle n).L) := hset
      have hlst : ∀ o ∈ (A.settle n).L, OkO o := hlst
      have hlen : (A.settle n).L.length ≤ 64 := hlen
      generalize A.settle n = B at hw R1 hB hset hlst hlen ⊢
      obtain ⟨_, ron, rfirst, rL, rps⟩ := R1
      have hLl : L.length = B.L.length := by rw [← rL, List.length_map]
      have hgs : gs B.L = L.map fun x => x.1 := by rw [← rL, rdO_gs]
      unfold ref22_Q_Want_j1
      refine findR_ok (by omega) (fun hno => ?_) fun i hi hig hbe => ?_
      · have hno : g ∉ gs B.L := by
          rw [hgs]; intro q
          obtain ⟨x, hx, e⟩ := List.mem_map.1 q
          exact hno x hx e
        rw [if_neg hno] at hw
        refine ⟨fun _ => ⟨fun d => ?_, fun d => ?_⟩, fun q => absurd (by decide) q⟩
        · rw [if_pos (by omega)] at hw; exact hB hw
        · rw [if_neg (by omega)] at hw
          unfold ref22_Q_Want_j2
          refine ⟨fun _ => ?_, fun q => absurd (by decide) q⟩
          refine loop_up1 L.length (fun j => ∀ x ∈ L.take j, aCmp x.1 g < 0) (by simp) ?_
          intro K j hj hJ hK
          have fin : (∀ q : j < L.length, ¬ aCmp L[j].1 g < 0) → ref22_Q_Want_j4 t g all Q B.now on at1 first L (ofL src) ps (j : Int) := by
            intro h2
            have hs := span_at (fun p : Oq => decide (aCmp p.g g < 0)) B.L (i := j) (by omega)
              (fun o ho => by
                rw [← rL, ← List.map_take] at ho
                obtain ⟨x, hx, rfl⟩ := List.mem_map.1 ho
                exact decide_eq_true (hJ x hx))
              (fun q => by
                have q' : j < L.length := by omega
                have : B.L[j] = rdO L[j] := by
                  have : (L.map rdO)[j]'(by simpa using q') = rdO L[j] := by simp
                  rw [← this]; congr 1; exact rL.symm
                rw [this]; exact decide_eq_false (h2 q'))
            unfold ref22_Q_Want_j4
            have e1 : ((([] : List On) ++ cut L 0 (j : Int)) ++ ([(g, 0, 0, ((none, 0, 0), []))] : List On)) ++ cut L (j : Int) (L.length : Int) = L.take j ++ (g, 0, 0, ((none, 0, 0), [])) :: L.drop j := by
              rw [cut0n, cutn]; simp
            have hlt : (L.take j).length = j := by rw [List.length_take]; omega
            have hld : (L.drop j).length = L.length - j := List.length_drop ..
            refine ⟨by (first | omega | (unfold I64; omega) | (simp only [List.length_append, List.length_cons, List.length_nil, List.length_take, List.length_drop] at *; omega) | (unfold I64; simp only [List.length_append, List.length_cons, List.length_nil, List.length_take, List.length_drop] at *; omega)), by (first | omega | (unfold I64; omega) | (simp only [List.length_append, List.length_cons, List.length_nil, List.length_take, List.length_drop] at *; omega) | (unfold I64; simp only [List.length_append, List.length_cons, List.length_nil, List.length_take, List.length_drop] at *; omega)), by rw [cut0n, hlt]; simp; omega, by rw [cut0n]; simp [hlt]; omega, by (first | omega | (unfold I64; omega) | (simp only [List.length_append, List.length_cons, List.length_nil, List.length_take, List.length_drop] at *; omega) | (unfold I64; simp only [List.length_append, List.length_cons, List.length_nil, List.length_take, List.length_drop] at *; omega)), by rw [cut0n, cutn]; simp [hlt, hld]; omega, ?_⟩
            rw [e1]
            have hj3 := j3_ok (ps := ps) (now := B.now) (on := on) (at1 := at1) (first := first) (all := all) (t := t) (Q := Q) (src := ofL src) (a := L.take j) (b := L.drop j) (x := (g, 0, 0, ((none, 0, 0), []))) (rps.of (r := []) (by
              have e2 : nst (L.take j ++ (g, 0, 0, ((none, 0, 0), [])) :: L.drop j) = nst L := by rw [nst_app, nst_cons, if_pos rfl, List.nil_append, ← nst_app, List.take_append_drop]
              rw [List.append_nil, e2])) ⟨ASet.nil, by simp, by simp⟩ hc hsg hol
              fun y ps' hy hI => ?_
            · rw [hlt] at hj3; exact hj3
            · have hq := h (L.take j ++ y :: L.drop j) ps'
              rw [hw] at hq
              refine hq ⟨rfl, ron, rfirst, ?_, hI⟩
              show _ = insO B.L (wantO all t.2.2.2.2 B.now (ofL src) ⟨g, 0, 0, []⟩)
              unfold insO
              have hwg : (wantO all t.2.2.2.2 B.now (ofL src) ⟨g, 0, 0, []⟩).g = g := rfl
              rw [hwg, hs.1, hs.2, ← rL, List.map_append, List.map_cons, hy, List.map_take, List.map_drop]; rfl
          show ref22_Q_Want_l1 _ _ _ _ _ _ _ _ _ _ _ _ _
          unfold ref22_Q_Want_l1
          refine ⟨fun c2 => ?_, fun c2 => fin fun q => absurd q (by omega)⟩
          have hjl : j < L.length := by omega
          rw [gi_nat hjl]
          refine ⟨by (first | omega | (unfold I64; omega) | (simp only [List.length_append, List.length_cons, List.length_nil, List.length_take, List.length_drop] at *; omega) | (unfold I64; simp only [List.length_append, List.length_cons, List.length_nil, List.length_take, List.length_drop] at *; omega)), cmpR_ok ⟨fun d2 => ⟨by (first | omega | (unfold I64; omega) | (simp only [List.length_append, List.length_cons, List.length_nil, List.length_take, List.length_drop] at *; omega) | (unfold I64; simp only [List.length_append, List.length_cons, List.length_nil, List.length_take, List.length_drop] at *; omega)), hK (j + 1) (by omega) (by omega) fun x hx => ?_⟩, fun d2 => fin fun _ => d2⟩⟩
          rw [List.take_succ_eq_append_getElem hjl] at hx
          rcases List.mem_append.1 hx with hx | hx
          · exact hJ x hx
          · rw [List.mem_singleton] at hx; subst hx; exact d2
      · have hmem : L[i] ∈ L := List.getElem_mem hi
        have hin : g ∈ gs B.L := by rw [hgs]; exact List.mem_map.2 ⟨L[i], hmem, hig⟩
        rw [if_pos hin] at hw
        refine ⟨fun q => absurd q (by omega), fun _ => ?_⟩
        unfold ref22_Q_Want_j2
        refine ⟨fun q => absurd q (by omega), fun _ => ?_⟩
        have hsplit : L = L.take i ++ L[i] :: L.drop (i + 1) := by
          conv => lhs; rw [← List.take_append_drop i L, List.drop_eq_getElem_cons hi]
        have hlt : (L.take i).length = i := by rw [List.length_take]; omega
        have hBL : B.L = (L.take i).map rdO ++ rdO L[i] :: (L.drop (i + 1)).map rdO := by
          rw [← rL]; conv => lhs; rw [hsplit]
          rw [List.map_append, List.map_cons]
        have hoko := hlst (rdO L[i]) (by rw [hBL]; simp)
        have hj3 := j3_ok (ps := ps) (now := B.now) (on := on) (at1 := at1) (first := first) (all := all) (t := t) (Q := Q) (src := ofL src) (a := L.take i) (b := L.drop (i + 1)) (x := L[i]) (by rw [← hsplit]; exact rps) ⟨hoko.set, hoko.len, hoko.v⟩ hc hsg hol
          fun y ps' hy hI => ?_
        · rw [hlt, ← hsplit] at hj3; exact hj3
        · have hq := h (L.take i ++ y :: L.drop (i + 1)) ps'
          rw [hw] at hq
          refine hq ⟨rfl, ron, rfirst, ?_, hI⟩
          show _ = B.L.map fun o => if o.g = g then wantO all t.2.2.2.2 B.now (ofL src) o else o
          rw [hBL] at hset ⊢
          have hgg : (rdO L[i]).g = g := hig
          rw [← hgg, map_mid hset, List.map_append, List.map_cons, hy]
    refine ⟨fun e => ⟨fun f => hB ?_, fun f => main (.inr fun q => f (by rw [q]; rfl))⟩, fun e => main (.inl (by simpa using e))⟩
    unfold Qs.want; simp only; rw [if_neg]
    rintro ⟨_, _, q | q⟩
    · simp [q] at e
    · exact q (List.length_eq_zero_iff.1 (by omega))
theorem cancelR_ok {g : Ad} {Q : Bool → PM → Int → Bool → Int → Int → List On → Prop} (R : RR now on at1 first L ps A) (hset : ASet (gs A.L)) (hlen : A.L.length ≤ 64)
    (h : ∀ L', RR now on at1 first L' ps (A.cancel g).2 → Q (A.cancel g).1 ps now on at1 first L') : ref22_Q_Cancel_W now on at1 first L g ps Q := by
  obtain ⟨rnow, ron, rfirst, rL, rps⟩ := R
  have hLl : L.length = A.L.length := by rw [← rL, List.length_map]
  have hgs : gs A.L = L.map fun x => x.1 := by rw [← rL, rdO_gs]
  unfold ref22_Q_Cancel_W
  refine findR_ok (by omega) (fun hno => ?_) fun i hi hig hbe => ?_
  · have hno : g ∉ gs A.L := by
      rw [hgs]; intro q
      obtain ⟨x, hx, e⟩ := List.mem_map.1 q
      exact hno x hx e
    refine ⟨fun _ => ?_, fun q => absurd (by decide) q⟩
    have e1 : (A.cancel g).1 = false := decide_eq_false hno
    have hq := h L
    rw [e1] at hq
    refine hq ⟨rnow, ron, rfirst, ?_, rps⟩
    show _ = A.L.filter _
    rw [List.filter_eq_self.2, rL]
    intro o ho
    exact decide_eq_true fun e => hno (by rw [← e]; exact List.mem_map.2 ⟨o, ho, rfl⟩)
  · have hmem : L[i] ∈ L := List.getElem_mem hi
    have hin : g ∈ gs A.L := by rw [hgs]; exact List.mem_map.2 ⟨L[i], hmem, hig⟩
    have hsplit : L = L.take i ++ L[i] :: L.drop (i + 1) := by
      conv => lhs; rw [← List.take_append_drop i L, List.drop_eq_getElem_cons hi]
    have hlt : (L.take i).length = i := by rw [List.length_take]; omega
    have hld : (L.drop (i + 1)).length = L.length - (i + 1) := List.length_drop ..
    have hAL : A.L = (L.take i).map rdO ++ rdO L[i] :: (L.drop (i + 1)).map rdO := by
      rw [← rL]; conv => lhs; rw [hsplit]
      rw [List.map_append, List.map_cons]
    have ec : cut L ((i : Int) + 1) (L.length : Int) = L.drop (i + 1) := cutn L (i + 1)
    refine ⟨fun q => absurd q (by omega), fun _ => ⟨by (first | omega | (unfold I64; omega) | (simp only [List.length_append, List.length_cons, List.length_nil, List.length_take, List.length_drop] at *; omega) | (unfold I64; simp only [List.length_append, List.length_cons, List.length_nil, List.length_take, List.length_drop] at *; omega)), by (first | omega | (unfold I64; omega) | (simp only [List.length_append, List.length_cons, List.length_nil, List.length_take, List.length_drop] at *; omega) | (unfold I64; simp only [List.length_append, List.length_cons, List.length_nil, List.length_take, List.length_drop] at *; omega)), by (first | omega | (unfold I64; omega) | (simp only [List.length_append, List.length_cons, List.length_nil, List.length_take, List.length_drop] at *; omega) | (unfold I64; simp only [List.length_append, List.length_cons, List.length_nil, List.length_take, List.length_drop] at *; omega)), by (first | omega | (unfold I64; omega) | (simp only [List.length_append, List.length_cons, List.length_nil, List.length_take, List.length_drop] at *; omega) | (unfold I64; simp only [List.length_append, List.length_cons, List.length_nil, List.length_take, List.length_drop] at *; omega)), by rw [cut0n, hlt]; simp; omega, by (first | omega | (unfold I64; omega) | (simp only [List.length_append, List.length_cons, List.length_nil, List.length_take, List.length_drop] at *; omega) | (unfold I64; simp only [List.length_append, List.length_cons, List.length_nil, List.length_take, List.length_drop] at *; omega)), by rw [cut0n, ec]; simp [hlt, hld]; omega, ?_⟩⟩
    rw [cut0n, ec, List.nil_append]
    have e1 : (A.cancel g).1 = true := decide_eq_true hin
    have hq := h (L.take i ++ L.drop (i + 1))
    rw [e1] at hq
    refine hq ⟨rnow, ron, rfirst, ?_, ?_⟩
    · show _ = A.L.filter fun o => decide (o.g ≠ g)
      rw [hAL] at hset ⊢
      have hgg : (rdO L[i]).g = g := hig
      rw [← hgg, filter_mid hset, List.map_append]
    · refine rps.of (r := nst [L[i]]) ?_
      conv => lhs; rw [hsplit]
      rw [nst_app, show L[i] :: L.drop (i + 1) = [L[i]] ++ L.drop (i + 1) from rfl, nst_app, nst_app, List.append_assoc]
      exact List.Perm.append_left _ List.perm_append_comm
theorem askedR_ok {g : Ad} {t n : Int} {l : SM} {Q : Bool → Ba 16 → Bool → List Ad → Prop} (hl : l.length ≤ 64) (h : Q g.1 g.2 (decide (0 < n)) (l.map Prod.fst)) : ref22_asked_W g t n l Q := by
  refine loop_up l.length (fun i s => s = (l.take i).map Prod.fst) rfl ?_
  intro K i s hi hs hK
  have hsl : s.length = i := by rw [hs, List.length_map, List.length_take]; omega
  show ref22_asked_l1 _ _ _ _ _ s (i : Int)
  unfold ref22_asked_l1
  refine ⟨fun c => ?_, fun c => ?_⟩
  · have hil : i < l.length := by omega
    rw [gi_nat hil]
    refine ⟨by (first | omega | (unfold I64; omega) | (simp only [List.length_append, List.length_cons, List.length_nil, List.length_take, List.length_drop] at *; omega) | (unfold I64; simp only [List.length_append, List.length_cons, List.length_nil, List.length_take, List.length_drop] at *; omega)), by simp; omega, by (first | omega | (unfold I64; omega) | (simp only [List.length_append, List.length_cons, List.length_nil, List.length_take, List.length_drop] at *; omega) | (unfold I64; simp only [List.length_append, List.length_cons, List.length_nil, List.length_take, List.length_drop] at *; omega)), hK (i + 1) _ (by omega) (by omega) ?_⟩
    rw [List.take_succ_eq_append_getElem hil, List.map_append, ← hs]; rfl
  · have hil : i = l.length := by omega
    subst hil
    rw [hs, List.take_length]; exact h
theorem openR_ok {Q : List T_api_Asked → PM → Int → Bool → Int → Int → List On → Prop} (R : RR now on at1 first L ps A) (hlst : ∀ o ∈ A.L, OkO o) (hlen : A.L.length ≤ 64)
    (h : ∀ out : List T_api_Asked, out.map rdAsk = A.L.map tldO → Q out ps now on at1 first L) : ref22_Q_Open_W now on at1 first L ps Q := by
  obtain ⟨rnow, ron, rfirst, rL, rps⟩ := R
  have hLl : L.length = A.L.length := by rw [← rL, List.length_map]
  refine loop_up L.length (fun i s => s.map rdAsk = (L.take i).map fun x => tldO (rdO x)) rfl ?_
  intro K i s hi hs hK
  have hsl : s.length = i := by
    have := congrArg List.length hs
    simp only [List.length_map, List.length_take] at this; omega
  show ref22_Q_Open_l1 _ _ _ _ _ _ _ _ s (i : Int)
  unfold ref22_Q_Open_l1
  refine ⟨fun c => ?_, fun c => ?_⟩
  · have hil : i < L.length := by omega
    rw [gi_nat hil]
    have hmem : L[i] ∈ L := List.getElem_mem hil
    have hok := hlst (rdO L[i]) (by rw [← rL]; exact List.mem_map.2 ⟨_, hmem, rfl⟩)
    refine ⟨by (first | omega | (unfold I64; omega) | (simp only [List.length_append, List.length_cons, List.length_nil, List.length_take, List.length_drop] at *; omega) | (unfold I64; simp only [List.length_append, List.length_cons, List.length_nil, List.length_take, List.length_drop] at *; omega)), rps.has hmem, askedR_ok hok.len fun v => ⟨by simp; omega, by (first | omega | (unfold I64; omega) | (simp only [List.length_append, List.length_cons, List.length_nil, List.length_take, List.length_drop] at *; omega) | (unfold I64; simp only [List.length_append, List.length_cons, List.length_nil, List.length_take, List.length_drop] at *; omega)), hK (i + 1) _ (by omega) (by omega) ?_⟩⟩
    rw [List.take_succ_eq_append_getElem hil, List.map_append, List.map_append, hs]; rfl
  · have hil : i = L.length := by omega
    subst hil
    rw [List.take_length] at hs
    refine h s ?_
    rw [hs, ← rL, List.map_map]; rfl
theorem nextR_ok {Q : Int → Bool → PM → Prop} (R : RR now on at1 first L ps A) (hlen : A.L.length ≤ 64) (h0 : A.times = [] → Q 0 false ps) (h1 : ∀ t ∈ A.times, (∀ u ∈ A.times, t ≤ u) → Q t true ps) : ref22_Q_Next_W now on at1 first L ps Q := by
  obtain ⟨rnow, ron, rfirst, rL, rps⟩ := R
  have hLl : L.length = A.L.length := by rw [← rL, List.length_map]
  have ht : A.times = A.on.toList ++ L.map fun x => x.2.1 := by
    unfold Qs.times; rw [← rL, List.map_map]; rfl
  rw [ht] at h0 h1
  have main : ∀ n : Int, ((A.on = none ∧ on = false ∧ n = 0) ∨ (A.on = some n ∧ on = true)) → ref22_Q_Next_j1 on L ps Q n := by
    intro n hn
    refine loop_by (fun s => s.2.2) L.length (fun i s => (A.on.toList ++ (L.take i).map (fun x => x.2.1) = [] ∧ s.2.1 = false ∧ s.1 = 0) ∨ (s.2.1 = true ∧ s.1 ∈ A.on.toList ++ (L.take i).map (fun x => x.2.1) ∧ ∀ u ∈ A.on.toList ++ (L.take i).map (fun x => x.2.1), s.1 ≤ u)) rfl ?_ ?_
    · rcases hn with ⟨e1, e2, e3⟩ | ⟨e1, e2⟩
      · left; rw [e1]; exact ⟨rfl, e2, e3⟩
      · right; rw [e1]; exact ⟨e2, by simp, by simp⟩
    · rintro K i ⟨m, is, _⟩ rfl hi hI hK
      simp only at hI
      show ref22_Q_Next_l1 _ _ _ _ m is (i : Int)
      unfold ref22_Q_Next_l1
      refine ⟨fun c => ?_, fun c => ?_⟩
      · have hil : i < L.length := by omega
        have htk : (L.take (i + 1)).map (fun x => x.2.1) = (L.take i).map (fun x => x.2.1) ++ [L[i].2.1] := by
          rw [List.take_succ_eq_append_getElem hil, List.map_append]; rfl
        have j2 : ∀ b : Bool, (b = true → ∀ u ∈ A.on.toList ++ (L.take i).map (fun x => x.2.1), L[i].2.1 ≤ u) → (b = false → is = true ∧ m ≤ L[i].2.1) → ref22_Q_Next_j2 L m is (i : Int) (fun n_2 is_1 i_1 => K (n_2, is_1, i_1)) b := by
          intro b hb1 hb2
          unfold ref22_Q_Next_j2
          rw [gi_nat hil]
          refine ⟨fun q => ⟨by (first | omega | (unfold I64; omega) | (simp only [List.length_append, List.length_cons, List.length_nil, List.length_take, List.length_drop] at *; omega) | (unfold I64; simp only [List.length_append, List.length_cons, List.length_nil, List.length_take, List.length_drop] at *; omega)), by (first | omega | (unfold I64; omega) | (simp only [List.length_append, List.length_cons, List.length_nil, List.length_take, List.length_drop] at *; omega) | (unfold I64; simp only [List.length_append, List.length_cons, List.length_nil, List.length_take, List.length_drop] at *; omega)), hK (i + 1) _ rfl (by omega) (by omega) (.inr ⟨rfl, ?_, ?_⟩)⟩, fun q => ⟨by (first | omega | (unfold I64; omega) | (simp only [List.length_append, List.length_cons, List.length_nil, List.length_take, List.length_drop] at *; omega) | (unfold I64; simp only [List.length_append, List.length_cons, List.length_nil, List.length_take, List.length_drop] at *; omega)), hK (i + 1) _ rfl (by omega) (by omega) (.inr ?_)⟩⟩
          · rw [htk]; simp
          · intro u hu
            rw [htk, ← List.append_assoc] at hu
            rcases List.mem_append.1 hu with hu | hu
            · exact hb1 q u hu
            · rw [List.mem_singleton] at hu; subst hu; exact Int.le_refl _
          · obtain ⟨q1, q2⟩ := hb2 q
            rcases hI with ⟨_, e, _⟩ | ⟨_, h3, h4⟩
            · rw [e] at q1; cases q1
            · refine ⟨q1, ?_, ?_⟩
              · rw [htk, ← List.append_assoc]; exact List.mem_append.2 (.inl h3)
              · intro u hu
                rw [htk, ← List.append_assoc] at hu
                rcases List.mem_append.1 hu with hu | hu
                · exact h4 u hu
                · rw [List.mem_singleton] at hu; subst hu; exact q2
        rw [gi_nat hil]
        refine ⟨fun d => j2 true (fun _ u hu => ?_) (fun q => by cases q), fun d => ⟨by (first | omega | (unfold I64; omega) | (simp only [List.length_append, List.length_cons, List.length_nil, List.length_take, List.length_drop] at *; omega) | (unfold I64; simp only [List.length_append, List.length_cons, List.length_nil, List.length_take, List.length_drop] at *; omega)), j2 _ (fun q u hu => ?_) (fun q => ?_)⟩⟩
        · rcases hI with ⟨e, _⟩ | ⟨e, _⟩
          · rw [e] at hu; cases hu
          · rw [e] at d; cases d
        · have q := of_decide_eq_true q
          rcases hI with ⟨e, e2, _⟩ | ⟨_, _, h4⟩
          · rw [e2] at d; cases d
          · have := h4 u hu; omega
        · have q := of_decide_eq_false q
          exact ⟨by simpa using d, by omega⟩
      · have hil : i = L.length := by omega
        subst hil
        rw [List.take_length] at hI
        rcases hI with ⟨e, e2, e3⟩ | ⟨e2, h3, h4⟩
        · have e2 : is = false := e2
          have e3 : m = 0 := e3
          subst e2; subst e3; exact h0 e
        · have e2 : is = true := e2
          subst e2; exact h1 m h3 h4
  refine ⟨fun c => main 0 ?_, fun c => main at1 ?_⟩
  · have : on = false := by simpa using c
    left; rw [ron, this]; exact ⟨rfl, rfl, rfl⟩
  · have : on = true := by simpa using c
    right; rw [ron, this]; exact ⟨rfl, rfl⟩
theorem sameAsked_ok {a b : List T_api_Asked} {Q : Bool → Prop} (hl : a.length ≤ 1000) (hs : ∀ x ∈ a, x.2.2.2.length ≤ 1000) (e : a.map rdAsk = b.map rdAsk) (h : Q true) : ref18_SameAsked_W a b Q := by
  have hlen : a.length = b.length := by have := congrArg List.length e; simpa using this
  have hel : ∀ i (h1 : i < a.length) (h2 : i < b.length), a[i].1 = b[i].1 ∧ a[i].2.1 = b[i].2.1 ∧ a[i].2.2.2 = b[i].2.2.2 := fun i h1 h2 => by
    have h3 : (a.map rdAsk)[i]'(by simpa using h1) = (b.map rdAsk)[i]'(by simpa using h2) := by simp only [e]
    simp only [List.getElem_map] at h3
    exact ⟨congrArg (fun z => z.1) h3, congrArg (fun z => z.2.1) h3, congrArg (fun z => z.2.2) h3⟩
  refine ⟨fun c => absurd (by omega) c, fun _ => ?_⟩
  refine loop_up1 a.length (fun _ => True) trivial ?_
  intro K i hi _ hK
  show ref18_SameAsked_l1 _ _ _ _ _
  unfold ref18_SameAsked_l1
  refine ⟨fun c => ?_, fun c => h⟩
  have h1 : i < a.length := by omega
  have h2 : i < b.length := by omega
  obtain ⟨e1, e2, e3⟩ := hel i h1 h2
  rw [gi_nat h1, gi_nat h2, e1, e2, e3]
  refine ⟨by (first | omega | (unfold I64; omega) | (simp only [List.length_append, List.length_cons, List.length_nil, List.length_take, List.length_drop] at *; omega) | (unfold I64; simp only [List.length_append, List.length_cons, List.length_nil, List.length_take, List.length_drop] at *; omega)), by (first | omega | (unfold I64; omega) | (simp only [List.length_append, List.length_cons, List.length_nil, List.length_take, List.length_drop] at *; omega) | (unfold I64; simp only [List.length_append, List.length_cons, List.length_nil, List.length_take, List.length_drop] at *; omega)), fun q => absurd rfl q, fun _ => ⟨fun q => by simp at q, fun _ => ?_⟩⟩
  unfold ref18_SameAsked_j1
  refine ⟨fun q => by simp at q, fun _ => ?_⟩
  have hsl := hs a[i] (List.getElem_mem h1)
  refine loop_up1 a[i].2.2.2.length (fun _ => True) trivial ?_
  intro K2 k hk _ hK2
  show ref18_SameAsked_l2 _ _ _ _ _ _ _
  unfold ref18_SameAsked_l2
  rw [gi_nat h1, gi_nat h2, e3]
  rw [e3] at hk hsl hK2
  refine ⟨by (first | omega | (unfold I64; omega) | (simp only [List.length_append, List.length_cons, List.length_nil, List.length_take, List.length_drop] at *; omega) | (unfold I64; simp only [List.length_append, List.length_cons, List.length_nil, List.length_take, List.length_drop] at *; omega)), fun q => ⟨by (first | omega | (unfold I64; omega) | (simp only [List.length_append, List.length_cons, List.length_nil, List.length_take, List.length_drop] at *; omega) | (unfold I64; simp only [List.length_append, List.length_cons, List.length_nil, List.length_take, List.length_drop] at *; omega)), by (first | omega | (unfold I64; omega) | (simp only [List.length_append, List.length_cons, List.length_nil, List.length_take, List.length_drop] at *; omega) | (unfold I64; simp only [List.length_append, List.length_cons, List.length_nil, List.length_take, List.length_drop] at *; omega)), by (first | omega | (unfold I64; omega) | (simp only [List.length_append, List.length_cons, List.length_nil, List.length_take, List.length_drop] at *; omega) | (unfold I64; simp only [List.length_append, List.length_cons, List.length_nil, List.length_take, List.length_drop] at *; omega)), fun z => absurd rfl z, fun _ => ⟨by (first | omega | (unfold I64; omega) | (simp only [List.length_append, List.length_cons, List.length_nil, List.length_take, List.length_drop] at *; omega) | (unfold I64; simp only [List.length_append, List.length_cons, List.length_nil, List.length_take, List.length_drop] at *; omega)), hK2 (k + 1) (by omega) (by omega) trivial⟩⟩, fun _ => ⟨by (first | omega | (unfold I64; omega) | (simp only [List.length_append, List.length_cons, List.length_nil, List.length_take, List.length_drop] at *; omega) | (unfold I64; simp only [List.length_append, List.length_cons, List.length_nil, List.length_take, List.length_drop] at *; omega)), hK (i + 1) (by omega) (by omega) trivial⟩⟩
end Go.Wk
