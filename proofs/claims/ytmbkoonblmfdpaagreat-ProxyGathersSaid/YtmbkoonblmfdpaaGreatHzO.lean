/- Plain words: the law ProxyGathers. -/
import Derived.Test.YtmbkoonblmfdpaaGreatHzN
set_option linter.unusedSimpArgs false
set_option linter.unusedVariables false
set_option linter.unusedSectionVars false
namespace Go.Wk
open Go.HL
variable [DM]
theorem bares {L M : List Wt} (h : L.map bw = M.map bw) (g : Ad) : (flt L g).map bare = (flt M g).map bare := by
  have key : ∀ K : List Wt, (flt K g).map bare = ((K.map bw).filter fun b => decide (b.1 = g)).map fun b => b.2 := by
    intro K
    induction K with
    | nil => rfl
    | cons w K ih =>
      unfold flt at ih ⊢
      by_cases e : w.1 = g
      · rw [List.filter_cons, if_pos (by simpa using e), List.map_cons, List.map_cons, ih, List.map_cons, List.filter_cons, if_pos (show decide ((bw w).1 = g) = true from decide_eq_true e)]; rfl
      · rw [List.filter_cons, if_neg (by simpa using e), ih, List.map_cons, List.filter_cons, if_neg (show ¬ decide ((bw w).1 = g) = true from fun z => e (of_decide_eq_true z))]
  rw [key, key, h]
theorem allS_bare {l m : List Fi} (h : l.map bare = m.map bare) : allS l = allS m := by
  have e : ∀ k : List Fi, (k.flatMap fun f => f.2.2) = (k.map bare).flatMap fun b => b.2 := by
    intro k; rw [List.flatMap_map]; rfl
  unfold allS; rw [e, e, h]
theorem gth_congr {L M : List Wt} (h : L.map bw = M.map bw) (g : Ad) : gth L g = gth M g := by
  unfold gth; rw [bares h g, allS_bare (bares h g)]
theorem gatherL_congr {L M : List Wt} (h : L.map bw = M.map bw) : gatherL L = gatherL M := by
  have e : L.map (fun w => w.1) = M.map fun w => w.1 := by
    have := congrArg (List.map fun b : Wb => b.1) h
    rw [List.map_map, List.map_map] at this; exact this
  unfold gatherL; rw [e]
  congr 1
  exact List.map_congr_left fun g _ => gth_congr h g
theorem in_iff {l : List Ad} {x : Ad} : aIn l x = true ↔ x ∈ l := by unfold aIn; simp
def letW (g x : Ad) (b : Wb) : Bool := decide (b.1 = g) && letsB b.2 x
theorem lets_all {l : List Fi} (hg : Goods l) (x : Ad) : letsB (exB (l.map bare), allS l) x = anyB (l.map bare) x := by
  have e : aIn (allS l) x = inB (l.map bare) x := by
    rw [Bool.eq_iff_iff, in_iff]
    unfold allS; rw [List.mem_filter, mem_ofL]
    refine ⟨fun q => q.2, fun q => ⟨?_, q⟩⟩
    have : ∃ f ∈ l, x ∈ f.2.2 := by
      cases c : exB (l.map bare) with
      | false => obtain ⟨f, a, _, b⟩ := (inB0 c).1 q; exact ⟨f, a, b⟩
      | true =>
        obtain ⟨f, a, b⟩ := exB_iff.1 c
        exact ⟨f, a, ((inB1 c).1 q).1 f a b⟩
    obtain ⟨f, hf, hx⟩ := this
    exact ⟨List.mem_flatMap.2 ⟨f, hf, hx⟩, (hg.set f hf).1.good x hx⟩
  unfold letsB; show (!(aIn (allS l) x == exB (l.map bare))) = _
  rw [e]; unfold inB
  cases anyB (l.map bare) x <;> cases exB (l.map bare) <;> rfl
theorem any_flt (L : List Wt) (g x : Ad) : L.any (fun w => letW g x (bw w)) = anyB ((flt L g).map bare) x := by
  induction L with
  | nil => rfl
  | cons w L ih =>
    rw [List.any_cons, ih]
    have e : flt (w :: L) g = (if w.1 = g then [w.2] else []) ++ flt L g := by
      unfold flt; rw [List.filter_cons]
      by_cases q : w.1 = g <;> simp [q]
    rw [e]
    by_cases q : w.1 = g
    · rw [if_pos q]; unfold letW anyB; simp [bw, bare, q]
    · rw [if_neg q]; unfold letW; simp [bw, q]
theorem any_gather {L : List Wt} (hg : GoodW L) (g x : Ad) : (gatherL L).any (letW g x) = L.any fun w => letW g x (bw w) := by
  rw [any_flt]
  by_cases hm : g ∈ ofL (L.map fun w => w.1)
  · have hl := lets_all (hg.goods g) x
    rw [Bool.eq_iff_iff, List.any_eq_true]
    unfold gatherL
    constructor
    · rintro ⟨b, hb, hx⟩
      obtain ⟨h1, _⟩ := List.mem_filter.1 hb
      obtain ⟨k, _, rfl⟩ := List.mem_map.1 h1
      unfold letW at hx; rw [Bool.and_eq_true] at hx
      have ek : k = g := of_decide_eq_true hx.1
      subst ek
      rw [← hl]; exact hx.2
    · intro hx
      refine ⟨gth L g, List.mem_filter.2 ⟨List.mem_map.2 ⟨g, hm, rfl⟩, ?_⟩, ?_⟩
      · rw [← hl] at hx
        cases c : nn (gth L g) with
        | true => rfl
        | false =>
          have c' : noneB (exB ((flt L g).map bare)) (allS (flt L g)) = true := by unfold nn gth at c; simpa using c
          unfold noneB at c'
          rw [Bool.and_eq_true] at c'
          have a1 : exB ((flt L g).map bare) = false := by simpa using c'.1
          have a2 : allS (flt L g) = [] := by have := of_decide_eq_true c'.2; exact List.length_eq_zero_iff.1 (by omega)
          rw [a1, a2] at hx; cases hx
      · unfold letW; rw [Bool.and_eq_true]; exact ⟨decide_eq_true rfl, by rw [← hl] at hx; exact hx⟩
  · have e1 : flt L g = [] := by
      unfold flt
      rw [List.filter_eq_nil_iff.2]
      · rfl
      · intro w hw q
        have q' : w.1 = g := by simpa using q
        exact hm (mem_ofL.2 ⟨List.mem_map.2 ⟨w, hw, q'⟩, by rw [← q']; exact hg.good w hw⟩)
    rw [e1]
    have e2 : (gatherL L).any (letW g x) = false := by
      rw [List.any_eq_false]
      intro b hb
      unfold gatherL at hb
      obtain ⟨h1, _⟩ := List.mem_filter.1 hb
      obtain ⟨k, hk, rfl⟩ := List.mem_map.1 h1
      unfold letW
      have : k ≠ g := fun z => hm (z ▸ hk)
      have : decide ((gth L k).1 = g) = false := decide_eq_false this
      rw [this]; simp
    rw [e2]; rfl
theorem good_own (a : Ad) : aGood (ownA a) = true := by
  have := ownA_good a
  unfold goodA at this
  unfold aGood
  rcases this with e | e
  · rw [e]; rfl
  · rw [Bool.or_eq_true]; exact .inr (decide_eq_true e)
structure FW (L : List Wt) : Prop where
  all : ∀ w ∈ L, ASet w.2.2.2 ∧ w.2.2.2.length ≤ 6
theorem few_wants {L : List Wt} (h : FW L) {n : Nat} (hn : L.length ≤ n) : (L.take n).map fewW = L.map bw := by
  rw [List.take_of_length_le hn]
  refine List.map_congr_left fun w hw => ?_
  have := h.all w hw
  unfold fewW bw; rw [List.take_of_length_le this.2, ofL_id this.1]
theorem FW.congr {L M : List Wt} (h : FW L) (e : M.map bw = L.map bw) : FW M := ⟨fun w hw => by
  have : bw w ∈ L.map bw := by rw [← e]; exact List.mem_map_of_mem hw
  obtain ⟨v, hv, ev⟩ := List.mem_map.1 this
  have e2 : v.2.2.2 = w.2.2.2 := congrArg (fun z : Wb => z.2.2) ev
  rw [← e2]; exact h.all v hv⟩
theorem FW.few {L M : List Wt} {n : Nat} (e : M.map bw = (L.take n).map fewW) : FW M := ⟨fun w hw => by
  have : bw w ∈ (L.take n).map fewW := by rw [← e]; exact List.mem_map_of_mem hw
  obtain ⟨v, hv, ev⟩ := List.mem_map.1 this
  have e2 : ofL (v.2.2.2.take 6) = w.2.2.2 := congrArg (fun z : Wb => z.2.2) ev
  rw [← e2]; exact ⟨ofL_set _, Nat.le_trans (ofL_len _) (by rw [List.length_take]; omega)⟩⟩
theorem same24_ok {a b : List Wt} {Q : Bool → Prop} (h : a.map bw = b.map bw) (hl : a.length ≤ 1000) (hs : ∀ w ∈ a, w.2.2.2.length ≤ 1000) (hQ : Q true) : ref24_Same_W a b Q := by
  have hlen : a.length = b.length := by have := congrArg List.length h; simpa using this
  refine ⟨fun c => absurd (by omega) c, fun _ => loop_up1 a.length (fun _ => True) trivial fun K i hi _ hK => ?_⟩
  show ref24_Same_l1 a b Q _ (i : Int)
  unfold ref24_Same_l1
  refine ⟨fun c => ⟨by (first | omega | (unfold I64; omega) | (simp only [List.length_append, List.length_cons, List.length_nil, List.length_take, List.length_drop] at *; omega) | (unfold I64; simp only [List.length_append, List.length_cons, List.length_nil, List.length_take, List.length_drop] at *; omega)), by (first | omega | (unfold I64; omega) | (simp only [List.length_append, List.length_cons, List.length_nil, List.length_take, List.length_drop] at *; omega) | (unfold I64; simp only [List.length_append, List.length_cons, List.length_nil, List.length_take, List.length_drop] at *; omega)), ?_⟩, fun _ => hQ⟩
  have i1 : i < a.length := by omega
  have i2 : i < b.length := by omega
  rw [gi_nat i1, gi_nat i2]
  have e : bw a[i] = bw b[i] := by
    have := congrArg (fun z => z[i]?) h
    simp only [List.getElem?_map, List.getElem?_eq_getElem i1, List.getElem?_eq_getElem i2, Option.map_some, Option.some.injEq] at this
    exact this
  have e1 : a[i].1 = b[i].1 := congrArg (fun z : Wb => z.1) e
  have e2 : a[i].2.1 = b[i].2.1 := congrArg (fun z : Wb => z.2.1) e
  have e3 : a[i].2.2.2 = b[i].2.2.2 := congrArg (fun z : Wb => z.2.2) e
  have := hs _ (List.getElem_mem i1)
  refine ⟨fun q => absurd e1 q, fun _ => ?_⟩
  rw [← e2, ← e3]
  exact sameF_ok rfl this ⟨fun c => (by cases c), fun _ => ⟨by (first | omega | (unfold I64; omega) | (simp only [List.length_append, List.length_cons, List.length_nil, List.length_take, List.length_drop] at *; omega) | (unfold I64; simp only [List.length_append, List.length_cons, List.length_nil, List.length_take, List.length_drop] at *; omega)), hK (i + 1) (by omega) (by omega) trivial⟩⟩
theorem any_take {α : Type} {l : List α} {p : α → Bool} {i : Nat} (h : i < l.length) : (l.take (i + 1)).any p = ((l.take i).any p || p l[i]) := by
  rw [List.take_succ_eq_append_getElem h, List.any_append]; simp
theorem proxyGathers_ok {a b : List Wt} {ask : Ad × Ad} {Q : Bool → Prop} (h : Q true) : law24_ProxyGathers_W a b ask Q := by
  refine wants_ok (n := 6) (by decide) fun r2 h2 => wants_ok (n := 6) (by decide) fun r3 h3 => ?_
  have l2 : r2.length ≤ 6 := by have := congrArg List.length h2; simp at this; omega
  have l3 : r3.length ≤ 6 := by have := congrArg List.length h3; simp at this; omega
  have f2 := FW.few h2
  have f3 := FW.few h3
  refine wants_ok (n := 6) (by decide) fun r4 h4 => wants_ok (n := 6) (by decide) fun r5 h5 => ?_
  rw [few_wants f2 l2] at h4
  rw [few_wants f3 l3] at h5
  have l4 : r4.length = r2.length := by have := congrArg List.length h4; simpa using this
  have l5 : r5.length = r3.length := by have := congrArg List.length h5; simpa using this
  have f0 : FW (r4 ++ r5) := ⟨fun w hw => by
    rcases List.mem_append.1 hw with q | q
    · exact (f2.congr h4).all w q
    · exact (f3.congr h5).all w q⟩
  refine ⟨by omega, ?_⟩
  refine loop_up (r4 ++ r5).length (fun i s => s.map (fun w => w.2) = (r4 ++ r5).map (fun w => w.2) ∧ ∀ w ∈ s.take i, aGood w.1 = true) ⟨rfl, by simp⟩ fun K i both hi ⟨hb, hgd⟩ hK => ?_
  have bl : both.length = (r4 ++ r5).length := by have := congrArg List.length hb; simpa using this
  have tl : (r4 ++ r5).length ≤ 12 := by rw [List.length_append]; omega
  have tr : r2.length ≤ (r4 ++ r5).length := by rw [List.length_append]; omega
  show law24_ProxyGathers_l1 ask Q r2 _ both (i : Int)
  unfold law24_ProxyGathers_l1
  refine ⟨fun d => ?_, fun d => ?_⟩
  · have i1 : i < both.length := by omega
    rw [gi_nat i1]
    refine ⟨by (first | omega | (unfold I64; omega) | (simp only [List.length_append, List.length_cons, List.length_nil, List.length_take, List.length_drop] at *; omega) | (unfold I64; simp only [List.length_append, List.length_cons, List.length_nil, List.length_take, List.length_drop] at *; omega)), own_ok ⟨by (first | omega | (unfold I64; omega) | (simp only [List.length_append, List.length_cons, List.length_nil, List.length_take, List.length_drop] at *; omega) | (unfold I64; simp only [List.length_append, List.length_cons, List.length_nil, List.length_take, List.length_drop] at *; omega)), hK (i + 1) _ (by omega) (by omega) ⟨?_, ?_⟩⟩⟩
    · rw [Int.toNat_natCast, List.map_set, ← hb]
      have : (both[i].2.1, both[i].2.2) = (both.map fun w => w.2)[i]'(by simpa using i1) := by rw [List.getElem_map]
      show (both.map fun w => w.2).set i (both[i].2.1, both[i].2.2) = _
      rw [this, List.set_getElem_self]
    · intro w hw
      rw [Int.toNat_natCast, List.take_succ_eq_append_getElem (by rw [List.length_set]; exact i1), List.take_set_of_le (Nat.le_refl _), List.getElem_set_self] at hw
      rcases List.mem_append.1 hw with q | q
      · exact hgd w q
      · rw [List.mem_singleton.1 q]; exact good_own _
  · have i1 : i = both.length := by omega
    rw [List.take_of_length_le (by omega)] at hgd
    have fb : FW both := ⟨fun w hw => by
      have : w.2 ∈ (r4 ++ r5).map fun w => w.2 := by rw [← hb]; exact List.mem_map_of_mem hw
      obtain ⟨v, hv, ev⟩ := List.mem_map.1 this
      rw [← ev]; exact f0.all v hv⟩
    have gb : GoodW both := ⟨fb.all, hgd, by omega⟩
    refine wants_ok (n := 12) (by decide) fun r7 h7 => ?_
    rw [few_wants fb (by omega)] at h7
    have l7 : r7.length = both.length := by have := congrArg List.length h7; simpa using this
    refine ⟨by (first | omega | (unfold I64; omega) | (simp only [List.length_append, List.length_cons, List.length_nil, List.length_take, List.length_drop] at *; omega) | (unfold I64; simp only [List.length_append, List.length_cons, List.length_nil, List.length_take, List.length_drop] at *; omega)), wants_ok (n := 12) (by decide) fun r8 h8 => ?_⟩
    rw [few_wants fb (by omega)] at h8
    have l8 : r8.length = both.length := by have := congrArg List.length h8; simpa using this
    refine ⟨by (first | omega | (unfold I64; omega) | (simp only [List.length_append, List.length_cons, List.length_nil, List.length_take, List.length_drop] at *; omega) | (unfold I64; simp only [List.length_append, List.length_cons, List.length_nil, List.length_take, List.length_drop] at *; omega)), by (first | omega | (unfold I64; omega) | (simp only [List.length_append, List.length_cons, List.length_nil, List.length_take, List.length_drop] at *; omega) | (unfold I64; simp only [List.length_append, List.length_cons, List.length_nil, List.length_take, List.length_drop] at *; omega)), by (first | omega | (unfold I64; omega) | (simp only [List.length_append, List.length_cons, List.length_nil, List.length_take, List.length_drop] at *; omega) | (unfold I64; simp only [List.length_append, List.length_cons, List.length_nil, List.length_take, List.length_drop] at *; omega)), fun v1 v2 => ?_⟩
    have c1 : cut r7 0 (r2.length : Int) = r7.take r2.length := by unfold cut; simp
    have c2 : cut r8 (r2.length : Int) (r8.length : Int) = r8.drop r2.length := by unfold cut; simp
    rw [c1, c2]
    have hfm : ∀ (u1 u2 : Value), (([(u1, r7.take r2.length), (u2, r8.drop r2.length)] : List T_s_api_Want).flatMap fun x => x.2) = r7.take r2.length ++ r8.drop r2.length := by intro u1 u2; simp
    have hmb : (r7.take r2.length ++ r8.drop r2.length).map bw = both.map bw := by
      rw [List.map_append, List.map_take, List.map_drop, h7, h8, List.take_append_drop]
    have fm := fb.congr hmb
    have gm : GoodW (r7.take r2.length ++ r8.drop r2.length) := ⟨fm.all, fun w hw => by
      have : bw w ∈ both.map bw := by rw [← hmb]; exact List.mem_map_of_mem hw
      obtain ⟨v, hv, ev⟩ := List.mem_map.1 this
      have e2 : v.1 = w.1 := congrArg (fun z : Wb => z.1) ev
      rw [← e2]; exact hgd v hv, by rw [List.length_append, List.length_take, List.length_drop]; omega⟩
    unfold proxy_Gather_W
    refine gather_ok (by simp) (by intro x hx; simp at hx; rcases hx with rfl | rfl <;> simp <;> omega) (by rw [hfm]; exact gm) fun r9 h9 => ?_
    rw [hfm, gatherL_congr hmb] at h9
    have gl : (gatherL both).length ≤ 12 := by
      unfold gatherL
      refine Nat.le_trans (List.length_filter_le _ _) ?_
      rw [List.length_map]
      refine Nat.le_trans (ofL_len _) ?_
      rw [List.length_map]; omega
    have l9 : r9.length ≤ 12 := by have := congrArg List.length h9; rw [List.length_map] at this; omega
    have s9 : ∀ w ∈ r9, w.2.2.2.length ≤ 1000 := by
      intro w hw
      have : bw w ∈ gatherL both := by rw [← h9]; exact List.mem_map_of_mem hw
      unfold gatherL at this
      obtain ⟨q1, _⟩ := List.mem_filter.1 this
      obtain ⟨k, _, ek⟩ := List.mem_map.1 q1
      have e2 : allS (flt both k) = w.2.2.2 := congrArg (fun z : Wb => z.2.2) ek
      rw [← e2]; have := allS_len _ (gb.goods k); omega
    refine loop_up both.length (fun j s => s = (both.take j).any fun w => letW ask.1 ask.2 (bw w)) rfl fun K2 j some hj hsome hK2 => ?_
    show law24_ProxyGathers_l2 ask Q both r9 _ some (j : Int)
    unfold law24_ProxyGathers_l2
    refine ⟨fun c => ⟨fun e => ⟨by (first | omega | (unfold I64; omega) | (simp only [List.length_append, List.length_cons, List.length_nil, List.length_take, List.length_drop] at *; omega) | (unfold I64; simp only [List.length_append, List.length_cons, List.length_nil, List.length_take, List.length_drop] at *; omega)), hK2 (j + 1) _ (by omega) (by omega) ?_⟩, fun e => ?_⟩, fun c => ?_⟩
    · have j1 : j < both.length := by omega
      rw [any_take j1, ← hsome, e]; rfl
    · have j1 : j < both.length := by omega
      rw [gi_nat j1]
      refine ⟨by (first | omega | (unfold I64; omega) | (simp only [List.length_append, List.length_cons, List.length_nil, List.length_take, List.length_drop] at *; omega) | (unfold I64; simp only [List.length_append, List.length_cons, List.length_nil, List.length_take, List.length_drop] at *; omega)), fun q => letsR_ok (by have := (fb.all _ (List.getElem_mem j1)).2; omega) ⟨by (first | omega | (unfold I64; omega) | (simp only [List.length_append, List.length_cons, List.length_nil, List.length_take, List.length_drop] at *; omega) | (unfold I64; simp only [List.length_append, List.length_cons, List.length_nil, List.length_take, List.length_drop] at *; omega)), hK2 (j + 1) _ (by omega) (by omega) ?_⟩, fun q => ⟨by (first | omega | (unfold I64; omega) | (simp only [List.length_append, List.length_cons, List.length_nil, List.length_take, List.length_drop] at *; omega) | (unfold I64; simp only [List.length_append, List.length_cons, List.length_nil, List.length_take, List.length_drop] at *; omega)), hK2 (j + 1) _ (by omega) (by omega) ?_⟩⟩
      · rw [any_take j1, ← hsome, e]; unfold letW; rw [show decide ((bw both[j]).1 = ask.1) = true from decide_eq_true q]; rfl
      · rw [any_take j1, ← hsome, e]; unfold letW; rw [show decide ((bw both[j]).1 = ask.1) = false from decide_eq_false q]; rfl
    · have j1 : j = both.length := by omega
      rw [List.take_of_length_le (by omega)] at hsome
      refine loop_up r9.length (fun k s => s = ((r9.take k).map bw).any (letW ask.1 ask.2)) rfl fun K3 k lets hk hlets hK3 => ?_
      show law24_ProxyGathers_l3 ask Q both r9 some _ lets (k : Int)
      unfold law24_ProxyGathers_l3
      refine ⟨fun c2 => ⟨fun e => ⟨by (first | omega | (unfold I64; omega) | (simp only [List.length_append, List.length_cons, List.length_nil, List.length_take, List.length_drop] at *; omega) | (unfold I64; simp only [List.length_append, List.length_cons, List.length_nil, List.length_take, List.length_drop] at *; omega)), hK3 (k + 1) _ (by omega) (by omega) ?_⟩, fun e => ?_⟩, fun c2 => ?_⟩
      · have k1 : k < r9.length := by omega
        rw [List.take_succ_eq_append_getElem k1, List.map_append, List.any_append, ← hlets, e]; rfl
      · have k1 : k < r9.length := by omega
        have hst : ((r9.take (k + 1)).map bw).any (letW ask.1 ask.2) = letW ask.1 ask.2 (bw r9[k]) := by
          rw [List.take_succ_eq_append_getElem k1, List.map_append, List.any_append, ← hlets, e]; simp
        rw [gi_nat k1]
        refine ⟨by (first | omega | (unfold I64; omega) | (simp only [List.length_append, List.length_cons, List.length_nil, List.length_take, List.length_drop] at *; omega) | (unfold I64; simp only [List.length_append, List.length_cons, List.length_nil, List.length_take, List.length_drop] at *; omega)), fun q => letsR_ok (s9 _ (List.getElem_mem k1)) ⟨by (first | omega | (unfold I64; omega) | (simp only [List.length_append, List.length_cons, List.length_nil, List.length_take, List.length_drop] at *; omega) | (unfold I64; simp only [List.length_append, List.length_cons, List.length_nil, List.length_take, List.length_drop] at *; omega)), hK3 (k + 1) _ (by omega) (by omega) ?_⟩, fun q => ⟨by (first | omega | (unfold I64; omega) | (simp only [List.length_append, List.length_cons, List.length_nil, List.length_take, List.length_drop] at *; omega) | (unfold I64; simp only [List.length_append, List.length_cons, List.length_nil, List.length_take, List.length_drop] at *; omega)), hK3 (k + 1) _ (by omega) (by omega) ?_⟩⟩
        · rw [hst]; unfold letW; rw [show decide ((bw r9[k]).1 = ask.1) = true from decide_eq_true q]; rfl
        · rw [hst]; unfold letW; rw [show decide ((bw r9[k]).1 = ask.1) = false from decide_eq_false q]; rfl
      · have k1 : k = r9.length := by omega
        rw [List.take_of_length_le (by omega), h9, any_gather gb] at hlets
        refine gatherR_ok gb fun r12 h12 => same24_ok (h9.trans h12.symm) (by omega) s9 ⟨fun _ => ⟨fun _ => lives24_ok h, fun q => ?_⟩, fun q => (by cases q)⟩
        rw [hsome, hlets] at q; simp at q
end Go.Wk
