/- Plain words: what lists of wants come to together: the program's way and the document's. -/
import Derived.Test.YtmbkoonblmfdpaaGreatHzV
set_option linter.unusedSimpArgs false
set_option linter.unusedVariables false
set_option linter.unusedSectionVars false
namespace Go.Wk
open Go.HL
variable [DM]
abbrev Wt := T_api_Want
abbrev Wb := Ad × Bool × List Ad
def bw (w : Wt) : Wb := (w.1, w.2.1, w.2.2.2)
structure GoodW (L : List Wt) : Prop where
  all : ∀ w ∈ L, ASet w.2.2.2 ∧ w.2.2.2.length ≤ 6
  good : ∀ w ∈ L, aGood w.1 = true
  len : L.length ≤ 12
def flt (L : List Wt) (g : Ad) : List Fi := (L.filter fun w => decide (w.1 = g)).map fun w => w.2
theorem flt_snoc (L : List Wt) (w : Wt) (g : Ad) : flt (L ++ [w]) g = if w.1 = g then flt L g ++ [w.2] else flt L g := by
  unfold flt; rw [List.filter_append]
  by_cases e : w.1 = g
  · simp [e]
  · simp [e]
theorem GoodW.goods {L : List Wt} (h : GoodW L) (g : Ad) : Goods (flt L g) := ⟨fun f hf => by
  obtain ⟨w, hw, rfl⟩ := List.mem_map.1 hf
  exact h.all w (List.mem_filter.1 hw).1, by
  unfold flt; rw [List.length_map]; exact Nat.le_trans (List.length_filter_le _ _) h.len⟩
theorem GoodW.sub {L M : List Wt} (h : GoodW L) (hs : ∀ w ∈ M, w ∈ L) (hl : M.length ≤ 12) : GoodW M := ⟨fun w hw => h.all w (hs w hw), fun w hw => h.good w (hs w hw), hl⟩
def allS (l : List Fi) : List Ad := (ofL (l.flatMap fun f => f.2.2)).filter fun x => inB (l.map bare) x
theorem allS_set (l : List Fi) : ASet (allS l) := (ofL_set _).filter _
theorem allS_eq {l : List Fi} (hg : Goods l) {S : List Ad} (hS : ASet S) (h : ∀ x, x ∈ S ↔ inB (l.map bare) x = true) : S = allS l := by
  refine hS.ext (allS_set l) fun x => ?_
  unfold allS; rw [List.mem_filter, h, mem_ofL]
  refine ⟨fun q => ⟨?_, q⟩, fun q => q.2⟩
  have : ∃ f ∈ l, x ∈ f.2.2 := by
    cases c : exB (l.map bare) with
    | false => obtain ⟨f, a, _, b⟩ := (inB0 c).1 q; exact ⟨f, a, b⟩
    | true =>
      obtain ⟨f, a, b⟩ := exB_iff.1 c
      exact ⟨f, a, ((inB1 c).1 q).1 f a b⟩
  obtain ⟨f, hf, hx⟩ := this
  exact ⟨List.mem_flatMap.2 ⟨f, hf, hx⟩, (hg.set f hf).1.good x hx⟩
def gth (L : List Wt) (g : Ad) : Wb := (g, exB ((flt L g).map bare), allS (flt L g))
def nn (b : Wb) : Bool := !noneB b.2.1 b.2.2
def gatherL (L : List Wt) : List Wb := ((ofL (L.map fun w => w.1)).map (gth L)).filter nn
theorem allS_len (l : List Fi) (hg : Goods l) : (allS l).length ≤ 72 := by
  unfold allS
  refine Nat.le_trans (List.length_filter_le _ _) (Nat.le_trans (ofL_len _) ?_)
  have key : ∀ m : List Fi, (∀ f ∈ m, f.2.2.length ≤ 6) → (m.flatMap fun f => f.2.2).length ≤ 6 * m.length := by
    intro m
    induction m with
    | nil => intro _; simp
    | cons f m ih =>
      intro hm
      have h1 := hm f (List.mem_cons_self ..)
      have h2 := ih fun x hx => hm x (List.mem_cons_of_mem _ hx)
      rw [List.flatMap_cons, List.length_append, List.length_cons]; omega
  have := key l fun f hf => (hg.set f hf).2
  have := hg.len; omega
theorem concat_ok {sl : List T_s_api_Want} {Q : List Wt → Prop} (hn : sl.length ≤ 10) (hl : ∀ x ∈ sl, x.2.length ≤ 100) (h : Q (sl.flatMap fun x => x.2)) : slices_Concat_s_api_Want_api_Want_W sl Q := by
  refine loop_up sl.length (fun i n => 0 ≤ n ∧ n ≤ 100 * (i : Int)) (by simp) fun K i n hi ⟨h0, h1⟩ hK => ?_
  show slices_Concat_s_api_Want_api_Want_l1 sl Q _ n (i : Int)
  unfold slices_Concat_s_api_Want_api_Want_l1
  refine ⟨fun d => ?_, fun d => ⟨⟨h0, by omega, by omega⟩, ?_⟩⟩
  · have i1 : i < sl.length := by omega
    have := hl _ (List.getElem_mem i1)
    rw [gi_nat i1]
    exact ⟨by (first | omega | (unfold I64; omega) | (simp only [List.length_append, List.length_cons, List.length_nil, List.length_take, List.length_drop] at *; omega) | (unfold I64; simp only [List.length_append, List.length_cons, List.length_nil, List.length_take, List.length_drop] at *; omega)), by (first | omega | (unfold I64; omega) | (simp only [List.length_append, List.length_cons, List.length_nil, List.length_take, List.length_drop] at *; omega) | (unfold I64; simp only [List.length_append, List.length_cons, List.length_nil, List.length_take, List.length_drop] at *; omega)), fun c => by omega, fun _ => ⟨by (first | omega | (unfold I64; omega) | (simp only [List.length_append, List.length_cons, List.length_nil, List.length_take, List.length_drop] at *; omega) | (unfold I64; simp only [List.length_append, List.length_cons, List.length_nil, List.length_take, List.length_drop] at *; omega)), hK (i + 1) _ (by omega) (by omega) ⟨by omega, by omega⟩⟩⟩
  · refine loop_up sl.length (fun j s => s = (sl.take j).flatMap (fun x => x.2) ∧ s.length ≤ 100 * j) ⟨rfl, by simp⟩ fun K2 j s hj ⟨hs, hsl⟩ hK2 => ?_
    show slices_Concat_s_api_Want_api_Want_l2 sl Q _ s (j : Int)
    unfold slices_Concat_s_api_Want_api_Want_l2
    refine ⟨fun c => ?_, fun c => ?_⟩
    · have j1 : j < sl.length := by omega
      have := hl _ (List.getElem_mem j1)
      rw [gi_nat j1]
      refine ⟨by (first | omega | (unfold I64; omega) | (simp only [List.length_append, List.length_cons, List.length_nil, List.length_take, List.length_drop] at *; omega) | (unfold I64; simp only [List.length_append, List.length_cons, List.length_nil, List.length_take, List.length_drop] at *; omega)), by omega, by (first | omega | (unfold I64; omega) | (simp only [List.length_append, List.length_cons, List.length_nil, List.length_take, List.length_drop] at *; omega) | (unfold I64; simp only [List.length_append, List.length_cons, List.length_nil, List.length_take, List.length_drop] at *; omega)), hK2 (j + 1) _ (by omega) (by omega) ⟨?_, by rw [List.length_append]; omega⟩⟩
      rw [List.take_succ_eq_append_getElem j1, List.flatMap_append, hs]; simp
    · have j1 : j = sl.length := by omega
      subst j1
      rw [List.take_length] at hs
      rw [hs]; exact h
theorem mset_keysG {κ ν : Type} [DecidableEq κ] (m : List (κ × ν)) (k : κ) (v : ν) : (mset m k v).map Prod.fst = if k ∈ m.map Prod.fst then m.map Prod.fst else m.map Prod.fst ++ [k] := by
  induction m with
  | nil => simp [mset]
  | cons p r ih =>
    unfold mset
    by_cases e : k = p.1
    · subst e; simp
    · rw [if_neg e, List.map_cons, ih]
      by_cases q : k ∈ r.map Prod.fst
      · rw [if_pos q, if_pos (by rw [List.map_cons]; exact List.mem_cons_of_mem _ q)]; simp
      · have q2 : k ∉ (p :: r).map Prod.fst := by
          rw [List.map_cons]; intro z
          rcases List.mem_cons.1 z with z | z
          · exact e z
          · exact q z
        rw [if_neg q, if_neg q2]; simp
theorem mset_lenG {κ ν : Type} [DecidableEq κ] (m : List (κ × ν)) (k : κ) (v : ν) : (mset m k v).length ≤ m.length + 1 := by
  have := congrArg List.length (mset_keysG m k v)
  rw [List.length_map] at this; rw [this]; split
  · rw [List.length_map]; omega
  · rw [List.length_append, List.length_map]; simp
theorem sorted_ofL {ks G : List Ad} (hn : ks.Nodup) (hG : ∀ g ∈ G, aGood g = true) (hm : ∀ g, g ∈ ks ↔ g ∈ G) (hs : ks.Pairwise fun x y => ¬ aCmp y x < 0) : ks = ofL G := by
  have hk : ASet ks := by
    refine ⟨?_, fun x hx => hG x ((hm x).1 hx)⟩
    have h2 : ks.Pairwise fun x y => x ≠ y := hn
    refine List.Pairwise.imp_of_mem (fun {a b} ha hb q => ?_) (hs.and h2)
    obtain ⟨q1, q2⟩ := q
    have e := aCmp_flip a b
    have ne : aCmp a b ≠ 0 := fun z => q2 (aCmp_eq (hG a ((hm a).1 ha)) (hG b ((hm b).1 hb)) z)
    show aCmp a b < 0
    omega
  exact hk.ext (ofL_set _) fun x => by rw [mem_ofL, hm]; exact ⟨fun q => ⟨q, hG x q⟩, fun q => q.1⟩
theorem gather_ok {sl : List T_s_api_Want} {Q : List Wt → Prop} (hn : sl.length ≤ 10) (hl : ∀ x ∈ sl, x.2.length ≤ 100) (hg : GoodW (sl.flatMap fun x => x.2)) (h : ∀ out, out.map bw = gatherL (sl.flatMap fun x => x.2) → Q out) : proxy_gather_W sl Q := by
  refine concat_ok hn hl ?_
  generalize sl.flatMap (fun x => x.2) = L at hg h
  have hL := hg.len
  refine loop_up L.length (fun i m => (∀ g, (bagAt m g).2 = flt (L.take i) g) ∧ (m.map Prod.fst).Nodup ∧ (∀ g, g ∈ m.map Prod.fst ↔ g ∈ (L.take i).map fun w => w.1) ∧ m.length ≤ i) ⟨by intro g; rfl, by simp, by simp, by simp⟩ fun K i m hi ⟨h1, h2, h3, h4⟩ hK => ?_
  show proxy_gather_l1 Q L _ m (i : Int)
  unfold proxy_gather_l1
  refine ⟨fun d => ?_, fun d => ?_⟩
  · have i1 : i < L.length := by omega
    rw [gi_nat i1]
    have hfl : (flt (L.take i) L[i].1).length ≤ 12 := by
      unfold flt; rw [List.length_map]; refine Nat.le_trans (List.length_filter_le _ _) ?_; rw [List.length_take]; omega
    refine ⟨by (first | omega | (unfold I64; omega) | (simp only [List.length_append, List.length_cons, List.length_nil, List.length_take, List.length_drop] at *; omega) | (unfold I64; simp only [List.length_append, List.length_cons, List.length_nil, List.length_take, List.length_drop] at *; omega)), ?_, fun v => ⟨by (first | omega | (unfold I64; omega) | (simp only [List.length_append, List.length_cons, List.length_nil, List.length_take, List.length_drop] at *; omega) | (unfold I64; simp only [List.length_append, List.length_cons, List.length_nil, List.length_take, List.length_drop] at *; omega)), hK (i + 1) _ (by omega) (by omega) ⟨fun g => ?_, ?_, fun g => ?_, by have := mset_lenG m L[i].1 (v, (bagAt m L[i].1).2 ++ [L[i].2]); show (mset m L[i].1 (v, (bagAt m L[i].1).2 ++ [L[i].2])).length ≤ i + 1; omega⟩⟩⟩
    · rw [h1]; simp only [List.length_cons, List.length_nil]; omega
    · rw [List.take_succ_eq_append_getElem i1, flt_snoc]
      show (bagAt (mset m L[i].1 (v, (bagAt m L[i].1).2 ++ [L[i].2])) g).2 = _
      by_cases e : L[i].1 = g
      · rw [if_pos e]
        have : bagAt (mset m L[i].1 (v, (bagAt m L[i].1).2 ++ [L[i].2])) g = (v, (bagAt m L[i].1).2 ++ [L[i].2]) := by
          unfold bagAt; rw [mget_mset, if_pos e.symm]; rfl
        rw [this]; show (bagAt m L[i].1).2 ++ [L[i].2] = _
        rw [h1, e]
      · rw [if_neg e]
        have : bagAt (mset m L[i].1 (v, (bagAt m L[i].1).2 ++ [L[i].2])) g = bagAt m g := by
          unfold bagAt; rw [mget_mset, if_neg (fun q => e q.symm)]
        rw [this, h1]
    · rw [mset_keysG]; split
      · exact h2
      · rename_i q
        rw [List.nodup_append]; exact ⟨h2, by simp, fun a ha b hb => by rw [List.mem_singleton.1 hb]; intro z; subst z; exact q ha⟩
    · rw [mset_keysG, List.take_succ_eq_append_getElem i1, List.map_append]
      by_cases q : L[i].1 ∈ m.map Prod.fst
      · rw [if_pos q, h3, List.mem_append]
        refine ⟨fun z => .inl z, fun z => ?_⟩
        rcases z with z | z
        · exact z
        · simp at z; subst z; exact (h3 _).1 q
      · rw [if_neg q, List.mem_append, List.mem_append, h3]; simp
  · have i1 : i = L.length := by omega
    subst i1
    rw [List.take_length] at h1 h3
    have mlen : m.length ≤ 12 := by omega
    refine ⟨aCmp, fun x y => cmpP_ok rfl, ⟨by omega, fun l hp => ⟨swo_ad, by have := hp.length_eq; rw [List.length_map] at this; omega, fun ks hp2 hs => ?_⟩⟩⟩
    have hpk : ks.Perm (m.map Prod.fst) := hp2.trans hp
    have hks : ks = ofL (L.map fun w => w.1) := sorted_ofL (hpk.nodup_iff.2 h2) (fun g hgm => by obtain ⟨w, hw, rfl⟩ := List.mem_map.1 hgm; exact hg.good w hw) (fun g => by rw [hpk.mem_iff, h3]) hs
    have kl : ks.length ≤ 12 := by have := hpk.length_eq; rw [List.length_map] at this; omega
    refine loop_up ks.length (fun j s => s.map bw = ((ks.take j).map (gth L)).filter nn ∧ s.length ≤ j) ⟨rfl, by simp⟩ fun K2 j s hj ⟨hsb, hsl⟩ hK2 => ?_
    show proxy_gather_l2 Q m ks _ s (j : Int)
    unfold proxy_gather_l2
    refine ⟨fun c => ?_, fun c => ?_⟩
    · have j1 : j < ks.length := by omega
      rw [gi_nat j1]
      have hgd := hg.goods ks[j]
      refine ⟨by (first | omega | (unfold I64; omega) | (simp only [List.length_append, List.length_cons, List.length_nil, List.length_take, List.length_drop] at *; omega) | (unfold I64; simp only [List.length_append, List.length_cons, List.length_nil, List.length_take, List.length_drop] at *; omega)), ?_⟩
      rw [h1]
      refine allP_ok hgd fun S hS hSl hSm => ?_
      have eS : S = allS (flt L ks[j]) := allS_eq hgd hS hSm
      have hstep : ((ks.take (j + 1)).map (gth L)).filter nn = ((ks.take j).map (gth L)).filter nn ++ if nn (gth L ks[j]) = true then [gth L ks[j]] else [] := by
        rw [List.take_succ_eq_append_getElem j1, List.map_append, List.filter_append]; simp [List.filter_cons]
      refine noneP_ok ⟨fun q => fun v => ⟨by simp only [List.length_cons, List.length_nil]; omega, by (first | omega | (unfold I64; omega) | (simp only [List.length_append, List.length_cons, List.length_nil, List.length_take, List.length_drop] at *; omega) | (unfold I64; simp only [List.length_append, List.length_cons, List.length_nil, List.length_take, List.length_drop] at *; omega)), hK2 (j + 1) _ (by omega) (by omega) ⟨?_, by simp; omega⟩⟩, fun q => ⟨by (first | omega | (unfold I64; omega) | (simp only [List.length_append, List.length_cons, List.length_nil, List.length_take, List.length_drop] at *; omega) | (unfold I64; simp only [List.length_append, List.length_cons, List.length_nil, List.length_take, List.length_drop] at *; omega)), hK2 (j + 1) _ (by omega) (by omega) ⟨?_, by omega⟩⟩⟩
      · have q' : nn (gth L ks[j]) = true := by unfold nn gth; rw [← eS]; exact q
        rw [hstep, if_pos q', List.map_append, hsb]; unfold gth; rw [← eS]; rfl
      · have q' : ¬ nn (gth L ks[j]) = true := by unfold nn gth; rw [← eS]; simp only [Bool.not_eq_true]; exact q
        rw [hstep, if_neg q', List.append_nil, hsb]
    · have j1 : j = ks.length := by omega
      subst j1
      rw [List.take_length] at hsb
      refine h s ?_
      rw [hsb, hks]; rfl
theorem find24_ok {l : List Wt} {g : Ad} {Q : Int → Prop} (hl : l.length ≤ 1000) (h0 : (∀ w ∈ l, w.1 ≠ g) → Q (-1)) (h1 : ∀ i : Nat, (∃ w ∈ l, w.1 = g) → Q (i : Int)) : ref24_find_W l g Q := by
  refine loop_up1 l.length (fun i => ∀ w ∈ l.take i, w.1 ≠ g) (by simp) fun K i hi hI hK => ?_
  show ref24_find_l1 l g Q _ (i : Int)
  unfold ref24_find_l1
  refine ⟨fun d => ?_, fun d => ?_⟩
  · have i1 : i < l.length := by omega
    rw [gi_nat i1]
    refine ⟨by (first | omega | (unfold I64; omega) | (simp only [List.length_append, List.length_cons, List.length_nil, List.length_take, List.length_drop] at *; omega) | (unfold I64; simp only [List.length_append, List.length_cons, List.length_nil, List.length_take, List.length_drop] at *; omega)), fun c => h1 i ⟨_, List.getElem_mem i1, c⟩, fun c => ⟨by (first | omega | (unfold I64; omega) | (simp only [List.length_append, List.length_cons, List.length_nil, List.length_take, List.length_drop] at *; omega) | (unfold I64; simp only [List.length_append, List.length_cons, List.length_nil, List.length_take, List.length_drop] at *; omega)), hK (i + 1) (by omega) (by omega) ?_⟩⟩
    intro w hw; rw [List.take_succ_eq_append_getElem i1] at hw
    rcases List.mem_append.1 hw with e | e
    · exact hI w e
    · rw [List.mem_singleton.1 e]; exact c
  · have i1 : i = l.length := by omega
    subst i1
    rw [List.take_length] at hI; exact h0 hI
theorem ins_mem {l : List Ad} {a : Ad} (h : a ∈ l) : ins l a = l := by unfold ins; rw [if_pos (.inl h)]
theorem ins_new {l : List Ad} {a : Ad} (h : a ∉ l) (hg : aGood a = true) : ins l a = (l.takeWhile fun x => decide (aCmp x a < 0)) ++ a :: l.dropWhile fun x => decide (aCmp x a < 0) := by
  unfold ins; rw [if_neg]; rintro (q | q)
  · exact h q
  · rw [hg] at q; cases q
theorem take_tw {α : Type} {p : α → Bool} : ∀ {l : List α} {n : Nat}, (∀ x ∈ l.take n, p x = true) → (∀ h : n < l.length, p l[n] = false) → n ≤ l.length → l.takeWhile p = l.take n ∧ l.dropWhile p = l.drop n
  | [], n, _, _, h3 => by
    have : n = 0 := by simpa using h3
    subst this; simp
  | a :: l, 0, _, h2, _ => by
    have := h2 (by simp)
    simp only [List.getElem_cons_zero] at this
    simp [List.takeWhile_cons, List.dropWhile_cons, this]
  | a :: l, n + 1, h1, h2, h3 => by
    have ha : p a = true := h1 a (by simp)
    obtain ⟨e1, e2⟩ := take_tw (p := p) (l := l) (n := n) (fun x hx => h1 x (by simp [hx])) (fun h => by have := h2 (by simpa using h); simpa using this) (by simpa using h3)
    simp [List.takeWhile_cons, List.dropWhile_cons, ha, e1, e2]
theorem gatherR_ok {L : List Wt} {Q : List Wt → Prop} (hg : GoodW L) (h : ∀ out, out.map bw = gatherL L → Q out) : ref24_Gather_W L Q := by
  have hL := hg.len
  refine loop_up L.length (fun i out => out.map (fun w => w.1) = ofL ((L.take i).map fun w => w.1) ∧ ∀ w ∈ out, bw w = gth L w.1) ⟨rfl, by simp⟩ fun K i out hi ⟨h1, h2⟩ hK => ?_
  have ol : out.length ≤ i := by
    have e1 := congrArg List.length h1; rw [List.length_map] at e1
    have e2 := ofL_len ((L.take i).map fun w => w.1); rw [List.length_map, List.length_take] at e2; omega
  show ref24_Gather_l1 L Q _ out (i : Int)
  unfold ref24_Gather_l1
  refine ⟨fun d => ?_, fun d => ?_⟩
  · have i1 : i < L.length := by omega
    rw [gi_nat i1]
    have hgi := hg.good _ (List.getElem_mem i1)
    have hof : ofL ((L.take (i + 1)).map fun w => w.1) = ins (ofL ((L.take i).map fun w => w.1)) L[i].1 := by
      rw [List.take_succ_eq_append_getElem i1, List.map_append]; exact ofL_snoc _ _
    refine ⟨by (first | omega | (unfold I64; omega) | (simp only [List.length_append, List.length_cons, List.length_nil, List.length_take, List.length_drop] at *; omega) | (unfold I64; simp only [List.length_append, List.length_cons, List.length_nil, List.length_take, List.length_drop] at *; omega)), find24_ok (by omega) (fun hno => ⟨fun c => absurd c (by decide), fun _ => ?_⟩) fun k hex => ⟨fun _ => ⟨by (first | omega | (unfold I64; omega) | (simp only [List.length_append, List.length_cons, List.length_nil, List.length_take, List.length_drop] at *; omega) | (unfold I64; simp only [List.length_append, List.length_cons, List.length_nil, List.length_take, List.length_drop] at *; omega)), hK (i + 1) _ (by omega) (by omega) ⟨?_, h2⟩⟩, fun c => absurd (by omega) c⟩⟩
    · -- a new group
      have hnew : L[i].1 ∉ ofL ((L.take i).map fun w => w.1) := by
        rw [← h1]; intro q; obtain ⟨w, hw, e⟩ := List.mem_map.1 q; exact hno w hw e
      have hnone : ∀ w ∈ L.take i, w.1 ≠ L[i].1 := by
        intro w hw e
        refine hnew (mem_ofL.2 ⟨List.mem_map.2 ⟨w, hw, e⟩, hgi⟩)
      have hfl : flt L L[i].1 = flt (L.drop i) L[i].1 := by
        have e : L = L.take i ++ L.drop i := (List.take_append_drop i L).symm
        have e0 : flt (L.take i) L[i].1 = [] := by
          unfold flt
          rw [List.filter_eq_nil_iff.2 fun w hw => by simpa using hnone w hw]; rfl
        have e2 : flt (L.take i ++ L.drop i) L[i].1 = flt (L.take i) L[i].1 ++ flt (L.drop i) L[i].1 := by unfold flt; rw [List.filter_append, List.map_append]
        rw [← e, e0, List.nil_append] at e2; exact e2
      refine loop_from (fun s => s.2) i L.length (fun k s => i ≤ k ∧ s.1 = flt ((L.take k).drop i) L[i].1) rfl (by omega) ⟨Nat.le_refl _, by rw [List.drop_eq_nil_of_le (by rw [List.length_take]; omega)]; rfl⟩ ?_
      rintro K2 k ⟨f, _⟩ rfl hk ⟨hik, hf⟩ hK2
      replace hf : f = flt ((L.take k).drop i) L[i].1 := hf
      have fl : f.length ≤ 12 := by
        rw [hf]; unfold flt; rw [List.length_map]; refine Nat.le_trans (List.length_filter_le _ _) ?_
        rw [List.length_drop, List.length_take]; omega
      show ref24_Gather_l3 L out (i : Int) _ _ f (k : Int)
      unfold ref24_Gather_l3
      refine ⟨fun c => ?_, fun c => ⟨by (first | omega | (unfold I64; omega) | (simp only [List.length_append, List.length_cons, List.length_nil, List.length_take, List.length_drop] at *; omega) | (unfold I64; simp only [List.length_append, List.length_cons, List.length_nil, List.length_take, List.length_drop] at *; omega)), ?_⟩⟩
      · have k1 : k < L.length := by omega
        rw [gi_nat k1, gi_nat i1]
        have hst : (L.take (k + 1)).drop i = (L.take k).drop i ++ [L[k]] := by
          rw [List.take_succ_eq_append_getElem k1, List.drop_append_of_le_length (by rw [List.length_take]; omega)]
        refine ⟨by (first | omega | (unfold I64; omega) | (simp only [List.length_append, List.length_cons, List.length_nil, List.length_take, List.length_drop] at *; omega) | (unfold I64; simp only [List.length_append, List.length_cons, List.length_nil, List.length_take, List.length_drop] at *; omega)), by (first | omega | (unfold I64; omega) | (simp only [List.length_append, List.length_cons, List.length_nil, List.length_take, List.length_drop] at *; omega) | (unfold I64; simp only [List.length_append, List.length_cons, List.length_nil, List.length_take, List.length_drop] at *; omega)), fun e => ⟨by simp only [List.length_cons, List.length_nil]; omega, by (first | omega | (unfold I64; omega) | (simp only [List.length_append, List.length_cons, List.length_nil, List.length_take, List.length_drop] at *; omega) | (unfold I64; simp only [List.length_append, List.length_cons, List.length_nil, List.length_take, List.length_drop] at *; omega)), hK2 (k + 1) _ rfl (by omega) (by omega) ⟨by omega, ?_⟩⟩, fun e => ⟨by (first | omega | (unfold I64; omega) | (simp only [List.length_append, List.length_cons, List.length_nil, List.length_take, List.length_drop] at *; omega) | (unfold I64; simp only [List.length_append, List.length_cons, List.length_nil, List.length_take, List.length_drop] at *; omega)), hK2 (k + 1) _ rfl (by omega) (by omega) ⟨by omega, ?_⟩⟩⟩
        · show f ++ [L[k].2] = _
          rw [hst, flt_snoc, if_pos e, hf]
        · show f = _
          rw [hst, flt_snoc, if_neg e, hf]
      · have k1 : k = L.length := by omega
        subst k1
        rw [List.take_length, ← hfl] at hf
        subst hf
        refine allR_ok (hg.goods _) fun S hS hSm => ?_
        have eS := allS_eq (hg.goods _) hS hSm
        have J : ∀ n : Nat, n ≤ out.length → (∀ w ∈ out.take n, aCmp w.1 L[i].1 < 0) → (∀ h : n < out.length, ¬ aCmp out[n].1 L[i].1 < 0) → ref24_Gather_j2 L out (i : Int) (fun out_1 i_1 => K (out_1, i_1)) (exB ((flt L L[i].1).map bare)) S (n : Int) := by
          intro n hn q1 q2 v
          have c1 : cut out 0 (n : Int) = out.take n := by unfold cut; simp
          have c2 : cut out (n : Int) (out.length : Int) = out.drop n := by unfold cut; simp
          rw [c1, c2, gi_nat i1]
          refine ⟨by (first | omega | (unfold I64; omega) | (simp only [List.length_append, List.length_cons, List.length_nil, List.length_take, List.length_drop] at *; omega) | (unfold I64; simp only [List.length_append, List.length_cons, List.length_nil, List.length_take, List.length_drop] at *; omega)), by (first | omega | (unfold I64; omega) | (simp only [List.length_append, List.length_cons, List.length_nil, List.length_take, List.length_drop] at *; omega) | (unfold I64; simp only [List.length_append, List.length_cons, List.length_nil, List.length_take, List.length_drop] at *; omega)), by rw [List.length_nil, List.length_take]; omega, by rw [List.length_append, List.length_nil, List.length_take, List.length_cons, List.length_nil]; omega, by (first | omega | (unfold I64; omega) | (simp only [List.length_append, List.length_cons, List.length_nil, List.length_take, List.length_drop] at *; omega) | (unfold I64; simp only [List.length_append, List.length_cons, List.length_nil, List.length_take, List.length_drop] at *; omega)), by rw [List.length_append, List.length_append, List.length_nil, List.length_take, List.length_drop, List.length_cons, List.length_nil]; omega, by (first | omega | (unfold I64; omega) | (simp only [List.length_append, List.length_cons, List.length_nil, List.length_take, List.length_drop] at *; omega) | (unfold I64; simp only [List.length_append, List.length_cons, List.length_nil, List.length_take, List.length_drop] at *; omega)), hK (i + 1) _ (by omega) (by omega) ⟨?_, ?_⟩⟩
          · rw [hof, ins_new hnew hgi, ← h1]
            obtain ⟨e1, e2⟩ := take_tw (p := fun x => decide (aCmp x L[i].1 < 0)) (l := out.map fun w => w.1) (n := n) (fun x hx => by
                rw [← List.map_take] at hx; obtain ⟨w, hw, rfl⟩ := List.mem_map.1 hx; exact decide_eq_true (q1 w hw)) (fun hh => by
                rw [List.getElem_map]; exact decide_eq_false (q2 (by simpa using hh))) (by simpa using hn)
            rw [e1, e2, ← List.map_take, ← List.map_drop]; simp
          · intro w hw
            simp only [List.nil_append, List.mem_append, List.mem_singleton] at hw
            rcases hw with (q | q) | q
            · exact h2 w (List.mem_of_mem_take q)
            · subst q; unfold bw gth; rw [← eS]
            · exact h2 w (List.mem_of_mem_drop q)
        refine loop_up1 out.length (fun n => ∀ w ∈ out.take n, aCmp w.1 L[i].1 < 0) (by simp) fun K3 n hn hI hK3 => ?_
        show ref24_Gather_l4 L out (i : Int) _ _ S K3 (n : Int)
        unfold ref24_Gather_l4
        refine ⟨fun c2 => ?_, fun c2 => J n hn hI fun hh => absurd (by omega) c2⟩
        have n1 : n < out.length := by omega
        rw [gi_nat n1, gi_nat i1]
        refine ⟨by (first | omega | (unfold I64; omega) | (simp only [List.length_append, List.length_cons, List.length_nil, List.length_take, List.length_drop] at *; omega) | (unfold I64; simp only [List.length_append, List.length_cons, List.length_nil, List.length_take, List.length_drop] at *; omega)), cmpR_ok ⟨fun q => ⟨by (first | omega | (unfold I64; omega) | (simp only [List.length_append, List.length_cons, List.length_nil, List.length_take, List.length_drop] at *; omega) | (unfold I64; simp only [List.length_append, List.length_cons, List.length_nil, List.length_take, List.length_drop] at *; omega)), hK3 (n + 1) (by omega) (by omega) ?_⟩, fun q => J n hn hI fun _ => q⟩⟩
        intro w hw; rw [List.take_succ_eq_append_getElem n1] at hw
        rcases List.mem_append.1 hw with e | e
        · exact hI w e
        · rw [List.mem_singleton.1 e]; exact q
    · rw [hof, ins_mem]
      · exact h1
      · obtain ⟨w, hw, e⟩ := hex
        rw [← h1]; exact List.mem_map.2 ⟨w, hw, e⟩
  · have i1 : i = L.length := by omega
    subst i1
    rw [List.take_length] at h1
    refine loop_up out.length (fun j s => s.map bw = ((out.take j).map bw).filter nn ∧ s.length ≤ j) ⟨rfl, by simp⟩ fun K4 j s hj ⟨hs, hsl⟩ hK4 => ?_
    show ref24_Gather_l5 Q out _ s (j : Int)
    unfold ref24_Gather_l5
    refine ⟨fun c => ?_, fun c => ?_⟩
    · have j1 : j < out.length := by omega
      rw [gi_nat j1]
      have hstep : ((out.take (j + 1)).map bw).filter nn = ((out.take j).map bw).filter nn ++ if nn (bw out[j]) = true then [bw out[j]] else [] := by
        rw [List.take_succ_eq_append_getElem j1, List.map_append, List.filter_append]; simp [List.filter_cons]
      refine ⟨by (first | omega | (unfold I64; omega) | (simp only [List.length_append, List.length_cons, List.length_nil, List.length_take, List.length_drop] at *; omega) | (unfold I64; simp only [List.length_append, List.length_cons, List.length_nil, List.length_take, List.length_drop] at *; omega)), noneR_ok ⟨fun q => ⟨by simp only [List.length_cons, List.length_nil]; omega, by (first | omega | (unfold I64; omega) | (simp only [List.length_append, List.length_cons, List.length_nil, List.length_take, List.length_drop] at *; omega) | (unfold I64; simp only [List.length_append, List.length_cons, List.length_nil, List.length_take, List.length_drop] at *; omega)), hK4 (j + 1) _ (by omega) (by omega) ⟨?_, by simp; omega⟩⟩, fun q => ⟨by (first | omega | (unfold I64; omega) | (simp only [List.length_append, List.length_cons, List.length_nil, List.length_take, List.length_drop] at *; omega) | (unfold I64; simp only [List.length_append, List.length_cons, List.length_nil, List.length_take, List.length_drop] at *; omega)), hK4 (j + 1) _ (by omega) (by omega) ⟨?_, by omega⟩⟩⟩⟩
      · rw [hstep, if_pos (show nn (bw out[j]) = true from q), List.map_append, hs]; rfl
      · rw [hstep, if_neg (show ¬ nn (bw out[j]) = true from by simp only [Bool.not_eq_true]; exact q), List.append_nil, hs]
    · have j1 : j = out.length := by omega
      subst j1
      rw [List.take_length] at hs
      refine h s ?_
      rw [hs]; unfold gatherL; rw [← h1, List.map_map]
      congr 1
      exact List.map_congr_left fun w hw => h2 w hw
end Go.Wk
