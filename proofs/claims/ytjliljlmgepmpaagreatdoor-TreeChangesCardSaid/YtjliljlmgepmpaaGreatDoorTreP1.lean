/- Plain words on Plan's mirrors: the order of branches, to whom each node sends on, who is reached, good trees. -/
import Derived.Test.YtjliljlmgepmpaaGreatDoorSrt
import Derived.Test.YtjliljlmgepmpaaGreatDoorTrG
import Derived.Test.YtjliljlmgepmpaaGreatDoorTreN
import Derived.Test.YtjliljlmgepmpaaGreatDoorTreB1
set_option linter.unusedSimpArgs false
set_option linter.unusedVariables false
set_option linter.unusedSectionVars false
namespace Go.Wk
open Go.HL
variable [DM]
/-! ### The order of branches -/
def ci (x y : Int) : Int := if x < y then -1 else if y < x then 1 else 0
def cb (a b : Br) : Int := if ci a.1 b.1 = 0 then ci a.2 b.2 else ci a.1 b.1
theorem isNaN_ok {x : Int} {Q : Bool → Prop} (h : Q false) : cmp_isNaN_int_W x Q := by unfold cmp_isNaN_int_W; simpa using h
theorem compare_ok {x y : Int} {Q : Int → Prop} (h : Q (ci x y)) : cmp_Compare_int_W x y Q := by
  refine isNaN_ok (isNaN_ok ⟨fun c => by simp at c, fun _ => ⟨fun c => by simp at c, fun _ => ⟨fun c => ?_, fun c => ⟨fun d => ?_, fun d => ?_⟩⟩⟩⟩)
  · rwa [ci, if_pos c] at h
  · rwa [ci, if_neg c, if_pos d] at h
  · rwa [ci, if_neg c, if_neg d] at h
theorem or_ok {a b : Int} {Q : Int → Prop} (h : Q (if a = 0 then b else a)) : cmp_Or_int_W [a, b] Q := by
  refine loop_up1 2 (fun i => (1 ≤ i → a = 0) ∧ (2 ≤ i → b = 0)) ⟨by omega, by omega⟩ fun K i hi hI hK => ?_
  unfold cmp_Or_int_l1
  simp only [List.length_cons, List.length_nil]
  refine ⟨fun c => ⟨by omega, fun d => ?_, fun d => ⟨by unfold I64; omega, ?_⟩⟩, fun c => ?_⟩
  · rcases (show i = 0 ∨ i = 1 by omega) with rfl | rfl
    · have e : gi [a, b] ((0 : Nat) : Int) = a := rfl
      rw [e] at d ⊢; rwa [if_neg d] at h
    · have e : gi [a, b] ((1 : Nat) : Int) = b := rfl
      rw [e]; rwa [if_pos (hI.1 (Nat.le_refl _))] at h
  · refine hK (i + 1) (by omega) (by omega) ?_
    rcases (show i = 0 ∨ i = 1 by omega) with rfl | rfl
    · have e : gi [a, b] ((0 : Nat) : Int) = a := rfl
      rw [e] at d; exact ⟨fun _ => d, by omega⟩
    · have e : gi [a, b] ((1 : Nat) : Int) = b := rfl
      rw [e] at d; exact ⟨fun _ => hI.1 (Nat.le_refl _), fun _ => d⟩
  · have : i = 2 := by omega
    subst this
    rwa [if_pos (hI.1 (by omega)), hI.2 (Nat.le_refl _)] at h
theorem order_ok {a b : Br} {Q : Int → Prop} (h : Q (cb a b)) : tree_order_W a b Q := compare_ok (compare_ok (or_ok h))
theorem cb_lt (a b : Br) : cb a b < 0 ↔ blt a b := by
  unfold cb ci blt
  split <;> split <;> (try split) <;> (try split) <;> omega
theorem swo_cb : Swo cb where
  irrefl a := by
    have := blt_irr a; rw [← cb_lt] at this; simpa [Go.Proofs.ltOf] using this
  trans a b c h k := by
    simp only [Go.Proofs.ltOf, decide_eq_true_eq, cb_lt] at *
    exact blt_tr _ _ _ h k
  ntrans a b c h k := by
    simp only [Go.Proofs.ltOf, decide_eq_false_iff_not, cb_lt] at *
    unfold blt at *; omega
/-- Lists in order, with the same things, are one. -/
theorem sorted_uniq : ∀ {l m : List Br}, l.Perm m → (l.Pairwise fun x y => ¬ blt y x) → (m.Pairwise fun x y => ¬ blt y x) → l = m
  | [], m, hp, _, _ => (List.nil_perm.1 hp).symm
  | a :: l, [], hp, _, _ => by have := hp.length_eq; simp at this
  | a :: l, b :: m, hp, hl, hm => by
    rw [List.pairwise_cons] at hl hm
    have ha : a = b ∨ ¬ blt a b := by
      rcases List.mem_cons.1 (hp.mem_iff.1 (List.mem_cons_self ..)) with e | e
      · exact .inl e
      · exact .inr (hm.1 a e)
    have hb : b = a ∨ ¬ blt b a := by
      rcases List.mem_cons.1 (hp.mem_iff.2 (List.mem_cons_self ..)) with e | e
      · exact .inl e
      · exact .inr (hl.1 b e)
    have e : a = b := by
      rcases ha with e | h1
      · exact e
      · rcases hb with e | h2
        · exact e.symm
        · exact blt_tot _ _ h1 h2
    subst e
    rw [sorted_uniq (List.perm_cons a |>.1 hp) hl.2 hm.2]
theorem blt_weak {l : List Br} (h : l.Pairwise blt) : l.Pairwise fun x y => ¬ blt y x := h.imp fun {a b} h k => blt_irr _ (blt_tr _ _ _ h k)
theorem blt_strict {l : List Br} (h : l.Pairwise fun x y => ¬ blt y x) (hn : l.Nodup) : l.Pairwise blt := by
  have := List.Pairwise.and h hn
  refine this.imp fun {a b} ⟨h1, h2⟩ => ?_
  exact Decidable.byContradiction fun c => h2 (blt_tot _ _ c h1)
/-! ### To whom each node sends on -/
structure BagNx (L : List Br) (out : List (Int × Value × List Int)) : Prop where
  nd : (out.map Prod.fst).Nodup
  at_ : ∀ k, (bagAt out k).2 = kids L k
  keys : ∀ k, k ∈ out.map Prod.fst ↔ kids L k ≠ []
theorem bagAt_mset (m : List (Int × Value × List Int)) (k k' : Int) (x : Value × List Int) : bagAt (mset m k x) k' = if k' = k then x else bagAt m k' := by
  unfold bagAt; rw [mget_mset]; split <;> rfl
theorem BagNx.add {L : List Br} {out : List (Int × Value × List Int)} (h : BagNx L out) (e : Br) (v : Value) : BagNx (L ++ [e]) (mset out e.1 (v, (bagAt out e.1).2 ++ [e.2])) := by
  refine ⟨nodup_mset h.nd _ _, fun k => ?_, fun k => ?_⟩
  · rw [bagAt_mset, kids_snoc]
    by_cases c : k = e.1
    · subst c; rw [if_pos rfl, if_pos rfl, h.at_]
    · rw [if_neg c, if_neg (fun q => c q.symm), h.at_]
  · rw [keys_mset, kids_snoc]
    by_cases c : e.1 = k
    · subst c; rw [if_pos rfl]
      split
      · rename_i q; simp [q]
      · simp
    · rw [if_neg c]
      split
      · exact h.keys k
      · rw [List.mem_append, List.mem_singleton, h.keys k]
        constructor
        · rintro (q | q)
          · exact q
          · exact absurd q.symm c
        · exact .inl
theorem BagNx.ent {L : List Br} {out : List (Int × Value × List Int)} (h : BagNx L out) {p : Int × Value × List Int} (hp : p ∈ out) : p.2.2 = kids L p.1 := by
  have := (mem_iff_mget h.nd p.1 p.2).1 hp
  rw [← h.at_ p.1]; unfold bagAt; rw [this]; rfl
theorem nexts_ok {r : Int} {L : List Br} {Q : List (Int × Value × List Int) → Prop} (hl : L.length ≤ 100000) (h : ∀ out, BagNx L out → Q out) : tree_nexts_W r L Q := by
  refine loop_up L.length (fun i s => BagNx (L.take i) s) ⟨by simp, fun k => rfl, fun k => by simp [kids]⟩ fun K i s hi hI hK => ?_
  unfold tree_nexts_l1
  refine ⟨fun c => ?_, fun c => ?_⟩
  · have hlt : i < L.length := by omega
    have hk := kids_len (L.take i) (gi L (i : Int)).1
    rw [List.length_take] at hk
    refine ⟨by omega, ?_, fun v => ⟨by unfold I64; omega, hK (i + 1) _ (by omega) hlt ?_⟩⟩
    · rw [hI.at_]; simp only [List.length_cons, List.length_nil]; omega
    · rw [List.take_succ_eq_append_getElem hlt, gi_nat hlt]; exact hI.add _ v
  · have : i = L.length := by omega
    subst this; rw [List.take_length] at hI; exact h _ hI
/-! ### Who is reached, from above downwards -/
structure WI (L : List Br) (a : Int) (i : Nat) (seen : List (Int × Int)) (out : List Int) : Prop where
  seen : ∀ x, mget0 seen x = 0 ↔ x ∉ out
  nd : out.Nodup
  fst : out[0]? = some a
  rch : ∀ x ∈ out, Rch L a x
  pre : ∀ (j : Nat) (y : Int), 0 < j → out[j]? = some y → ∃ k x, k < j ∧ out[k]? = some x ∧ (x, y) ∈ L
  cls : ∀ (j : Nat) (x : Int), j < i → out[j]? = some x → ∀ y, (x, y) ∈ L → y ∈ out
theorem WI.add {L : List Br} {a x y : Int} {i k : Nat} {seen : List (Int × Int)} {out : List Int} (w : WI L a i seen out) (hx : out[k]? = some x) (hl : (x, y) ∈ L) (hy : y ∉ out) (hi : i ≤ out.length) : WI L a i (mset seen y 1) (out ++ [y]) := by
  have hk : k < out.length := (List.getElem?_eq_some_iff.1 hx).1
  have mem : x ∈ out := List.mem_of_getElem? hx
  refine ⟨fun z => ?_, ?_, ?_, fun z hz => ?_, fun j z hj hz => ?_, fun j z hj hz u hu => ?_⟩
  · rw [mget0_mset, List.mem_append, List.mem_singleton]
    split
    · rename_i e; subst e; simp
    · rename_i e; rw [w.seen]; simp [e]
  · rw [List.nodup_append]; exact ⟨w.nd, by simp, fun p hp q hq => by rw [List.mem_singleton] at hq; subst hq; rintro rfl; exact hy hp⟩
  · rw [List.getElem?_append_left (by omega)]; exact w.fst
  · rcases List.mem_append.1 hz with hz | hz
    · exact w.rch z hz
    · rw [List.mem_singleton] at hz; subst hz; exact (w.rch x mem).step hl
  · by_cases c : j < out.length
    · rw [List.getElem?_append_left c] at hz
      obtain ⟨k', x', h1, h2, h3⟩ := w.pre j z hj hz
      exact ⟨k', x', h1, by rw [List.getElem?_append_left (by omega)]; exact h2, h3⟩
    · have hj2 : j = out.length := by
        have := (List.getElem?_eq_some_iff.1 hz).1; simp at this; omega
      subst hj2
      rw [List.getElem?_append_right (Nat.le_refl _)] at hz
      simp at hz; subst hz
      exact ⟨k, x, hk, by rw [List.getElem?_append_left hk]; exact hx, hl⟩
  · rw [List.getElem?_append_left (by omega)] at hz
    exact List.mem_append_left _ (w.cls j z hj hz u hu)
/-- All who are reached, each behind one who sends on to him. -/
structure WalkIs (L : List Br) (a : Int) (out : List Int) : Prop extends IsR L a out where
  fst : out[0]? = some a
  pre : ∀ (j : Nat) (y : Int), 0 < j → out[j]? = some y → ∃ k x, k < j ∧ out[k]? = some x ∧ (x, y) ∈ L
theorem walk_ok {r a : Int} {L : List Br} {Q : List Int → Prop} (hl : L.length ≤ 100000) (h : ∀ out, WalkIs L a out → Q out) : tree_walk_W r L a Q := by
  refine nexts_ok hl fun nx hnx => ?_
  refine loop_by (fun s => s.2.2) (L.length + 1) (fun i s => WI L a i s.1 s.2.1 ∧ i ≤ s.2.1.length) rfl ?_ ?_
  · refine ⟨⟨fun x => ?_, by simp, rfl, fun x hx => ?_, fun j y hj hy => ?_, by omega⟩, by simp⟩
    · rw [mget0_mset]; by_cases c : x = a
      · simp [c]
      · simp [c, mget0, mget]
    · rw [List.mem_singleton] at hx; subst hx; exact .refl
    · have := (List.getElem?_eq_some_iff.1 hy).1; simp at this; omega
  rintro K i ⟨seen, out, _⟩ rfl hi ⟨w, hio⟩ hK
  simp only at w hio hi
  show tree_walk_l1 _ _ _ seen out (i : Int)
  unfold tree_walk_l1
  have hlen := rch_len w.nd w.rch
  refine ⟨fun c => ⟨by omega, ?_⟩, fun c => ?_⟩
  · have hlt : i < out.length := by omega
    obtain ⟨x, hx⟩ : ∃ x, out[i]? = some x := ⟨_, List.getElem?_eq_getElem hlt⟩
    have hkl := kids_len L x
    refine loop_by (fun s => s.2.2) (kids L x).length (fun n s => WI L a i s.1 s.2.1 ∧ i < s.2.1.length ∧ s.2.1[i]? = some x ∧ ∀ j (hj : j < (kids L x).length), j < n → (kids L x)[j] ∈ s.2.1) rfl ⟨w, hlt, hx, by omega⟩ ?_
    rintro K2 n ⟨seen2, out2, _⟩ rfl hn ⟨w2, hl2, hx2, hd2⟩ hK2
    simp only at w2 hl2 hx2 hd2 hn
    show tree_walk_l2 _ _ _ _ _ seen2 out2 (n : Int)
    unfold tree_walk_l2
    rw [show gi out ((i : Nat) : Int) = x by rw [gi_nat hlt]; exact (List.getElem?_eq_some_iff.1 hx).2]
    simp only [hnx.at_]
    have hlen2 := rch_len w2.nd w2.rch
    refine ⟨fun c2 => ?_, fun c2 => ?_⟩
    · have hn2 : n < (kids L x).length := by omega
      rw [gi_nat hn2]
      have hmem : (x, (kids L x)[n]) ∈ L := mem_kids.1 (List.getElem_mem hn2)
      refine ⟨by omega, fun d => ⟨by simp only [List.length_cons, List.length_nil]; omega, by unfold I64; omega, ?_⟩, fun d => ⟨by unfold I64; omega, ?_⟩⟩
      · refine hK2 (n + 1) _ rfl (by omega) hn2 ⟨w2.add hx2 hmem ((w2.seen _).1 d) (by omega), by simp; omega, ?_, fun j hj hjn => ?_⟩
        · rw [List.getElem?_append_left hl2]; exact hx2
        · by_cases e : j = n
          · subst e; simp
          · exact List.mem_append_left _ (hd2 j hj (by omega))
      · refine hK2 (n + 1) _ rfl (by omega) hn2 ⟨w2, hl2, hx2, fun j hj hjn => ?_⟩
        by_cases e : j = n
        · subst e; exact Decidable.byContradiction fun q => d ((w2.seen _).2 q)
        · exact hd2 j hj (by omega)
    · have hn2 : n = (kids L x).length := by omega
      refine ⟨by unfold I64; omega, hK (i + 1) _ rfl (by omega) (by omega) ⟨⟨w2.seen, w2.nd, w2.fst, w2.rch, w2.pre, fun j z hj hz u hu => ?_⟩, by simp only; omega⟩⟩
      by_cases e : j = i
      · subst e; rw [hx2] at hz; injection hz with hz; subst hz
        obtain ⟨m, hm, rfl⟩ := List.mem_iff_getElem.1 (mem_kids.2 hu)
        exact hd2 m hm (by omega)
      · exact w2.cls j z (by omega) hz u hu
  · have hi2 : i = out.length := by omega
    refine h out { toIsR := IsR.of_closed w.nd (List.mem_of_getElem? w.fst) w.rch fun e he hm => ?_, fst := w.fst, pre := w.pre }
    obtain ⟨j, hj, hj2⟩ := List.mem_iff_getElem.1 hm
    exact w.cls j e.1 (by omega) (by rw [List.getElem?_eq_getElem hj, hj2]) e.2 he
/-! ### Good trees -/
theorem nodup_of_len {α : Type} [DecidableEq α] : ∀ {m l : List α}, l.Nodup → (∀ x ∈ l, x ∈ m) → m.length ≤ l.length → m.Nodup
  | [], _, _, _, _ => by simp
  | a :: m, l, hn, hs, hl => by
    have ha : a ∉ m := by
      intro q
      have := nodup_le (m := m) hn (fun x hx => by
        rcases List.mem_cons.1 (hs x hx) with rfl | h
        · exact q
        · exact h)
      simp only [List.length_cons] at hl; omega
    have hal : a ∈ l := nodup_full hn hs hl (List.mem_cons_self ..)
    refine List.nodup_cons.2 ⟨ha, nodup_of_len (l := l.erase a) (hn.erase a) (fun x hx => ?_) ?_⟩
    · have h1 := (hn.mem_erase_iff).1 hx
      rcases List.mem_cons.1 (hs x h1.2) with e | h
      · exact absurd e h1.1
      · exact h
    · rw [List.length_erase_of_mem hal]; simp only [List.length_cons] at hl; omega
theorem pw_snoc {α : Type} {R : α → α → Prop} (tr : ∀ a b c, R a b → R b c → R a c) {l : List α} {x : α} (h : l.Pairwise R) (hx : ∀ y, l.getLast? = some y → R y x) : (l ++ [x]).Pairwise R := by
  rw [List.pairwise_append]
  refine ⟨h, by simp, fun a ha b hb => ?_⟩
  rw [List.mem_singleton] at hb; subst hb
  rcases List.eq_nil_or_concat l with rfl | ⟨m, y, rfl⟩
  · cases ha
  · rw [List.concat_eq_append] at h ha hx
    have hy := hx y (by simp)
    rcases List.mem_append.1 ha with ha | ha
    · exact tr _ _ _ ((List.pairwise_append.1 h).2.2 a ha y (by simp)) hy
    · rw [List.mem_singleton] at ha; subst ha; exact hy
structure GI (r : Int) (L : List Br) (i : Nat) (into : List (Int × Int)) : Prop where
  nd : (into.map Prod.fst).Nodup
  mem : ∀ x, x ∈ into.map Prod.fst ↔ x ∈ (L.take i).map (·.2)
  cnt : ∀ x, 0 ≤ mget0 into x ∧ mget0 into x ≤ i
  root : ∀ e ∈ L.take i, e.2 ≠ r
  ris : (L.take i).Pairwise blt
theorem good_ok {r : Int} {L : List Br} {Q : Bool → Prop} (hl : L.length ≤ 100000) (h : ∀ b : Bool, (b = true ↔ Gd r L) → Q b) : tree_good_W r L Q := by
  have no : ¬ Gd r L → Q false := fun c => h false ⟨(fun q => by cases q), fun q => absurd q c⟩
  refine loop_up L.length (fun i s => GI r L i s) ⟨by simp, by simp, fun x => ⟨by simp [mget0, mget], by simp [mget0, mget]⟩, by simp, by simp⟩ fun K i into hi g hK => ?_
  show tree_good_l1 _ _ _ _ into (i : Int)
  unfold tree_good_l1
  have j1 : ∀ b : Bool, i < L.length → (b = true → ¬ Gd r L) → (b = false → (gi L (i : Int)).2 ≠ r ∧ ∀ y, (L.take i).getLast? = some y → blt y (gi L (i : Int))) → tree_good_j1 L Q into (i : Int) (fun into_1 n_1 => K (into_1, n_1)) b := by
    intro b hlt hb1 hb2
    refine ⟨fun c => no (hb1 c), fun c => ?_⟩
    obtain ⟨h1, h2⟩ := hb2 c
    have hc := g.cnt (gi L (i : Int)).2
    refine ⟨by unfold I64; omega, by unfold I64; omega, hK (i + 1) _ (by omega) hlt ?_⟩
    have ht : L.take (i + 1) = L.take i ++ [gi L (i : Int)] := by rw [List.take_succ_eq_append_getElem hlt, gi_nat hlt]
    refine ⟨nodup_mset g.nd _ _, fun x => ?_, fun x => ?_, fun e he => ?_, ?_⟩
    · rw [keys_mset, ht, List.map_append, List.mem_append, ← g.mem x]
      split
      · rename_i q
        simp only [List.map_cons, List.map_nil, List.mem_singleton]
        constructor
        · exact .inl
        · rintro (p | rfl)
          · exact p
          · exact q
      · rw [List.mem_append]; simp
    · rw [mget0_mset]; split
      · omega
      · have := g.cnt x; omega
    · rw [ht] at he
      rcases List.mem_append.1 he with he | he
      · exact g.root e he
      · rw [List.mem_singleton] at he; subst he; exact h1
    · rw [ht]; exact pw_snoc blt_tr g.ris h2
  refine ⟨fun c => ?_, fun c => ?_⟩
  · have hlt : i < L.length := by omega
    refine ⟨by omega, fun d => j1 true hlt (fun _ q => q.root _ (by rw [gi_nat hlt]; exact List.getElem_mem hlt) d) (fun q => by cases q), fun d => ⟨fun e => ⟨by unfold I64; omega, by omega, order_ok ?_⟩, fun e => ?_⟩⟩
    · have hi1 : i - 1 < L.length := by omega
      have e1 : gi L ((i : Int) - 1) = L[i - 1] := by rw [show (i : Int) - 1 = ((i - 1 : Nat) : Int) by omega, gi_nat hi1]
      rw [e1]
      refine j1 _ hlt (fun q => ?_) (fun q => ⟨d, fun y hy => ?_⟩)
      · intro gd
        have h1 := List.pairwise_iff_getElem.1 gd.ris (i - 1) i hi1 hlt (by omega)
        have h2 := (cb_lt L[i - 1] (gi L (i : Int))).2 (by rw [gi_nat hlt]; exact h1)
        simp only [decide_eq_true_eq] at q; omega
      · rw [last_take (by omega) (by omega)] at hy; injection hy with hy; subst hy
        simp only [decide_eq_false_iff_not] at q
        exact (cb_lt _ _).1 (by omega)
    · have : i = 0 := by omega
      subst this
      exact j1 _ hlt (fun q => by cases q) (fun _ => ⟨d, fun y hy => by simp at hy⟩)
  · have hi2 : i = L.length := by omega
    subst hi2
    have gm := g.mem; have gr := g.root; have gs := g.ris
    rw [List.take_length] at gm gr gs
    refine ⟨fun c2 => ⟨fun c3 => ⟨by unfold I64; omega, walk_ok hl fun out w => h _ ?_⟩, fun c3 => no fun gd => c3 ?_⟩, fun c2 => no fun gd => c2 (by have := gd.few; omega)⟩
    · have hnd : (L.map (·.2)).Nodup := nodup_of_len g.nd (fun x hx => (gm x).1 hx) (by simp only [List.length_map]; omega)
      rw [decide_eq_true_eq]
      constructor
      · intro e
        exact { toGd0 := Gd0.of_len gr hnd w.toIsR (by omega), ris := gs, few := by omega }
      · intro gd
        have := gd.toGd0.len w.toIsR; omega
    · have := nodup_same g.nd gd.ends gm
      simp only [List.length_map] at this; omega
theorem goodG_ok {r : Int} {L : List Br} {Q : Bool → Prop} (hl : L.length ≤ 100000) (g : Gd r L) (h : Q true) : tree_good_W r L Q := good_ok hl fun b hb => by rw [hb.2 g]; exact h
theorem of_ok {r : Int} {l : List Br} {Q : Int → List Br → Int → Prop} (hl : l.length < 256) (h : ∀ L, L.Perm l → (L.Pairwise fun x y => ¬ blt y x) → (Gd r L → Q r L 0) ∧ (¬ Gd r L → Q 0 [] 2)) : tree_Of_W r l Q := by
  refine ⟨fun c => by omega, fun _ => ⟨cb, fun a b => order_ok rfl, by omega, swo_cb, by omega, fun L hp hs => ?_⟩⟩
  have hs' : L.Pairwise fun x y => ¬ blt y x := hs.imp fun {a b} q => by rw [← cb_lt]; exact q
  obtain ⟨h1, h2⟩ := h L hp hs'
  have hln := hp.length_eq
  refine good_ok (by omega) fun b hb => ⟨fun c => h2 fun g => ?_, fun c => h1 (hb.1 ?_)⟩
  · have := hb.2 g; rw [this] at c; cases c
  · simpa using c
end Go.Wk
