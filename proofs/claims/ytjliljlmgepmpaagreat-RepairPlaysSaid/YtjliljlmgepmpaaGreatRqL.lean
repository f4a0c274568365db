/- Plain words: leaving, as the program and as the reference do it. -/
import Derived.Test.YtjliljlmgepmpaaGreatReP7
set_option linter.unusedSimpArgs false
set_option linter.unusedVariables false
set_option linter.unusedSectionVars false
namespace Go.Wk
open Go.HL
variable [DM]
def cutTo (T : List Br) (k : Int) : List Br := T.filter fun e => !decide (e.2 = k)
theorem mem_cutTo {T : List Br} {k : Int} {e : Br} : e ∈ cutTo T k ↔ e ∈ T ∧ e.2 ≠ k := by simp [cutTo]
theorem cutTo_self {T : List Br} {k : Int} (h : k ∉ T.map (·.2)) : cutTo T k = T := List.filter_eq_self.2 fun e he => by
  have : e.2 ≠ k := fun q => h (List.mem_map.2 ⟨e, he, q⟩)
  simp [this]
theorem cutTo_sub (T : List Br) (k : Int) : (cutTo T k).Sublist T := List.filter_sublist
theorem kids_cutTo (T : List Br) (k y : Int) : kids (cutTo T k) y = (kids T y).filter fun z => !decide (z = k) := by
  unfold kids cutTo
  rw [List.filter_map, List.filter_filter, List.filter_filter]
  congr 1
  apply List.filter_congr
  intro e _
  simp only [Function.comp_apply]
  exact Bool.and_comm _ _
theorem kids_append (A B : List Br) (y : Int) : kids (A ++ B) y = kids A y ++ kids B y := by simp [kids]
theorem kids_sub {A B : List Br} (h : A.Sublist B) (y : Int) : (kids A y).Sublist (kids B y) := (h.filter _).map _
theorem kids_nil {T : List Br} {y : Int} : kids T y = [] ↔ y ∉ T.map (·.1) := by
  constructor
  · intro h q
    obtain ⟨e, he, rfl⟩ := List.mem_map.1 q
    have : e.2 ∈ kids T e.1 := mem_kids.2 he
    rw [h] at this; cases this
  · intro h
    rcases hq : kids T y with _ | ⟨z, l⟩
    · rfl
    · have : (y, z) ∈ T := mem_kids.1 (by rw [hq]; simp)
      exact absurd (List.mem_map.2 ⟨_, this, rfl⟩) h
abbrev Srtd (L : List Br) : Prop := L.Pairwise fun a b => ¬ blt b a
theorem Gd0.srt {r : Int} {l L : List Br} (g : Gd0 r l) (hp : L.Perm l) (hs : Srtd L) (hl : l.length < 256) : Gd r L := by
  have g' := g.perm hp
  refine { toGd0 := g', ris := blt_strict hs ?_, few := by rw [hp.length_eq]; exact hl }
  exact (List.pairwise_map.1 g'.ends).imp fun {a b} q e => q (by rw [e])
theorem leaf_iff {r : Int} {T : List Br} (g : Gd0 r T) {y : Int} : (Rch T r y ∧ y ≠ r ∧ kids T y = []) ↔ y ∈ T.map (·.2) ∧ y ∉ T.map (·.1) := by
  rw [g.reach, kids_nil]
  constructor
  · rintro ⟨h1, h2, h3⟩
    exact ⟨h1.resolve_left h2, h3⟩
  · rintro ⟨h1, h2⟩
    refine ⟨.inr h1, ?_, h2⟩
    obtain ⟨e, he, rfl⟩ := List.mem_map.1 h1
    exact g.root e he
theorem LeafIs.of_ends {r : Int} {T : List Br} {M : List Int} (g : Gd0 r T) (hm : M.Pairwise (· < ·)) (h : ∀ y, y ∈ M ↔ y ∈ T.map (·.2) ∧ y ∉ T.map (·.1)) : LeafIs T r M :=
  ⟨hm, fun y => (h y).trans (leaf_iff g).symm⟩
structure Cx (r : Int) (x : List Int) (fan : Nat) (U : List Int) : Prop where
  nd : x.Nodup
  rx : r ∉ x
  ru : r ∉ U
  off : ∀ y ∈ x, y ∉ U
  lx : x.length ≤ 12
  lu : U.length ≤ 20
  f1 : 1 ≤ fan
  f2 : fan ≤ 64
structure VI (r : Int) (T : List Br) (M x : List Int) (fan : Nat) : Prop where
  good : Gd r T
  leaf : LeafIs T r M
  inn : ∀ e ∈ T, e.1 = r ∨ e.1 ∈ x
  cap : (∀ y, (kids T y).length ≤ fan) ∨ (¬ FitsP M.length x.length fan ∧ T = M.map fun m => (r, m))
section
variable {r n : Int} {T L : List Br} {M x U : List Int} {fan : Nat}
theorem Cx.lm (c : Cx r x fan U) (hm : M.Pairwise (· < ·)) (hM : ∀ y ∈ M, y ∈ U) : M.length ≤ 20 := Nat.le_trans (nodup_le (rise_nodup hm) hM) c.lu
theorem Cx.all (c : Cx r x fan U) (hm : M.Pairwise (· < ·)) (hM : ∀ y ∈ M, y ∈ U) : (r :: (x ++ M)).Nodup := by
  rw [List.nodup_cons, List.nodup_append]
  refine ⟨fun q => ?_, c.nd, rise_nodup hm, fun y hy z hz e => ?_⟩
  · rcases List.mem_append.1 q with q | q
    · exact c.rx q
    · exact c.ru (hM _ q)
  · subst e; exact c.off y hy (hM _ hz)
theorem VI.to_ (v : VI r T M x fan) {e : Br} (he : e ∈ T) : e.2 ∈ M ∨ e.2 ∈ x := by
  rcases hq : kids T e.2 with _ | ⟨y, l⟩
  · exact .inl ((v.leaf.mem _).2 ⟨v.good.all e he, v.good.root e he, hq⟩)
  · have : (e.2, y) ∈ T := mem_kids.1 (by rw [hq]; simp)
    rcases v.inn _ this with q | q
    · exact absurd q (v.good.root e he)
    · exact .inr q
theorem VI.mem (v : VI r T M x fan) {y : Int} : y ∈ M ↔ y ∈ T.map (·.2) ∧ y ∉ T.map (·.1) := (v.leaf.mem y).trans (leaf_iff v.good.toGd0)
theorem VI.off (v : VI r T M x fan) (h1 : n ∉ M) (h2 : n ∉ x) : n ∉ T.map (·.2) := fun q => by
  obtain ⟨e, he, rfl⟩ := List.mem_map.1 q
  rcases v.to_ he with p | p
  · exact h1 p
  · exact h2 p
theorem VI.offF (v : VI r T M x fan) (h1 : n ≠ r) (h2 : n ∉ x) : n ∉ T.map (·.1) := fun q => by
  obtain ⟨e, he, rfl⟩ := List.mem_map.1 q
  rcases v.inn e he with p | p
  · exact h1 p
  · exact h2 p
theorem VI.len (v : VI r T M x fan) : T.length ≤ M.length + x.length := by
  have := nodup_le (m := M ++ x) v.good.ends fun y hy => by
    obtain ⟨e, he, rfl⟩ := List.mem_map.1 hy
    exact List.mem_append.2 (v.to_ he)
  simpa using this
theorem VI.few (c : Cx r x fan U) (v : VI r T M x fan) (hM : ∀ y ∈ M, y ∈ U) : T.length ≤ 32 := by
  have := v.len; have := c.lm v.leaf.ris hM; have := c.lx; omega
def StarP (T : List Br) (fan : Nat) : Prop := ∃ y, fan < (kids T y).length
theorem FanIs.lt {f : Nat} (h : FanIs T f) : fan < f ↔ StarP T fan := by
  constructor
  · intro q
    rcases h.is with e | ⟨y, hy⟩
    · omega
    · exact ⟨y, by omega⟩
  · rintro ⟨y, hy⟩
    have := h.le y; omega
theorem MadeT.vi (c : Cx r x fan U) (hm : M.Pairwise (· < ·)) (hM : ∀ y ∈ M, y ∈ U) (h : MadeT r M x fan L) : VI r L M x fan := by
  have hN := c.all hm hM
  have lm := c.lm hm hM; have lx := c.lx
  refine ⟨h.good hN hm (by omega) c.f1, h.leaf hN hm c.f1, fun e he => ?_, ?_⟩
  · rcases h with ⟨h1, rfl⟩ | ⟨k, hk, hkx, hp, _⟩
    · obtain ⟨n, _, rfl⟩ := List.mem_map.1 he; exact .inl rfl
    · have hsl : (x.take k).length = k := by simp; omega
      rcases mk_from c.f1 (by rw [hsl]; exact hk) (hp.mem_iff.1 he) with q | q
      · exact .inl q
      · exact .inr (List.mem_of_mem_take q)
  · rcases h with ⟨h1, rfl⟩ | ⟨k, hk, hkx, hp, _⟩
    · exact .inr ⟨h1, rfl⟩
    · have hsl : (x.take k).length = k := by simp; omega
      refine .inl fun y => ?_
      rw [(kids_perm hp y).length_eq]
      exact mk_fan (take_nd hN k) c.f1 (by rw [hsl]; exact hk) y
theorem VI.valid {s : List Int} (v : VI r T M x fan) (hs : s.Pairwise (· < ·)) (hx : x.Perm s) : ValidP r T r M s fan := by
  refine ⟨v.good, rfl, v.leaf.ris, hs, v.leaf, fun e he => (v.inn e he).imp_right hx.mem_iff.1, fun f hf => ?_⟩
  rcases v.cap with q | ⟨q1, q2⟩
  · left
    rcases hf.is with e | ⟨y, hy⟩
    · omega
    · rw [← hy]; exact q y
  · exact .inr ⟨by rw [← hx.length_eq]; exact q1, q2⟩
def hasB (r : Int) (T : List Br) (n : Int) : Bool := decide (n = r ∨ n ∈ T.map (·.2))
def roomO (r : Int) (T : List Br) (x : List Int) (fan : Nat) : Option Int := (r :: x).find? fun y => hasB r T y && decide ((kids T y).length < fan)
def freshO (r : Int) (T : List Br) (x : List Int) : Option Int := x.find? fun s => !hasB r T s
def lastK (T : List Br) (r : Int) : Int := gi (kids T r) (((kids T r).length : Int) - 1)
inductive JoinR (r : Int) (T : List Br) (M : List Int) (n : Int) (x : List Int) (fan : Nat) (L : List Br) : Prop
  | star (h : StarP T fan) (hm : MadeT r (addI M n) x fan L)
  | room (h : ¬ StarP T fan) (a : Int) (hr : roomO r T x fan = some a) (hp : L.Perm (T ++ [(a, n)])) (hs : Srtd L)
  | none (h : ¬ StarP T fan) (hr : roomO r T x fan = none) (hf : freshO r T x = none ∨ fan < 2) (e : L = (addI M n).map fun m => (r, m))
  | fresh (h : ¬ StarP T fan) (hr : roomO r T x fan = none) (s : Int) (hf : freshO r T x = some s) (h2 : 2 ≤ fan) (hp : L.Perm (cutTo T (lastK T r) ++ [(r, s), (s, lastK T r), (s, n)])) (hs : Srtd L)
theorem JoinR.uniq {K : List Br} (h : JoinR r T M n x fan L) (k : JoinR r T M n x fan K) : L = K := by
  cases h with
  | star h hm =>
    cases k with
    | star k km => exact hm.uniq km
    | room k => exact absurd h k
    | none k => exact absurd h k
    | fresh k => exact absurd h k
  | room h a hr hp hs =>
    cases k with
    | star k => exact absurd k h
    | room k b kr kp ks => rw [hr] at kr; injection kr with e; subst e; exact sorted_uniq (hp.trans kp.symm) hs ks
    | none k kr => rw [hr] at kr; cases kr
    | fresh k kr => rw [hr] at kr; cases kr
  | none h hr hf e =>
    cases k with
    | star k => exact absurd k h
    | room k b kr => rw [hr] at kr; cases kr
    | none k kr kf e2 => rw [e, e2]
    | fresh k kr s kf k2 =>
      rcases hf with q | q
      · rw [q] at kf; cases kf
      · omega
  | fresh h hr s hf h2 hp hs =>
    cases k with
    | star k => exact absurd k h
    | room k b kr => rw [hr] at kr; cases kr
    | none k kr kf e =>
      rcases kf with q | q
      · rw [q] at hf; cases hf
      · omega
    | fresh k kr s' kf k2 kp ks => rw [hf] at kf; injection kf with e; subst e; exact sorted_uniq (hp.trans kp.symm) hs ks
theorem Gd0.snoc {a : Int} (g : Gd0 r T) (ha : Rch T r a) (hn : n ≠ r) (hn2 : n ∉ T.map (·.2)) : Gd0 r (T ++ [(a, n)]) := by
  have mo : ∀ {y}, Rch T r y → Rch (T ++ [(a, n)]) r y := fun h => h.mono fun e he => List.mem_append_left _ he
  refine ⟨fun e he => ?_, ?_, fun e he => ?_⟩
  · rcases List.mem_append.1 he with he | he
    · exact g.root e he
    · rw [List.mem_singleton] at he; subst he; exact hn
  · rw [List.map_append, List.nodup_append]
    refine ⟨g.ends, by simp, fun y hy z hz e => ?_⟩
    simp at hz; subst hz; subst e; exact hn2 hy
  · rcases List.mem_append.1 he with he | he
    · exact mo (g.all e he)
    · rw [List.mem_singleton] at he; subst he
      exact (mo ha).step (List.mem_append_right _ (List.mem_singleton.2 rfl))
theorem filter_two {α : Type} (p : α → Bool) (l : List α) : (l.filter p).length + (l.filter fun e => !p e).length = l.length := by
  induction l with
  | nil => rfl
  | cons a l ih => cases h : p a <;> simp [List.filter_cons, h] <;> omega
theorem count_from : ∀ (l : List Int) (T : List Br) (c : Nat), l.Nodup → (∀ e ∈ T, e.1 ∈ l) → (∀ y ∈ l, (kids T y).length = c) → T.length = l.length * c
  | [], T, c, _, h, _ => by
    rcases T with _ | ⟨e, T⟩
    · simp
    · exact absurd (h e (by simp)) (by simp)
  | a :: l, T, c, hn, h, hc => by
    rw [List.nodup_cons] at hn
    have h1 := count_from l (T.filter fun e => !decide (e.1 = a)) c hn.2 (fun e he => by
      rw [List.mem_filter] at he
      have := h e he.1
      rcases List.mem_cons.1 this with q | q
      · simp [q] at he
      · exact q) fun y hy => by
        rw [← hc y (List.mem_cons_of_mem _ hy)]
        unfold kids
        rw [List.length_map, List.length_map, List.filter_filter]
        congr 1
        apply List.filter_congr
        intro e _
        by_cases q : e.1 = y
        · have : y ≠ a := fun q2 => hn.1 (q2 ▸ hy)
          simp [q, this]
        · simp [q]
    have h2 := hc a (by simp)
    unfold kids at h2
    rw [List.length_map] at h2
    have h3 := filter_two (fun e : Br => decide (e.1 = a)) T
    rw [List.length_cons, Nat.add_mul, Nat.one_mul]; omega
theorem hasB_iff (g : Gd0 r T) {y : Int} : hasB r T y = true ↔ Rch T r y := by unfold hasB; rw [decide_eq_true_eq, g.reach]
theorem no_room (c : Cx r x fan U) (v : VI r T M x fan) (hM : ∀ y ∈ M, y ∈ U) (h : ¬ StarP T fan) (hr : roomO r T x fan = none) (hf : freshO r T x = none ∨ fan < 2) : ¬ FitsP (M.length + 1) x.length fan := by
  have g := v.good.toGd0
  have full : ∀ y, y ∈ r :: x → hasB r T y = true → (kids T y).length = fan := fun y hy hb => by
    have := List.find?_eq_none.1 hr y hy
    rw [hb] at this
    have h1 : ¬ (kids T y).length < fan := by simpa using this
    have h2 : ¬ fan < (kids T y).length := fun q => h ⟨y, q⟩
    omega
  have e1 := count_from (r :: x.filter (hasB r T)) T fan (List.nodup_cons.2 ⟨fun q => c.rx (List.mem_filter.1 q).1, c.nd.sublist List.filter_sublist⟩) (fun e he => by
    rcases v.inn e he with q | q
    · rw [q]; simp
    · exact List.mem_cons_of_mem _ (List.mem_filter.2 ⟨q, (hasB_iff g).2 (g.from_ (x := e.1) (y := e.2) he)⟩)) fun y hy => by
    rcases List.mem_cons.1 hy with q | q
    · subst q; exact full y (by simp) ((hasB_iff g).2 .refl)
    · obtain ⟨q1, q2⟩ := List.mem_filter.1 q
      exact full y (List.mem_cons_of_mem _ q1) q2
  have e2 : (T.map (·.2)).length = (x.filter (hasB r T) ++ M).length := by
    refine nodup_same g.ends ?_ fun y => ?_
    · rw [List.nodup_append]
      refine ⟨c.nd.sublist List.filter_sublist, rise_nodup v.leaf.ris, fun a ha b hb q => ?_⟩
      subst q
      exact c.off a (List.mem_filter.1 ha).1 (hM a hb)
    · rw [List.mem_append, List.mem_filter]
      constructor
      · intro hy
        obtain ⟨e, he, rfl⟩ := List.mem_map.1 hy
        rcases v.to_ he with q | q
        · exact .inr q
        · exact .inl ⟨q, (hasB_iff g).2 (g.all e he)⟩
      · rintro (⟨q1, q2⟩ | q)
        · rcases g.reach.1 ((hasB_iff g).1 q2) with q3 | q3
          · subst q3; exact absurd q1 c.rx
          · exact q3
        · exact (v.mem.1 q).1
  rw [List.length_map, List.length_append] at e2
  rw [List.length_cons, Nat.add_mul, Nat.one_mul] at e1
  rintro ⟨k, hk, hkx⟩
  have h1 := hk.1
  have f1 := c.f1
  rcases hf with q | q
  · have e3 : x.filter (hasB r T) = x := List.filter_eq_self.2 fun y hy => by
      have := List.find?_eq_none.1 q y hy
      simpa using this
    rw [e3] at e1 e2
    have h2 : k * (fan - 1) ≤ x.length * (fan - 1) := Nat.mul_le_mul_right _ hkx
    have h3 : x.length * (fan - 1) + x.length = x.length * fan := by rw [← Nat.mul_succ]; congr 1; omega
    omega
  · obtain rfl : fan = 1 := by omega
    omega
theorem len_addI' (hn : n ∉ M) : (addI M n).length = M.length + 1 := by unfold addI; rw [if_neg hn, len_insI]
theorem lastK_mem (h : kids T r ≠ []) : lastK T r ∈ kids T r := by
  have : 0 < (kids T r).length := List.length_pos_iff.2 h
  unfold lastK
  rw [show ((kids T r).length : Int) - 1 = (((kids T r).length - 1 : Nat) : Int) by omega]
  exact gi_memI (by omega)
theorem JoinR.vi (c : Cx r x fan U) (v : VI r T M x fan) (hM : ∀ y ∈ M, y ∈ U) (hn : n ∈ U) (hnM : n ∉ M) (h : JoinR r T M n x fan L) : VI r L (addI M n) x fan := by
  have g := v.good.toGd0
  have hA : ∀ y ∈ addI M n, y ∈ U := fun y hy => by
    rcases mem_addI.1 hy with q | q
    · rw [q]; exact hn
    · exact hM y q
  have hris := rise_addI (n := n) v.leaf.ris
  have hnr : n ≠ r := fun q => c.ru (q ▸ hn)
  have hnx : n ∉ x := fun q => c.off n q hn
  have hnT := v.off hnM hnx
  have hnF := v.offF hnr hnx
  have hfew := v.few c hM
  have hMr : ∀ y ∈ addI M n, y ∉ r :: x := fun y hy q => by
    rcases List.mem_cons.1 q with q | q
    · exact c.ru (q ▸ hA y hy)
    · exact c.off y q (hA y hy)
  cases h with
  | star h hm => exact hm.vi c hris hA
  | room h a hr hp hs =>
    have ha := List.find?_some hr
    have ham := List.mem_of_find?_eq_some hr
    rw [Bool.and_eq_true, decide_eq_true_eq] at ha
    have g' := g.snoc ((hasB_iff g).1 ha.1) hnr hnT
    have hMa : ∀ y ∈ addI M n, y ≠ a := fun y hy q => hMr y hy (q ▸ ham)
    refine ⟨g'.srt hp hs (by simp; omega), LeafIs.perm hp (LeafIs.of_ends g' hris fun y => ?_), fun e he => ?_, .inl fun y => ?_⟩
    · rw [List.map_append, List.map_append, List.mem_append, List.mem_append, mem_addI, v.mem]
      simp only [List.map_cons, List.map_nil, List.mem_singleton]
      constructor
      · intro q
        refine ⟨?_, ?_⟩
        · rcases q with q | q
          · exact .inr q
          · exact .inl q.1
        · rintro (q2 | q2)
          · rcases q with q | q
            · rw [q] at q2; exact hnF q2
            · exact q.2 q2
          · refine hMa y (mem_addI.2 ?_) q2
            rcases q with q | q
            · exact .inl q
            · exact .inr (v.mem.2 q)
      · rintro ⟨q | q, q2⟩
        · exact .inr ⟨q, fun q3 => q2 (.inl q3)⟩
        · exact .inl q
    · rcases List.mem_append.1 (hp.mem_iff.1 he) with q | q
      · exact v.inn e q
      · rw [List.mem_singleton] at q; subst q; exact List.mem_cons.1 ham
    · rw [(kids_perm hp y).length_eq, kids_snoc]
      have hle : ¬ fan < (kids T y).length := fun q => h ⟨y, q⟩
      by_cases q : a = y
      · subst q
        rw [if_pos rfl, List.length_append, List.length_singleton]; omega
      · rw [if_neg q]; omega
  | none h hr hf e =>
    have hr2 : r ∉ addI M n := fun q => c.ru (hA r q)
    subst e
    have lm := c.lm hris hA
    refine ⟨{ toGd0 := star_gd hr2 (rise_nodup hris), ris := star_ris hris, few := by simp; omega }, star_leaf hr2 hris, fun e he => ?_, .inr ⟨?_, rfl⟩⟩
    · obtain ⟨m, _, rfl⟩ := List.mem_map.1 he; exact .inl rfl
    · rw [len_addI' hnM]; exact no_room c v hM h hr hf
  | fresh h hr s hf h2 hp hs =>
    have hsb := List.find?_some hf
    have hsx := List.mem_of_find?_eq_some hf
    have hsR : ¬ Rch T r s := fun q => by rw [(hasB_iff g).2 q] at hsb; cases hsb
    have hsr : s ≠ r := fun q => hsR (q ▸ .refl)
    have hsT : s ∉ T.map (·.2) := fun q => hsR (g.reach.2 (.inr q))
    have hsF : s ∉ T.map (·.1) := fun q => by
      obtain ⟨e, he, rfl⟩ := List.mem_map.1 q
      exact hsR (g.from_ (x := e.1) (y := e.2) he)
    have hkr : (kids T r).length = fan := by
      have := List.find?_eq_none.1 hr r (by simp)
      rw [(hasB_iff g).2 .refl] at this
      have h1 : ¬ (kids T r).length < fan := by simpa using this
      have h2 : ¬ fan < (kids T r).length := fun q => h ⟨r, q⟩
      omega
    have hmk : lastK T r ∈ kids T r := lastK_mem fun q => by rw [q] at hkr; simp at hkr; omega
    generalize hmv : lastK T r = mv at hmk hp
    have hme : (r, mv) ∈ T := mem_kids.1 hmk
    have hmT : mv ∈ T.map (·.2) := List.mem_map.2 ⟨_, hme, rfl⟩
    have hmr : mv ≠ r := g.root _ hme
    have hmn : mv ≠ n := fun q => hnT (q ▸ hmT)
    have hsm : s ≠ mv := fun q => hsT (q ▸ hmT)
    have hsn : s ≠ n := fun q => hnx (q ▸ hsx)
    have inN : ∀ e, e ∈ cutTo T mv ++ [(r, s), (s, mv), (s, n)] ↔ (e ∈ T ∧ e.2 ≠ mv) ∨ e = (r, s) ∨ e = (s, mv) ∨ e = (s, n) := fun e => by
      rw [List.mem_append, mem_cutTo]; simp
    have rs : Rch (cutTo T mv ++ [(r, s), (s, mv), (s, n)]) r s := Rch.refl.step ((inN _).2 (.inr (.inl rfl)))
    have rm : Rch (cutTo T mv ++ [(r, s), (s, mv), (s, n)]) r mv := rs.step ((inN _).2 (.inr (.inr (.inl rfl))))
    have rn : Rch (cutTo T mv ++ [(r, s), (s, mv), (s, n)]) r n := rs.step ((inN _).2 (.inr (.inr (.inr rfl))))
    have all : ∀ y, Rch T r y → Rch (cutTo T mv ++ [(r, s), (s, mv), (s, n)]) r y := fun y hy => by
      induction hy with
      | refl => exact .refl
      | @step a b _ hl ih =>
        by_cases q : b = mv
        · rw [q]; exact rm
        · exact ih.step ((inN _).2 (.inl ⟨hl, q⟩))
    have g' : Gd0 r (cutTo T mv ++ [(r, s), (s, mv), (s, n)]) := by
      refine ⟨fun e he => ?_, ?_, fun e he => ?_⟩
      · rcases (inN e).1 he with q | q | q | q
        · exact g.root e q.1
        · rw [q]; exact hsr
        · rw [q]; exact hmr
        · rw [q]; exact hnr
      · rw [List.map_append, List.nodup_append]
        refine ⟨g.ends.sublist ((cutTo_sub T mv).map _), ?_, fun a ha b hb q => ?_⟩
        · simp [hsm, hsn, hmn]
        · subst q
          obtain ⟨e, he, rfl⟩ := List.mem_map.1 ha
          rw [mem_cutTo] at he
          have hT : e.2 ∈ T.map (·.2) := List.mem_map.2 ⟨e, he.1, rfl⟩
          simp only [List.map_cons, List.map_nil, List.mem_cons, List.not_mem_nil, or_false] at hb
          rcases hb with q | q | q
          · exact hsT (q ▸ hT)
          · exact he.2 q
          · exact hnT (q ▸ hT)
      · rcases (inN e).1 he with q | q | q | q
        · exact all _ (g.all e q.1)
        · rw [q]; exact rs
        · rw [q]; exact rm
        · rw [q]; exact rn
    have hcl : (cutTo T mv).length ≤ T.length := (cutTo_sub T mv).length_le
    refine ⟨g'.srt hp hs (by simp; omega), LeafIs.perm hp (LeafIs.of_ends g' hris fun y => ?_), fun e he => ?_, .inl fun y => ?_⟩
    · have eT : y ∈ (cutTo T mv ++ [(r, s), (s, mv), (s, n)]).map (·.2) ↔ y ∈ T.map (·.2) ∨ y = s ∨ y = n := by
        constructor
        · intro q
          obtain ⟨e, he, rfl⟩ := List.mem_map.1 q
          rcases (inN e).1 he with q | q | q | q
          · exact .inl (List.mem_map.2 ⟨e, q.1, rfl⟩)
          · rw [q]; exact .inr (.inl rfl)
          · rw [q]; exact .inl hmT
          · rw [q]; exact .inr (.inr rfl)
        · rintro (q | q | q)
          · obtain ⟨e, he, rfl⟩ := List.mem_map.1 q
            by_cases q2 : e.2 = mv
            · rw [q2]; exact List.mem_map.2 ⟨_, (inN _).2 (.inr (.inr (.inl rfl))), rfl⟩
            · exact List.mem_map.2 ⟨e, (inN e).2 (.inl ⟨he, q2⟩), rfl⟩
          · rw [q]; exact List.mem_map.2 ⟨_, (inN _).2 (.inr (.inl rfl)), rfl⟩
          · rw [q]; exact List.mem_map.2 ⟨_, (inN _).2 (.inr (.inr (.inr rfl))), rfl⟩
      have eF : y ∈ (cutTo T mv ++ [(r, s), (s, mv), (s, n)]).map (·.1) ↔ y ∈ T.map (·.1) ∨ y = r ∨ y = s := by
        constructor
        · intro q
          obtain ⟨e, he, rfl⟩ := List.mem_map.1 q
          rcases (inN e).1 he with q | q | q | q
          · exact .inl (List.mem_map.2 ⟨e, q.1, rfl⟩)
          · rw [q]; exact .inr (.inl rfl)
          · rw [q]; exact .inr (.inr rfl)
          · rw [q]; exact .inr (.inr rfl)
        · rintro (q | q | q)
          · obtain ⟨e, he, rfl⟩ := List.mem_map.1 q
            by_cases q2 : e.2 = mv
            · have : e.1 = r := g.one (x := e.1) (y := mv) (b := r) (q2 ▸ he) hme
              rw [this]; exact List.mem_map.2 ⟨_, (inN _).2 (.inr (.inl rfl)), rfl⟩
            · exact List.mem_map.2 ⟨e, (inN e).2 (.inl ⟨he, q2⟩), rfl⟩
          · rw [q]; exact List.mem_map.2 ⟨_, (inN _).2 (.inr (.inl rfl)), rfl⟩
          · rw [q]; exact List.mem_map.2 ⟨_, (inN _).2 (.inr (.inr (.inl rfl))), rfl⟩
      rw [eT, eF, mem_addI]
      constructor
      · intro q
        have hy := hMr y (mem_addI.2 q)
        refine ⟨?_, ?_⟩
        · rcases q with q | q
          · exact .inr (.inr q)
          · exact .inl (v.mem.1 q).1
        · rintro (q2 | q2 | q2)
          · rcases q with q | q
            · rw [q] at q2; exact hnF q2
            · exact (v.mem.1 q).2 q2
          · exact hy (q2 ▸ List.mem_cons_self ..)
          · exact hy (q2 ▸ List.mem_cons_of_mem _ hsx)
      · rintro ⟨q | q | q, q2⟩
        · exact .inr (v.mem.2 ⟨q, fun q3 => q2 (.inl q3)⟩)
        · exact absurd (.inr (.inr q)) q2
        · exact .inl q
    · rcases (inN e).1 (hp.mem_iff.1 he) with q | q | q | q
      · exact v.inn e q.1
      · rw [q]; exact .inl rfl
      · rw [q]; exact .inr hsx
      · rw [q]; exact .inr hsx
    · rw [(kids_perm hp y).length_eq, kids_append, List.length_append, kids_cutTo]
      have hle : ¬ fan < (kids T y).length := fun q => h ⟨y, q⟩
      have hfl := List.length_filter_le (fun z => !decide (z = mv)) (kids T y)
      by_cases q : y = s
      · subst q
        rw [kids_nil.2 hsF]
        have : kids [(r, y), (y, mv), (y, n)] y = [mv, n] := by simp [kids, Ne.symm hsr]
        rw [this]; simp; omega
      · by_cases q2 : y = r
        · subst q2
          have h3 : kids [(y, s), (s, mv), (s, n)] y = [s] := by simp [kids, hsr]
          have h4 : ((kids T y).filter fun z => !decide (z = mv)).length < (kids T y).length := by
            rw [List.length_filter_lt_length_iff_exists]
            exact ⟨mv, hmk, by simp⟩
          rw [h3]; simp only [List.length_singleton]; omega
        · have h3 : kids [(r, s), (s, mv), (s, n)] y = [] := by simp [kids, Ne.symm q, Ne.symm q2]
          rw [h3]; simp only [List.length_nil]; omega
inductive Pr (S : List Int) (T : List Br) : List Br → Prop
  | refl : Pr S T T
  | step {L : List Br} {s : Int} (h : Pr S T L) (hs : s ∈ S) (hk : kids L s = []) : Pr S T (cutTo L s)
def Stable (S : List Int) (L : List Br) : Prop := ∀ s ∈ S, kids L s = [] → s ∉ L.map (·.2)
theorem Pr.sub {S : List Int} (h : Pr S T L) : L.Sublist T := by
  induction h with
  | refl => exact List.Sublist.refl _
  | step _ _ _ ih => exact (cutTo_sub _ _).trans ih
theorem Pr.eqf {S : List Int} (h : Pr S T L) : ∃ p, L = T.filter p := by
  induction h with
  | refl => exact ⟨fun _ => true, (List.filter_eq_self.2 fun _ _ => rfl).symm⟩
  | step _ _ _ ih =>
    obtain ⟨p, rfl⟩ := ih
    exact ⟨_, by unfold cutTo; rw [List.filter_filter]⟩
theorem Pr.keep {S : List Int} (h : Pr S T L) {e : Br} (he : e ∈ T) (hn : e.2 ∉ S) : e ∈ L := by
  induction h with
  | refl => exact he
  | step _ hs _ ih => exact mem_cutTo.2 ⟨ih, fun q => hn (q ▸ hs)⟩
theorem Pr.closed {S : List Int} (h : Pr S T L) (h0 : ∀ e ∈ T, e.1 = r ∨ ∃ f ∈ T, f.2 = e.1) : ∀ e ∈ L, e.1 = r ∨ ∃ f ∈ L, f.2 = e.1 := by
  induction h with
  | refl => exact h0
  | @step L s _ hs hk ih =>
    intro e he
    rw [mem_cutTo] at he
    rcases ih e he.1 with q | ⟨f, hf, q⟩
    · exact .inl q
    · refine .inr ⟨f, mem_cutTo.2 ⟨hf, fun q2 => ?_⟩, q⟩
      have : e.2 ∈ kids L s := mem_kids.2 (by rw [← q2, q]; exact he.1)
      rw [hk] at this; cases this
theorem Gd0.up (g : Gd0 r T) : ∀ e ∈ T, e.1 = r ∨ ∃ f ∈ T, f.2 = e.1 := fun e he => by
  rcases g.reach.1 (g.from_ (x := e.1) (y := e.2) he) with q | q
  · exact .inl q
  · obtain ⟨f, hf, q⟩ := List.mem_map.1 q; exact .inr ⟨f, hf, q⟩
theorem Pr.min {S : List Int} {F : List Br} (h : Pr S T L) (k : Pr S T F) (hF : Stable S F) : ∀ e ∈ F, e ∈ L := by
  induction h with
  | refl => exact fun e he => k.sub.subset he
  | @step L s _ hs hk ih =>
    intro e he
    refine mem_cutTo.2 ⟨ih e he, fun q => ?_⟩
    refine hF s hs ?_ (List.mem_map.2 ⟨e, he, q⟩)
    rw [kids_nil] at hk ⊢
    intro q2
    obtain ⟨f, hf, q2⟩ := List.mem_map.1 q2
    exact hk (List.mem_map.2 ⟨f, ih f hf, q2⟩)
theorem Pr.uniq {S : List Int} {F : List Br} (h : Pr S T L) (hL : Stable S L) (k : Pr S T F) (hF : Stable S F) : L = F := by
  have h1 := h.min k hF; have h2 := k.min h hL
  obtain ⟨p, rfl⟩ := h.eqf; obtain ⟨q, rfl⟩ := k.eqf
  apply List.filter_congr
  intro e he
  rw [Bool.eq_iff_iff]
  exact ⟨fun c => (List.mem_filter.1 (h2 e (List.mem_filter.2 ⟨he, c⟩))).2, fun c => (List.mem_filter.1 (h1 e (List.mem_filter.2 ⟨he, c⟩))).2⟩
def cutI (M : List Int) (n : Int) : List Int := M.filter fun y => !decide (y = n)
theorem mem_cutI {y : Int} : y ∈ cutI M n ↔ y ∈ M ∧ y ≠ n := by simp [cutI]
inductive LeaveR (r : Int) (T : List Br) (M : List Int) (n : Int) (x : List Int) (fan : Nat) (L : List Br) : Prop
  | star (h : StarP T fan) (hm : MadeT r (cutI M n) x fan L)
  | cut (h : ¬ StarP T fan) (hp : Pr (n :: x) T L) (hs : Stable (n :: x) L)
theorem LeaveR.uniq {K : List Br} (h : LeaveR r T M n x fan L) (k : LeaveR r T M n x fan K) : L = K := by
  cases h with
  | star h hm =>
    cases k with
    | star k km => exact hm.uniq km
    | cut k => exact absurd h k
  | cut h hp hs =>
    cases k with
    | star k => exact absurd k h
    | cut k kp ks => exact hp.uniq hs kp ks
theorem rise_cutI (hm : M.Pairwise (· < ·)) : (cutI M n).Pairwise (· < ·) := hm.sublist List.filter_sublist
theorem LeaveR.vi (c : Cx r x fan U) (v : VI r T M x fan) (hM : ∀ y ∈ M, y ∈ U) (hn : n ∈ M) (h : LeaveR r T M n x fan L) : VI r L (cutI M n) x fan := by
  have g := v.good.toGd0
  have hA : ∀ y ∈ cutI M n, y ∈ U := fun y hy => hM y (mem_cutI.1 hy).1
  have hris := rise_cutI (n := n) v.leaf.ris
  cases h with
  | star h hm => exact hm.vi c hris hA
  | cut h hp hs =>
    have hsub := hp.sub
    have hcl := hp.closed g.up
    have hre : ∀ y, Rch T r y → (y = r ∨ ∃ f ∈ L, f.2 = y) → Rch L r y := fun y hy => by
      induction hy with
      | refl => intro _; exact .refl
      | @step a b _ hl ih =>
        rintro (q | ⟨f, hf, q⟩)
        · rw [q]; exact .refl
        · have : (a, b) = f := by
            have e : a = f.1 := g.one (x := a) (y := b) (b := f.1) hl (by rw [← q]; exact hsub.subset hf)
            rw [e, ← q]
          subst this
          exact (ih (hcl _ hf)).step hf
    have g' : Gd0 r L := ⟨fun e he => g.root e (hsub.subset he), g.ends.sublist (hsub.map _), fun e he => hre _ (g.all e (hsub.subset he)) (.inr ⟨e, he, rfl⟩)⟩
    have hnk : kids L n = [] := kids_nil.2 fun q => by
      obtain ⟨e, he, q⟩ := List.mem_map.1 q
      exact (v.mem.1 hn).2 (List.mem_map.2 ⟨e, hsub.subset he, q⟩)
    refine ⟨{ toGd0 := g', ris := v.good.ris.sublist hsub, few := Nat.lt_of_le_of_lt hsub.length_le v.good.few }, LeafIs.of_ends g' hris fun y => ?_, fun e he => v.inn e (hsub.subset he), .inl fun y => ?_⟩
    · rw [mem_cutI]
      constructor
      · rintro ⟨hy, hyn⟩
        obtain ⟨q1, q2⟩ := v.mem.1 hy
        obtain ⟨e, he, rfl⟩ := List.mem_map.1 q1
        refine ⟨List.mem_map.2 ⟨e, hp.keep he fun q => ?_, rfl⟩, fun q => ?_⟩
        · rcases List.mem_cons.1 q with q | q
          · exact hyn q
          · exact c.off _ q (hM _ hy)
        · obtain ⟨f, hf, q⟩ := List.mem_map.1 q
          exact q2 (List.mem_map.2 ⟨f, hsub.subset hf, q⟩)
      · rintro ⟨q1, q2⟩
        have hk := kids_nil.2 q2
        obtain ⟨e, he, rfl⟩ := List.mem_map.1 q1
        rcases v.to_ (hsub.subset he) with q | q
        · exact ⟨q, fun q3 => hs n (List.mem_cons_self ..) hnk (List.mem_map.2 ⟨e, he, q3⟩)⟩
        · exact absurd q1 (hs _ (List.mem_cons_of_mem _ q) hk)
    · have h1 := (kids_sub hsub y).length_le
      have h2 : ¬ fan < (kids T y).length := fun q => h ⟨y, q⟩
      omega
structure LvI (r : Int) (T : List Br) (n : Int) (x : List Int) (l : List Br) (a : Int) : Prop where
  pr : Pr (n :: x) T l
  no : kids l a = []
  one : ∀ s ∈ n :: x, kids l s = [] → s ∈ l.map (·.2) → s = a
  is : a = r ∨ (a ∈ n :: x ∧ ∃ p, (p, a) ∈ l)
theorem LvI.start (c : Cx r x fan U) (v : VI r T M x fan) (hM : ∀ y ∈ M, y ∈ U) (hn : n ∈ M) : LvI r T n x T n := by
  obtain ⟨q1, q2⟩ := v.mem.1 hn
  refine ⟨.refl, kids_nil.2 q2, fun s hs hk ht => ?_, .inr ⟨by simp, ?_⟩⟩
  · rcases List.mem_cons.1 hs with q | q
    · exact q
    · exact absurd (hM _ (v.mem.2 ⟨ht, kids_nil.1 hk⟩)) (c.off s q)
  · obtain ⟨e, he, rfl⟩ := List.mem_map.1 q1
    exact ⟨e.1, he⟩
theorem LvI.done (g : Gd0 r T) {l : List Br} (i : LvI r T n x l r) : Stable (n :: x) l := fun s hs hk ht => by
  have := i.one s hs hk ht
  obtain ⟨e, he, q⟩ := List.mem_map.1 ht
  exact g.root e (i.pr.sub.subset he) (q.trans this)
theorem LvI.step (v : VI r T M x fan) {l : List Br} {a p : Int} (i : LvI r T n x l a) (ha : a ≠ r) (hp : (p, a) ∈ T) :
    Pr (n :: x) T (cutTo l a) ∧ ((p ∈ (cutTo l a).map (·.1) → Stable (n :: x) (cutTo l a)) ∧ (p ∉ (cutTo l a).map (·.1) → LvI r T n x (cutTo l a) p)) ∧ (cutTo l a).length < l.length := by
  have g := v.good.toGd0
  obtain ⟨hax, p', hp'⟩ := i.is.resolve_left ha
  have e : p' = p := g.one (i.pr.sub.subset hp') hp
  subst e
  have pr' := i.pr.step hax i.no
  have one' : ∀ s ∈ n :: x, kids (cutTo l a) s = [] → s ∈ (cutTo l a).map (·.2) → s = p' := fun s hs hk ht => by
    obtain ⟨e, he, q⟩ := List.mem_map.1 ht
    rw [mem_cutTo] at he
    have hsl : s ∈ l.map (·.2) := List.mem_map.2 ⟨e, he.1, q⟩
    rcases hq : kids l s with _ | ⟨z, m⟩
    · have := i.one s hs hq hsl
      exact absurd (q.trans this) he.2
    · have hz : (s, z) ∈ l := mem_kids.1 (by rw [hq]; simp)
      by_cases q2 : z = a
      · subst q2; exact g.one (i.pr.sub.subset hz) hp
      · have : z ∈ kids (cutTo l a) s := mem_kids.2 (mem_cutTo.2 ⟨hz, q2⟩)
        rw [hk] at this; cases this
  refine ⟨pr', ⟨fun h s hs hk ht => ?_, fun h => ⟨pr', kids_nil.2 h, one', ?_⟩⟩, ?_⟩
  · have := one' s hs hk ht
    subst this
    exact kids_nil.1 hk h
  · rcases v.inn _ hp with q | q
    · exact .inl q
    · rcases i.pr.closed g.up _ hp' with q2 | ⟨f, hf, q2⟩
      · exact .inl q2
      · refine .inr ⟨List.mem_cons_of_mem _ q, f.1, mem_cutTo.2 ⟨?_, ?_⟩⟩
        · have q2 : f.2 = p' := q2
          rw [← q2]; exact hf
        · exact g.ne hp
  · unfold cutTo
    rw [List.length_filter_lt_length_iff_exists]
    exact ⟨_, hp', by simp⟩
end
end Go.Wk
namespace Go.Wk
open Go.HL
variable [DM]
theorem indexFunc_Br {l : List Br} {p : Br → Bool} {Q : Int → Prop} (hl : l.length ≤ 1000000) (h0 : (∀ x ∈ l, p x = false) → Q (-1)) (h1 : ∀ (i : Nat) (hi : i < l.length), p l[i] = true → (∀ x ∈ l.take i, p x = false) → Q (i : Int)) : slices_IndexFunc_s_api_Branch_api_Branch_W l p Q := by
  refine loop_up1 l.length (fun i => ∀ x ∈ l.take i, p x = false) (by simp) fun K i hi hI hK => ?_
  show slices_IndexFunc_s_api_Branch_api_Branch_l1 _ _ _ _ _
  unfold slices_IndexFunc_s_api_Branch_api_Branch_l1
  refine ⟨fun c => ⟨by (first | omega | (unfold I64; omega) | (simp only [List.length_append, List.length_cons, List.length_nil, List.length_take, List.length_drop] at *; omega) | (unfold I64; simp only [List.length_append, List.length_cons, List.length_nil, List.length_take, List.length_drop] at *; omega)), ?_⟩, fun c => ?_⟩
  · have hi' : i < l.length := by omega
    rw [gi_nat hi']
    refine ⟨fun q => h1 i hi' q hI, fun q => ⟨by (first | omega | (unfold I64; omega) | (simp only [List.length_append, List.length_cons, List.length_nil, List.length_take, List.length_drop] at *; omega) | (unfold I64; simp only [List.length_append, List.length_cons, List.length_nil, List.length_take, List.length_drop] at *; omega)), hK (i + 1) (by omega) (by omega) ?_⟩⟩
    intro x hx
    rw [List.take_succ_eq_append_getElem hi'] at hx
    rcases List.mem_append.1 hx with hx | hx
    · exact hI x hx
    · rw [List.mem_singleton] at hx; subst hx; exact q
  · rw [List.take_of_length_le (by omega)] at hI; exact h0 hI
theorem containsFunc_Br {l : List Br} {p : Br → Bool} {Q : Bool → Prop} (hl : l.length ≤ 1000000) (h : Q (l.any p)) : slices_ContainsFunc_s_api_Branch_api_Branch_W l p Q := by
  unfold slices_ContainsFunc_s_api_Branch_api_Branch_W
  refine indexFunc_Br hl (fun hn => ?_) (fun i hi hp _ => ?_)
  · have : l.any p = false := by rw [List.any_eq_false]; intro x hx; rw [hn x hx]; simp
    rw [this] at h; simpa using h
  · have : l.any p = true := List.any_eq_true.2 ⟨l[i], List.getElem_mem hi, hp⟩
    rw [this] at h
    have e : decide ((0 : Int) ≤ (i : Int)) = true := by simp
    rw [e]; exact h
theorem deleteFunc_Br {l : List Br} {p : Br → Bool} {Q : List Br → Prop} (hl : l.length ≤ 1000000) (h : Q (l.filter fun x => !p x)) : slices_DeleteFunc_s_api_Branch_api_Branch_W l p Q := by
  unfold slices_DeleteFunc_s_api_Branch_api_Branch_W
  refine indexFunc_Br hl (fun hn => ⟨fun _ => ?_, fun c => absurd rfl c⟩) (fun r hr hp hn => ⟨fun c => by omega, fun _ => ⟨by (first | omega | (unfold I64; omega) | (simp only [List.length_append, List.length_cons, List.length_nil, List.length_take, List.length_drop] at *; omega) | (unfold I64; simp only [List.length_append, List.length_cons, List.length_nil, List.length_take, List.length_drop] at *; omega)), ?_⟩⟩)
  · have : (l.filter fun x => !p x) = l := List.filter_eq_self.2 fun x hx => by rw [hn x hx]; rfl
    rw [this] at h; exact h
  · have hr0 : (l.take r).filter (fun x => !p x) = l.take r := List.filter_eq_self.2 fun x hx => by rw [hn x hx]; rfl
    refine loop_from (s0 := (l, (r : Int), (r : Int) + 1)) (fun s => s.2.2) (r + 1) l.length (fun j s => s.1.length = l.length ∧ ∃ k : Nat, s.2.1 = k ∧ k + 1 ≤ j ∧ s.1.take k = (l.take j).filter (fun x => !p x) ∧ ∀ q, j ≤ q → s.1[q]? = l[q]?) (by simp) (by omega) ⟨rfl, r, rfl, by omega, ?_, fun _ _ => rfl⟩ ?_
    · show l.take r = _
      rw [List.take_succ_eq_append_getElem hr, List.filter_append, hr0]; simp [hp]
    · rintro K j ⟨l2, _, _⟩ rfl hj ⟨hl2, k, rfl, k1, ht, hq⟩ hK
      simp only at hl2 ht hq ⊢
      unfold slices_DeleteFunc_s_api_Branch_api_Branch_l2
      refine ⟨fun c => ⟨by (first | omega | (unfold I64; omega) | (simp only [List.length_append, List.length_cons, List.length_nil, List.length_take, List.length_drop] at *; omega) | (unfold I64; simp only [List.length_append, List.length_cons, List.length_nil, List.length_take, List.length_drop] at *; omega)), ?_⟩, fun c => ?_⟩
      · have hj' : j < l.length := by omega
        have e1 : gi l2 (j : Int) = l[j] := by rw [gi_of (hq j (Nat.le_refl _)), gi_nat hj']
        rw [e1]
        refine ⟨fun q => ⟨by (first | omega | (unfold I64; omega) | (simp only [List.length_append, List.length_cons, List.length_nil, List.length_take, List.length_drop] at *; omega) | (unfold I64; simp only [List.length_append, List.length_cons, List.length_nil, List.length_take, List.length_drop] at *; omega)), by (first | omega | (unfold I64; omega) | (simp only [List.length_append, List.length_cons, List.length_nil, List.length_take, List.length_drop] at *; omega) | (unfold I64; simp only [List.length_append, List.length_cons, List.length_nil, List.length_take, List.length_drop] at *; omega)), by (first | omega | (unfold I64; omega) | (simp only [List.length_append, List.length_cons, List.length_nil, List.length_take, List.length_drop] at *; omega) | (unfold I64; simp only [List.length_append, List.length_cons, List.length_nil, List.length_take, List.length_drop] at *; omega)), hK (j + 1) _ (by simp) (by omega) (by omega) ⟨by simpa using hl2, k + 1, by simp, by omega, ?_, fun x hx => ?_⟩⟩, fun q => ⟨by (first | omega | (unfold I64; omega) | (simp only [List.length_append, List.length_cons, List.length_nil, List.length_take, List.length_drop] at *; omega) | (unfold I64; simp only [List.length_append, List.length_cons, List.length_nil, List.length_take, List.length_drop] at *; omega)), hK (j + 1) _ (by simp) (by omega) (by omega) ⟨hl2, k, rfl, by omega, ?_, fun x hx => hq x (by omega)⟩⟩⟩
        · show (l2.set (k : Int).toNat _).take (k + 1) = _
          rw [Int.toNat_natCast, take_set (by omega), ht, List.take_succ_eq_append_getElem hj', List.filter_append]
          have : p l[j] = false := by simpa using q
          simp [this]
        · show (l2.set (k : Int).toNat _)[x]? = _
          rw [Int.toNat_natCast, List.getElem?_set, if_neg (by omega)]; exact hq x (by omega)
        · rw [List.take_succ_eq_append_getElem hj', List.filter_append, ht]
          have : p l[j] = true := by simpa using q
          simp [this]
      · have hjl : j = l.length := by omega
        subst hjl
        rw [List.take_length] at ht
        have hcl : (clr l2 (k : Int) (l2.length : Int)).length = l2.length := by simp [clr]; omega
        refine ⟨by (first | omega | (unfold I64; omega) | (simp only [List.length_append, List.length_cons, List.length_nil, List.length_take, List.length_drop] at *; omega) | (unfold I64; simp only [List.length_append, List.length_cons, List.length_nil, List.length_take, List.length_drop] at *; omega)), by (first | omega | (unfold I64; omega) | (simp only [List.length_append, List.length_cons, List.length_nil, List.length_take, List.length_drop] at *; omega) | (unfold I64; simp only [List.length_append, List.length_cons, List.length_nil, List.length_take, List.length_drop] at *; omega)), by rw [hcl]; (first | omega | (unfold I64; omega) | (simp only [List.length_append, List.length_cons, List.length_nil, List.length_take, List.length_drop] at *; omega) | (unfold I64; simp only [List.length_append, List.length_cons, List.length_nil, List.length_take, List.length_drop] at *; omega)), ?_⟩
        rw [cut_clr (by omega), ht]; exact h
theorem clone_Br {l : List Br} {Q : List Br → Prop} (hl : l.length ≤ 1000000) (h : Q l) : slices_Clone_s_api_Branch_api_Branch_W l Q :=
  ⟨fun c => by subst c; exact h, fun _ => ⟨by (first | omega | (unfold I64; omega) | (simp only [List.length_append, List.length_cons, List.length_nil, List.length_take, List.length_drop] at *; omega) | (unfold I64; simp only [List.length_append, List.length_cons, List.length_nil, List.length_take, List.length_drop] at *; omega)), h⟩⟩
theorem clone_I {l : List Int} {Q : List Int → Prop} (hl : l.length ≤ 1000000) (h : Q l) : slices_Clone_s_int_int_W l Q :=
  ⟨fun c => by subst c; exact h, fun _ => ⟨by (first | omega | (unfold I64; omega) | (simp only [List.length_append, List.length_cons, List.length_nil, List.length_take, List.length_drop] at *; omega) | (unfold I64; simp only [List.length_append, List.length_cons, List.length_nil, List.length_take, List.length_drop] at *; omega)), h⟩⟩
theorem swap_permI (l : List Int) (i k : Nat) (hi : i < l.length) (hk : k < l.length) : ((l.set i l[k]).set k l[i]).Perm l := by
  have := Array.swap_perm (xs := l.toArray) (i := i) (j := k) (by simpa using hi) (by simpa using hk)
  rw [Array.perm_iff_toList_perm] at this
  simpa [Array.swap] using this
theorem find_at {α : Type} {p : α → Bool} : ∀ {l : List α} {i : Nat} (hi : i < l.length), p l[i] = true → (∀ y ∈ l.take i, p y = false) → l.find? p = some l[i]
  | a :: l, 0, _, h1, _ => by simpa using List.find?_cons_of_pos h1
  | a :: l, i + 1, hi, h1, h2 => by
    have ha := h2 a (by simp)
    rw [List.find?_cons_of_neg (by rw [ha]; decide)]
    exact find_at (l := l) (i := i) (by simpa using hi) h1 fun y hy => h2 y (by rw [List.take_succ_cons]; exact List.mem_cons_of_mem _ hy)
theorem with_ok {l : List Int} {n : Int} {Q : List Int → Prop} (hl : l.length ≤ 10000) (hs : l.Pairwise (· < ·)) (hn : n ∉ l) (h : Q (addI l n)) : repair_with_W l n Q := by
  refine bsearch_ok (by omega) hs fun i h1 h2 hi => clone_I (by omega) ⟨by omega, ?_⟩
  rw [Int.toNat_natCast, ← List.append_assoc, insI_eq n l i hi (fun y hy => ?_) fun hq q => ?_]
  · unfold addI at h; rwa [if_neg hn] at h
  · obtain ⟨k, hk, rfl⟩ := List.mem_iff_getElem.1 hy
    rw [List.length_take] at hk
    rw [List.getElem_take]
    exact h1 k (by omega) (by omega)
  · have := h2 i hq (Nat.le_refl _); omega
theorem hasT_ok {r n : Int} {T : List Br} {Q : Bool → Prop} (hl : T.length ≤ 100000) (h : Q (hasB r T n)) : tree_Has_W r T n Q := by
  unfold hasB at h
  refine ⟨fun c => (by rw [decide_eq_true (.inl c)] at h; exact h), fun c => ⟨fun e => decide (e.2 = n), fun _ => rfl, ?_⟩⟩
  refine indexFunc_Br (by omega) (fun h0 => ?_) fun i hi h1 h2 => ?_
  · rw [decide_eq_false (by decide)]
    rwa [decide_eq_false] at h
    rintro (q | q)
    · exact c q
    · obtain ⟨e, he, q⟩ := List.mem_map.1 q
      have := of_decide_eq_false (h0 e he); exact this q
  · rw [decide_eq_true (by omega)]
    rwa [decide_eq_true] at h
    exact .inr (List.mem_map.2 ⟨_, List.getElem_mem hi, of_decide_eq_true h1⟩)
theorem parent_ok {r n : Int} {T : List Br} {Q : Int → Bool → Prop} (hl : T.length ≤ 100000) (h0 : n ∉ T.map (·.2) → Q 0 false) (h1 : ∀ p, (p, n) ∈ T → Q p true) : tree_Parent_W r T n Q := by
  refine ⟨fun e => decide (e.2 = n), fun _ => rfl, indexFunc_Br (by omega) (fun h2 => ⟨fun _ => h0 fun q => ?_, fun c => absurd (by decide) c⟩) fun i hi h2 h3 => ⟨fun c => by omega, fun _ => ⟨by omega, ?_⟩⟩⟩
  · obtain ⟨e, he, q⟩ := List.mem_map.1 q
    exact of_decide_eq_false (h2 e he) q
  · rw [gi_nat hi]
    have e2 : T[i].2 = n := of_decide_eq_true h2
    have em : T[i] = (T[i].1, n) := by rw [← e2]
    exact h1 _ (em ▸ List.getElem_mem hi)
theorem next_ok {r n : Int} {T : List Br} {Q : List Int → Prop} (hl : T.length ≤ 100000) (h : Q (kids T n)) : tree_Next_W r T n Q :=
  nexts_ok hl fun out b => by rw [b.at_]; exact h
theorem pstar_ok {r : Int} {T : List Br} {fan : Nat} {Q : Bool → Prop} (hl : T.length ≤ 100000) (h1 : StarP T fan → Q true) (h0 : ¬ StarP T fan → Q false) : repair_star_W r T (fan : Int) Q := by
  refine fan_ok hl fun f _ hf => ?_
  by_cases c : fan < f
  · rw [decide_eq_true (by omega)]; exact h1 (hf.lt.1 c)
  · rw [decide_eq_false (by omega)]; exact h0 fun q => c (hf.lt.2 q)
theorem rstar_ok {r : Int} {T : List Br} {fan : Nat} {Q : Bool → Prop} (hl : T.length ≤ 100000) (g : Gd0 r T) (h1 : StarP T fan → Q true) (h0 : ¬ StarP T fan → Q false) : ref34_Star_W r T (fan : Int) Q := by
  refine refFan_ok hl g fun f _ hf => ?_
  by_cases c : fan < f
  · rw [decide_eq_true (by omega)]; exact h1 (hf.lt.1 c)
  · rw [decide_eq_false (by omega)]; exact h0 fun q => c (hf.lt.2 q)
theorem pof_ok {r : Int} {l : List Br} {Q : Int → List Br → Prop} (hl : l.length < 256) (h : ∀ L, L.Perm l → Srtd L → Gd r L ∧ Q r L) : repair_of_W r l Q :=
  of_ok hl fun L hp hs => ⟨fun _ => (h L hp hs).2, fun c => absurd (h L hp hs).1 c⟩
theorem pofS_ok {r : Int} {l : List Br} {Q : Int → List Br → Prop} (g : Gd r l) (h : Q r l) : repair_of_W r l Q :=
  pof_ok g.few fun L hp hs => by
    have : L = l := sorted_uniq hp hs (blt_weak g.ris)
    rw [this]; exact ⟨g, h⟩
theorem rof_ok {r : Int} {l : List Br} {Q : Int → List Br → Prop} (hl : l.length ≤ 100000) (h : ∀ L, L.Perm l → Srtd L → Q r L) : ref34_of_W r l Q := sorted_ok hl h
theorem rofS_ok {r : Int} {l : List Br} {Q : Int → List Br → Prop} (hl : l.length ≤ 100000) (hs : l.Pairwise blt) (h : Q r l) : ref34_of_W r l Q :=
  rof_ok hl fun L hp hs' => by
    have : L = l := sorted_uniq hp hs' (blt_weak hs)
    rw [this]; exact h
theorem rwithout_ok {l : List Br} {n : Int} {Q : List Br → Prop} (hl : l.length ≤ 100000) (h : Q (cutTo l n)) : ref34_without_W l n Q := by
  refine loop_up l.length (fun i s => s = cutTo (l.take i) n) rfl fun K i s hi hs hK => ?_
  have hsl : s.length ≤ i := by
    rw [hs]; unfold cutTo
    exact Nat.le_trans (List.length_filter_le _ _) (by simp; omega)
  show ref34_without_l1 _ _ _ _ s (i : Int)
  unfold ref34_without_l1
  refine ⟨fun c => ?_, fun c => ?_⟩
  · have hlt : i < l.length := by omega
    have et : cutTo (l.take (i + 1)) n = cutTo (l.take i) n ++ cutTo [l[i]] n := by
      rw [List.take_succ_eq_append_getElem hlt]; unfold cutTo; rw [List.filter_append]
    rw [gi_nat hlt]
    refine ⟨by omega, fun q => ⟨by simp only [List.length_cons, List.length_nil]; omega, by unfold I64; omega, hK (i + 1) _ (by omega) (by omega) ?_⟩, fun q => ⟨by unfold I64; omega, hK (i + 1) _ (by omega) (by omega) ?_⟩⟩
    · rw [et, hs]; simp [cutTo, q]
    · rw [et, hs]; simp [cutTo, q]
  · have : i = l.length := by omega
    subst this
    rw [List.take_length] at hs; rw [hs]; exact h
theorem pwithout_ok {l : List Int} {n : Int} {Q : List Int → Prop} (hl : l.length ≤ 1000000) (h : Q (cutI l n)) : repair_without_W l n Q :=
  clone_I hl ⟨fun y => decide (y = n), fun _ => rfl, deleteFunc_I (by simpa using hl) h⟩
theorem room_ok {r : Int} {T : List Br} {x : List Int} {fan : Nat} {Q : Int → Bool → Prop} (hl : T.length ≤ 100000) (hx : x.length ≤ 1000) (h1 : ∀ a, roomO r T x fan = some a → Q a true) (h0 : roomO r T x fan = none → Q 0 false) : repair_room_W r T x (fan : Int) Q := by
  refine ⟨by simp only [List.length_cons, List.length_nil]; omega, ?_⟩
  refine loop_up1 (r :: x).length (fun i => ∀ y ∈ (r :: x).take i, (hasB r T y && decide ((kids T y).length < fan)) = false) (by simp) fun K i hi hI hK => ?_
  show repair_room_l1 _ _ _ _ _ _ _
  unfold repair_room_l1
  have e : ([r] : List Int) ++ x = r :: x := rfl
  rw [e]
  refine ⟨fun c => ?_, fun c => h0 ?_⟩
  · have hlt : i < (r :: x).length := by omega
    have hll : (r :: x).length ≤ 1001 := by simp; omega
    have nx : (hasB r T (r :: x)[i] && decide ((kids T (r :: x)[i]).length < fan)) = false → I64 ((i : Int) + 1) ∧ K ((i : Int) + 1) := fun q => ⟨by unfold I64; omega, hK (i + 1) (by omega) (by omega) fun y hy => by
      rw [List.take_succ_eq_append_getElem hlt] at hy
      rcases List.mem_append.1 hy with hy | hy
      · exact hI y hy
      · rw [List.mem_singleton] at hy; rw [hy]; exact q⟩
    rw [gi_nat hlt]
    refine ⟨by omega, hasT_ok hl ⟨fun q => next_ok hl ⟨fun q2 => h1 _ (find_at hlt ?_ hI), fun q2 => nx ?_⟩, fun q => nx ?_⟩⟩
    · rw [q, decide_eq_true (by omega)]; rfl
    · rw [q, decide_eq_false (by omega)]; rfl
    · rw [q]; rfl
  · rw [List.take_of_length_le (by omega)] at hI
    unfold roomO
    rw [List.find?_eq_none]
    intro y hy; rw [hI y hy]; decide
theorem own34_ok {r : Int} {T : List Br} {Q : Int → List Br → Prop} (hl : T.length ≤ 100000) (h : Q r T) : law34_own_W r T Q := ⟨by simp only [List.length_nil]; omega, h⟩
theorem copied34_ok {l : List Int} {Q : List Int → Prop} (hl : l.length ≤ 100000) (h : Q l) : law34_copied_W l Q := ⟨by simp only [List.length_nil]; omega, h⟩
theorem turned_ok {l : List Int} {b : Int} {Q : List Int → Prop} (hl : l.length ≤ 1000) (hb : 0 ≤ b ∧ b < 256) (h : ∀ x, x.Perm l → Q x) : law34_turned_W l b Q := by
  refine copied34_ok (by omega) ?_
  obtain ⟨b, rfl⟩ := Int.eq_ofNat_of_zero_le hb.1
  refine loop_up l.length (fun i s => s.Perm l) (List.Perm.refl l) fun K i s hi hs hK => ?_
  have hsl := hs.length_eq
  show law34_turned_l1 _ _ _ s (i : Int)
  unfold law34_turned_l1
  refine ⟨fun c => ?_, fun c => h s hs⟩
  have h1 : i < s.length := by omega
  have e : ((((i : Int) * 7) + (b : Int)).tmod (s.length : Int)) = (((i * 7 + b) % s.length : Nat) : Int) := by rw [Int.tmod_eq_emod_of_nonneg (by omega)]; rfl
  have hm := Nat.mod_lt (i * 7 + b) (show 0 < s.length by omega)
  rw [e]
  generalize (i * 7 + b) % s.length = n at hm
  refine ⟨by unfold I64; omega, by unfold I64; omega, by unfold I64; omega, by omega, by omega, by omega, by simp only [List.length_set]; omega, by unfold I64; omega, hK (i + 1) _ (by omega) (by omega) ?_⟩
  rw [gi_nat hm, gi_nat h1, Int.toNat_natCast, Int.toNat_natCast]
  exact (swap_permI s i n h1 hm).trans hs
end Go.Wk
namespace Go.Wk
open Go.HL
variable [DM]
section
variable {r n : Int} {T L : List Br} {M x U : List Int} {fan : Nat} {Q : Int → List Br → Prop}
theorem root_full (g : Gd0 r T) (h : ¬ StarP T fan) (hr : roomO r T x fan = none) : (kids T r).length = fan := by
  have := List.find?_eq_none.1 hr r (by simp)
  rw [(hasB_iff g).2 .refl] at this
  have h1 : ¬ (kids T r).length < fan := by simpa using this
  have h2 : ¬ fan < (kids T r).length := fun q => h ⟨r, q⟩
  omega
theorem addU (hM : ∀ y ∈ M, y ∈ U) (hn : n ∈ U) : ∀ y ∈ addI M n, y ∈ U := fun y hy => by
  rcases mem_addI.1 hy with q | q
  · rw [q]; exact hn
  · exact hM y q
theorem join_ok (c : Cx r x fan U) (v : VI r T M x fan) (hM : ∀ y ∈ M, y ∈ U) (hn : n ∈ U) (hnM : n ∉ M) (h : ∀ L, JoinR r T M n x fan L → Q r L) : repair_join_W r T n x (fan : Int) Q := by
  have hfew := v.few c hM
  have g := v.good.toGd0
  have hA := addU hM hn
  have hris := rise_addI (n := n) v.leaf.ris
  have lA := c.lm hris hA; have lM := c.lm v.leaf.ris hM; have lx := c.lx; have f1 := c.f1; have f2 := c.f2
  refine leaves_ok (by omega) fun lv hlv => ?_
  obtain rfl := hlv.uniq v.leaf
  refine with_ok (by omega) v.leaf.ris hnM (pstar_ok (by omega) (fun st => ⟨fun _ => makeT_ok (c.all hris hA) hris (by omega) (by omega) fun L hL => h L (.star st hL), fun q => by cases q⟩) fun st => ⟨fun q => (by cases q), fun _ => clone_Br (by omega) (room_ok (by omega) (by omega) (fun a ha => ⟨fun _ => ⟨by simp only [List.length_cons, List.length_nil]; omega, pof_ok (by simp; omega) fun L hp hs => ?_⟩, fun q => by cases q⟩) fun hr => ⟨fun q => (by cases q), fun _ => ⟨fun s => !hasB r T s, fun s => hasT_ok (by omega) rfl, ?_⟩⟩)⟩)
  · have j : JoinR r T lv n x fan L := .room st a ha hp hs
    exact ⟨(j.vi c v hM hn hnM).good, h L j⟩
  have sj : ∀ r4 : List Br, ∀ i : Int, (freshO r T x = none ∨ fan < 2) → repair_join_j1 r T n x Q (addI lv n) r4 i true := fun r4 i hf => ⟨fun _ => star_ok (by omega) (h _ (.none st hr hf rfl)), fun q => by cases q⟩
  refine indexFunc_I (by omega) (fun h0 => ⟨fun _ => sj _ _ (.inl (List.find?_eq_none.2 fun y hy => by rw [h0 y hy]; decide)), fun q => absurd (by decide) q⟩) fun i hi h1 h2 => ⟨fun q => by omega, fun _ => ?_⟩
  have hf : freshO r T x = some x[i] := find_at hi h1 h2
  by_cases c2 : fan < 2
  · rw [decide_eq_true (by omega : (fan : Int) < 2)]; exact sj _ _ (.inr c2)
  · rw [decide_eq_false (by omega : ¬ (fan : Int) < 2)]
    refine ⟨fun q => (by cases q), fun _ => ⟨by omega, next_ok (by omega) ?_⟩⟩
    have hk := root_full g st hr
    rw [gi_nat hi]
    have hcl : (cutTo T (lastK T r)).length ≤ T.length := (cutTo_sub _ _).length_le
    refine ⟨by unfold I64; omega, by omega, fun e => decide (e.2 = lastK T r), fun _ => rfl, deleteFunc_Br (by omega) ⟨?_, pof_ok ?_ fun L hp hs => ?_⟩⟩
    · show ((cutTo T (lastK T r)).length + _) * 16 ≤ _
      simp only [List.length_cons, List.length_nil]; omega
    · show (cutTo T (lastK T r) ++ _).length < _
      simp only [List.length_append, List.length_cons, List.length_nil]; omega
    · have j : JoinR r T lv n x fan L := .fresh st hr x[i] hf (by omega) hp hs
      exact ⟨(j.vi c v hM hn hnM).good, h L j⟩
theorem rjoin_ok (c : Cx r x fan U) (v : VI r T M x fan) (hM : ∀ y ∈ M, y ∈ U) (hn : n ∈ U) (hnM : n ∉ M) (h : ∀ L, JoinR r T M n x fan L → Q r L) : ref34_Join_W r T n x (fan : Int) Q := by
  have hfew := v.few c hM
  have g := v.good.toGd0
  have hA := addU hM hn
  have hris := rise_addI (n := n) v.leaf.ris
  have lA := c.lm hris hA; have lM := c.lm v.leaf.ris hM; have lx := c.lx; have f1 := c.f1; have f2 := c.f2
  have hnT := v.off hnM fun q => c.off n q hn
  refine refLeaves_ok (by omega) fun lv hlv => ?_
  obtain rfl := hlv.uniq v.leaf
  refine add_ok (by omega) (rstar_ok (by omega) g (fun st => ⟨fun _ => refMakeT_ok hris (by omega) (by omega) fun L hL => h L (.star st hL), fun q => by cases q⟩) fun st => ⟨fun q => (by cases q), fun _ => nodes_ok (by omega) fun N hN hR => ?_⟩)
  have hNl := hR.len_le
  have hb : ∀ y, decide (y ∈ N) = hasB r T y := fun y => by rw [Bool.eq_iff_iff, decide_eq_true_eq, hasB_iff g, hR.mem]
  refine loop_by (fun s => s.2.2.2) x.length (fun i s => s.2.2.1 = r :: (x.take i).filter (hasB r T) ∧ s.2.1 = ((x.take i).find? fun s => !hasB r T s).isSome ∧ ∀ y, (x.take i).find? (fun s => !hasB r T s) = some y → s.1 = y) rfl ⟨by simp, by simp, by simp⟩ ?_
  rintro K i ⟨fresh, some_, who, _⟩ rfl hi ⟨h1, h2, h3⟩ hK
  simp only at hi h1 h2 h3
  have hwl : who.length ≤ 1 + i := by
    rw [h1, List.length_cons]
    have := List.length_filter_le (hasB r T) (x.take i)
    rw [List.length_take] at this; omega
  show ref34_Join_l1 _ _ _ _ _ _ _ _ _ fresh some_ who (i : Int)
  unfold ref34_Join_l1
  refine ⟨fun cc => ?_, fun cc => ?_⟩
  · have hlt : i < x.length := by omega
    have ht : x.take (i + 1) = x.take i ++ [x[i]] := List.take_succ_eq_append_getElem hlt
    rw [gi_nat hlt]
    refine ⟨by omega, has_ok (by omega) ?_⟩
    rw [hb]
    refine ⟨fun q => ⟨by simp only [List.length_cons, List.length_nil]; omega, by unfold I64; omega, hK (i + 1) _ rfl (by omega) (by omega) ⟨?_, ?_, fun y hy => ?_⟩⟩, fun q => ⟨fun q2 => ⟨by unfold I64; omega, hK (i + 1) _ rfl (by omega) (by omega) ⟨?_, ?_, fun y hy => ?_⟩⟩, fun q2 => ⟨by unfold I64; omega, hK (i + 1) _ rfl (by omega) (by omega) ⟨?_, ?_, fun y hy => ?_⟩⟩⟩⟩
    · show who ++ [x[i]] = _
      rw [ht, List.filter_append, h1]; simp [q]
    · show some_ = _
      rw [ht, List.find?_append, h2]; simp [q]
    · rw [ht, List.find?_append] at hy
      exact h3 y (by simpa [q] using hy)
    · show who = _
      rw [ht, List.filter_append, h1]; simp [q]
    · show true = _
      rw [ht, List.find?_append]; simp [q]
    · show x[i] = y
      have e : (x.take i).find? (fun s => !hasB r T s) = none := by
        rcases hq : (x.take i).find? (fun s => !hasB r T s) with _ | z
        · rfl
        · rw [hq] at h2; rw [h2] at q2; cases q2
      rw [ht, List.find?_append, e] at hy
      simpa [q] using hy
    · show who = _
      rw [ht, List.filter_append, h1]; simp [q]
    · show some_ = _
      rw [ht, List.find?_append, h2]
      have : some_ = true := by simpa using q2
      rw [← h2, this, Option.isSome_or, ← h2, this]; rfl
    · have : some_ = true := by simpa using q2
      rw [this] at h2
      rcases hq : (x.take i).find? (fun s => !hasB r T s) with _ | z
      · rw [hq] at h2; cases h2
      · rw [ht, List.find?_append, hq] at hy
        exact h3 y (by rw [hq]; simpa using hy)
  · have : i = x.length := by omega
    subst this
    rw [List.take_length] at h1 h2 h3
    have er : roomO r T x fan = who.find? fun y => decide ((kids T y).length < fan) := by
      have e : who = (r :: x).filter (hasB r T) := by rw [h1, List.filter_cons_of_pos ((hasB_iff g).2 .refl)]
      rw [e, List.find?_filter]
      unfold roomO
      congr 1
      funext y
      simp
    refine loop_up1 who.length (fun i => ∀ y ∈ who.take i, decide ((kids T y).length < fan) = false) (by simp) fun K2 k hk hI hK2 => ?_
    show ref34_Join_l2 _ _ _ _ _ _ _ _ _ _ _
    unfold ref34_Join_l2
    refine ⟨fun c2 => ?_, fun c2 => ?_⟩
    · have hlt : k < who.length := by omega
      rw [gi_nat hlt]
      refine ⟨by omega, refNext_ok (by omega) ⟨fun q => rwithout_ok (by omega) ?_, fun q => ⟨by unfold I64; omega, hK2 (k + 1) (by omega) (by omega) fun y hy => ?_⟩⟩⟩
      · rw [cutTo_self hnT]
        refine ⟨by simp only [List.length_cons, List.length_nil]; omega, rof_ok (by simp; omega) fun L hp hs => h L (.room st _ ?_ hp hs)⟩
        rw [er]; exact find_at hlt (decide_eq_true (by omega)) hI
      · rw [List.take_succ_eq_append_getElem hlt] at hy
        rcases List.mem_append.1 hy with hy | hy
        · exact hI y hy
        · rw [List.mem_singleton] at hy; rw [hy]; exact decide_eq_false (by omega)
    · rw [List.take_of_length_le (by omega)] at hI
      have hr : roomO r T x fan = none := by
        rw [er, List.find?_eq_none]
        intro y hy; rw [hI y hy]; decide
      have sj : (freshO r T x = none ∨ fan < 2) → ref34_Join_j1 r T n Q (addI lv n) fresh true := fun hf => ⟨fun _ => refStar_ok (by omega) fun S hp hs => h S (.none st hr hf (sorted_uniq hp hs (blt_weak (star_ris hris)))), fun q => by cases q⟩
      refine ⟨fun q => sj (.inl ?_), fun q => ?_⟩
      · rcases hq : freshO r T x with _ | z
        · rfl
        · unfold freshO at hq; rw [hq] at h2; rw [h2] at q; cases q
      · have q1 : some_ = true := by simpa using q
        rw [q1] at h2
        by_cases c3 : fan < 2
        · rw [decide_eq_true (by omega : (fan : Int) < 2)]; exact sj (.inr c3)
        · rw [decide_eq_false (by omega : ¬ (fan : Int) < 2)]
          rcases hq : x.find? (fun s => !hasB r T s) with _ | z
          · rw [hq] at h2; cases h2
          · obtain rfl := h3 z hq
            have hkk := root_full g st hr
            refine ⟨fun q => (by cases q), fun _ => refNext_ok (by omega) ⟨by unfold I64; omega, by omega, rwithout_ok (by omega) ?_⟩⟩
            have hcl : (cutTo T (lastK T r)).length ≤ T.length := (cutTo_sub _ _).length_le
            refine ⟨?_, rof_ok ?_ fun L hp hs => h L (.fresh st hr fresh hq (by omega) hp hs)⟩
            · show ((cutTo T (lastK T r)).length + _) * 16 ≤ _
              simp only [List.length_cons, List.length_nil]; omega
            · show (cutTo T (lastK T r) ++ _).length ≤ _
              simp only [List.length_append, List.length_cons, List.length_nil]; omega
end
end Go.Wk
namespace Go.Wk
open Go.HL
variable [DM]
section
variable {r n : Int} {T L : List Br} {M x U : List Int} {fan : Nat} {Q : Int → List Br → Prop}
theorem cutU (hM : ∀ y ∈ M, y ∈ U) : ∀ y ∈ cutI M n, y ∈ U := fun y hy => hM y (mem_cutI.1 hy).1
theorem leave_ok (c : Cx r x fan U) (v : VI r T M x fan) (hM : ∀ y ∈ M, y ∈ U) (hn : n ∈ M) (h : ∀ L, LeaveR r T M n x fan L → Q r L) : repair_leave_W r T n x (fan : Int) Q := by
  have hfew := v.few c hM
  have g := v.good.toGd0
  have hA := cutU (n := n) hM
  have hris := rise_cutI (n := n) v.leaf.ris
  have lA := c.lm hris hA; have lM := c.lm v.leaf.ris hM; have lx := c.lx; have f1 := c.f1; have f2 := c.f2
  refine pstar_ok (by omega) (fun st => ⟨fun _ => leaves_ok (by omega) fun lv hlv => ?_, fun q => by cases q⟩) fun st => ⟨fun q => (by cases q), fun _ => clone_Br (by omega) ?_⟩
  · obtain rfl := hlv.uniq v.leaf
    exact pwithout_ok (by omega) (makeT_ok (c.all hris hA) hris (by omega) (by omega) fun L hL => h L (.star st hL))
  have fin : ∀ l, Pr (n :: x) T l → Stable (n :: x) l → repair_leave_j1 r Q l := fun l hp hs => by
    have j : LeaveR r T M n x fan l := .cut st hp hs
    exact pofS_ok (j.vi c v hM hn).good (h l j)
  refine ⟨fun s => LvI r T n x s.1 s.2, fun s => s.1.length, LvI.start c v hM hn, ?_⟩
  rintro ⟨l, a⟩ i
  simp only at i
  show repair_leave_l3 _ _ _ _ l a
  unfold repair_leave_l3
  have hll := i.pr.sub.length_le
  refine ⟨fun ha => parent_ok (by omega) (fun q => ?_) fun p hp => ?_, fun ha => fin l i.pr (by subst ha; exact i.done g)⟩
  · obtain ⟨_, p, hp⟩ := i.is.resolve_left ha
    exact absurd (List.mem_map.2 ⟨_, i.pr.sub.subset hp, rfl⟩) q
  · obtain ⟨s1, ⟨s2, s3⟩, s4⟩ := i.step v ha hp
    refine ⟨fun e => decide (e.2 = a), fun _ => rfl, deleteFunc_Br (by omega) ?_⟩
    show ∃ cf_2 : Br → Bool, (∀ x0, repair_leave_2_W x0 p (fun r => r = cf_2 x0)) ∧ slices_ContainsFunc_s_api_Branch_api_Branch_W (cutTo l a) cf_2 _
    have hcl : (cutTo l a).length ≤ l.length := (cutTo_sub _ _).length_le
    refine ⟨fun e => decide (e.1 = p), fun _ => rfl, containsFunc_Br (by omega) ?_⟩
    by_cases q : p ∈ (cutTo l a).map (·.1)
    · have : (cutTo l a).any (fun e => decide (e.1 = p)) = true := by
        obtain ⟨e, he, q⟩ := List.mem_map.1 q
        exact List.any_eq_true.2 ⟨e, he, decide_eq_true q⟩
      rw [this]
      exact ⟨fun _ => fin _ s1 (s2 q), fun c => by cases c⟩
    · have : (cutTo l a).any (fun e => decide (e.1 = p)) = false := by
        rw [List.any_eq_false]
        intro e he q2
        exact q (List.mem_map.2 ⟨e, he, of_decide_eq_true q2⟩)
      rw [this]
      exact ⟨fun c => (by cases c), fun _ => ⟨s3 q, s4⟩⟩
def cntS (x : List Int) (L : List Br) : Nat := (x.filter fun s => decide (s ∈ L.map (·.2))).length
theorem rleave_ok (c : Cx r x fan U) (v : VI r T M x fan) (hM : ∀ y ∈ M, y ∈ U) (hn : n ∈ M) (h : ∀ L, LeaveR r T M n x fan L → Q r L) : ref34_Leave_W r T n x (fan : Int) Q := by
  have hfew := v.few c hM
  have g := v.good.toGd0
  have hA := cutU (n := n) hM
  have hris := rise_cutI (n := n) v.leaf.ris
  have lA := c.lm hris hA; have lM := c.lm v.leaf.ris hM; have lx := c.lx; have f1 := c.f1; have f2 := c.f2
  refine rstar_ok (by omega) g (fun st => ⟨fun _ => refLeaves_ok (by omega) fun lv hlv => ?_, fun q => by cases q⟩) fun st => ⟨fun q => (by cases q), fun _ => rwithout_ok (by omega) ?_⟩
  · obtain rfl := hlv.uniq v.leaf
    refine loop_up lv.length (fun i s => s = cutI (lv.take i) n) rfl fun K i s hi hs hK => ?_
    have hsl : s.length ≤ i := by
      rw [hs]; unfold cutI
      exact Nat.le_trans (List.length_filter_le _ _) (by simp; omega)
    show ref34_Leave_l2 _ _ _ _ _ _ _ s (i : Int)
    unfold ref34_Leave_l2
    refine ⟨fun cc => ?_, fun cc => ?_⟩
    · have hlt : i < lv.length := by omega
      have et : cutI (lv.take (i + 1)) n = cutI (lv.take i) n ++ cutI [lv[i]] n := by
        rw [List.take_succ_eq_append_getElem hlt]; unfold cutI; rw [List.filter_append]
      rw [gi_nat hlt]
      refine ⟨by omega, fun q => ⟨by simp only [List.length_cons, List.length_nil]; omega, by unfold I64; omega, hK (i + 1) _ (by omega) (by omega) ?_⟩, fun q => ⟨by unfold I64; omega, hK (i + 1) _ (by omega) (by omega) ?_⟩⟩
      · rw [et, hs]; simp [cutI, q]
      · rw [et, hs]; simp [cutI, q]
    · have : i = lv.length := by omega
      subst this
      rw [List.take_length] at hs; rw [hs]
      exact refMakeT_ok hris (by omega) (by omega) fun L hL => h L (.star st hL)
  have srt : ∀ l, l.Sublist T → ∀ {Q' : Int → List Br → Prop}, Q' r l → ref34_of_W r l Q' := fun l hl _ hq => rofS_ok (by have := hl.length_le; omega) (v.good.ris.sublist hl) hq
  have hnF : kids T n = [] := kids_nil.2 (v.mem.1 hn).2
  have p0 : Pr (n :: x) T (cutTo T n) := Pr.refl.step (by simp) hnF
  have n0 : n ∉ (cutTo T n).map (·.2) := fun q => by
    obtain ⟨e, he, q⟩ := List.mem_map.1 q
    exact (mem_cutTo.1 he).2 q
  refine srt _ p0.sub ?_
  show ref34_Leave_j1 _ _ _ _ _
  unfold ref34_Leave_j1
  refine loop_by (fun s => s.2.2) x.length (fun i s => s.1 = r ∧ Pr (n :: x) T s.2.1 ∧ n ∉ s.2.1.map (·.2) ∧ (Stable x s.2.1 ∨ cntS x s.2.1 + i ≤ x.length)) rfl ⟨rfl, p0, n0, .inr (by unfold cntS; simp only [Nat.add_zero]; exact List.length_filter_le _ _)⟩ ?_
  rintro K i ⟨_, out, _⟩ rfl hi ⟨e, hp, hno, hst⟩ hK
  simp only at e hp hno hst hi
  replace e := e.symm; subst e
  show ref34_Leave_l3 _ _ _ _ _ out (i : Int)
  unfold ref34_Leave_l3
  refine ⟨fun cc => ?_, fun cc => ?_⟩
  · refine loop_by (fun s => s.2.2) x.length (fun k s => s.1 = r ∧ Pr (n :: x) T s.2.1 ∧ n ∉ s.2.1.map (·.2) ∧ (Stable x s.2.1 ∨ (cntS x out + i ≤ x.length ∧ (cntS x s.2.1 < cntS x out ∨ (s.2.1 = out ∧ ∀ y ∈ x.take k, kids out y = [] → y ∉ out.map (·.2)))))) rfl ⟨rfl, hp, hno, hst.imp id fun q => ⟨q, .inr ⟨rfl, by simp⟩⟩⟩ ?_
    rintro K2 k ⟨_, o2, _⟩ rfl hk ⟨e, hp2, hno2, hst2⟩ hK2
    simp only at e hp2 hno2 hst2 hk
    replace e := e.symm; subst e
    have hol := hp2.sub.length_le
    show ref34_Leave_l4 _ _ _ _ _ _ o2 (k : Int)
    unfold ref34_Leave_l4
    refine ⟨fun c2 => ?_, fun c2 => ⟨by unfold I64; omega, hK (i + 1) _ rfl (by omega) (by omega) ⟨rfl, hp2, hno2, ?_⟩⟩⟩
    · have hlt : k < x.length := by omega
      have hxm : x[k] ∈ x := List.getElem_mem hlt
      have ht : x.take (k + 1) = x.take k ++ [x[k]] := List.take_succ_eq_append_getElem hlt
      rw [gi_nat hlt]
      refine ⟨by omega, refNext_ok (by omega) ⟨fun q => rwithout_ok (by omega) ?_, fun q => ⟨by unfold I64; omega, hK2 (k + 1) _ rfl (by omega) (by omega) ⟨rfl, hp2, hno2, ?_⟩⟩⟩⟩
      · have hkn : kids o2 x[k] = [] := List.length_eq_zero_iff.1 (by omega)
        refine srt _ ((cutTo_sub _ _).trans hp2.sub) ⟨by unfold I64; omega, hK2 (k + 1) _ rfl (by omega) (by omega) ⟨rfl, hp2.step (List.mem_cons_of_mem _ hxm) hkn, fun q => hno2 ?_, ?_⟩⟩
        · obtain ⟨e, he, q⟩ := List.mem_map.1 q
          exact List.mem_map.2 ⟨e, (mem_cutTo.1 he).1, q⟩
        · show Stable x (cutTo o2 x[k]) ∨ (cntS x out + i ≤ x.length ∧ (cntS x (cutTo o2 x[k]) < cntS x out ∨ (cutTo o2 x[k] = out ∧ _)))
          by_cases hin : x[k] ∈ o2.map (·.2)
          · rcases hst2 with s | ⟨s1, s2⟩
            · exact absurd hin (s _ hxm hkn)
            · refine .inr ⟨s1, .inl ?_⟩
              have hlt2 : cntS x (cutTo o2 x[k]) < cntS x o2 := by
                unfold cntS
                have e : (x.filter fun s => decide (s ∈ (cutTo o2 x[k]).map (·.2))) = (x.filter fun s => decide (s ∈ o2.map (·.2))).filter fun s => !decide (s = x[k]) := by
                  rw [List.filter_filter]
                  apply List.filter_congr
                  intro s _
                  rw [Bool.eq_iff_iff, Bool.and_eq_true, decide_eq_true_eq, decide_eq_true_eq, Bool.not_eq_true', decide_eq_false_iff_not]
                  constructor
                  · intro q
                    obtain ⟨e, he, q⟩ := List.mem_map.1 q
                    rw [mem_cutTo] at he
                    exact ⟨fun q2 => he.2 (q.trans q2), List.mem_map.2 ⟨e, he.1, q⟩⟩
                  · rintro ⟨q2, q⟩
                    obtain ⟨e, he, q⟩ := List.mem_map.1 q
                    exact List.mem_map.2 ⟨e, mem_cutTo.2 ⟨he, fun q3 => q2 (q.symm.trans q3)⟩, q⟩
                rw [e, List.length_filter_lt_length_iff_exists]
                exact ⟨x[k], List.mem_filter.2 ⟨hxm, decide_eq_true hin⟩, by simp⟩
              rcases s2 with s2 | ⟨s2, _⟩
              · omega
              · rw [← s2]; exact hlt2
          · rw [cutTo_self hin]
            refine hst2.imp id fun s => ⟨s.1, s.2.imp id fun s2 => ⟨s2.1, fun y hy => ?_⟩⟩
            rw [ht] at hy
            rcases List.mem_append.1 hy with hy | hy
            · exact s2.2 y hy
            · rw [List.mem_singleton] at hy
              rw [hy, ← s2.1]; exact fun _ => hin
      · refine hst2.imp id fun s => ⟨s.1, s.2.imp id fun s2 => ⟨s2.1, fun y hy => ?_⟩⟩
        rw [ht] at hy
        rcases List.mem_append.1 hy with hy | hy
        · exact s2.2 y hy
        · rw [List.mem_singleton] at hy
          rw [hy, ← s2.1]
          intro q2
          rw [q2] at q; exact absurd rfl q
    · have : k = x.length := by omega
      subst this
      show Stable x o2 ∨ cntS x o2 + (i + 1) ≤ x.length
      rcases hst2 with s | ⟨s1, s2 | ⟨s2, s3⟩⟩
      · exact .inl s
      · exact .inr (by omega)
      · rw [List.take_length] at s3
        rw [s2]; exact .inl s3
  · have : i = x.length := by omega
    subst this
    refine h out (.cut st hp fun s hs hk ht => ?_)
    rcases List.mem_cons.1 hs with q | q
    · rw [q] at ht; exact hno ht
    · rcases hst with s2 | s2
      · exact s2 s q hk ht
      · have e0 : cntS x out = 0 := by omega
        have : s ∈ x.filter fun s => decide (s ∈ out.map (·.2)) := List.mem_filter.2 ⟨q, decide_eq_true ht⟩
        rw [List.length_eq_zero_iff.1 e0] at this; cases this
end
end Go.Wk
