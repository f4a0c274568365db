/- Plain words: queries: what is left of each group, in order; what each call comes to. -/
import Derived.Test.YtfoebjicglgklaaGreatQryP
set_option linter.unusedSimpArgs false
set_option linter.unusedVariables false
set_option linter.unusedSectionVars false
namespace Go.Wk
open Go.HL
variable [DM]
abbrev OM := List (TA × (Nat × Nat) × TqL)
abbrev SM := List (Ad × Int)
def bOf (a : Ad) : Str := if a.1 = true then a.2.1 else a.2.1.take 4
theorem bOf_len (a : Ad) : (bOf a).length = if a.1 = true then 16 else 4 := by
  unfold bOf; split
  · exact a.2.2
  · rw [List.length_take, a.2.2]; decide
theorem bOf_ne (a : Ad) : bOf a ≠ [] := by
  intro h; have := bOf_len a; rw [h] at this; split at this <;> cases this
theorem bOf_inj {a b : Ad} (ha : aGood a = true) (hb : aGood b = true) (h : bOf a = bOf b) : a = b := by
  have hl := congrArg List.length h
  rw [bOf_len, bOf_len] at hl
  obtain ⟨va, ⟨la, la16⟩⟩ := a
  obtain ⟨vb, ⟨lb, lb16⟩⟩ := b
  unfold bOf at h
  cases va <;> cases vb <;> simp at hl
  · simp only [aGood, Bool.false_or, decide_eq_true_eq] at ha hb
    simp only [Bool.false_eq_true, if_false] at h
    have : la = lb := by rw [← List.take_append_drop 4 la, ← List.take_append_drop 4 lb, h, ha, hb]
    subst this; rfl
  · simp only [if_true] at h
    subst h; rfl
theorem bytes_ok {a : Ad} {Q : Str → Prop} (h : Q (bOf a)) : addr_Bytes_W a Q := by
  have h16 := a.2.2
  refine ⟨fun c => ?_, fun c => ?_⟩
  · unfold bOf at h; rw [if_pos c] at h
    have : cut a.2.1 0 16 = a.2.1 := List.take_of_length_le (by rw [h16]; decide)
    rw [this]; exact h
  · unfold bOf at h; rw [if_neg (by rw [c]; decide)] at h
    have : cut a.2.1 0 4 = a.2.1.take 4 := rfl
    rw [this]; exact h
theorem key_ok {a : Ad} {Q : Str → Prop} (h : Q (bOf a)) : query_key_W a Q := bytes_ok h
def aGrp (a : Ad) : Bool := if a.1 then decide (b8 a.2 0 = 255) else decide (224 ≤ b8 a.2 0 ∧ b8 a.2 0 ≤ 239)
theorem fdiv16 {n : Int} (h : 0 ≤ n) : n.fdiv (2 ^ (min (4 : Int).toNat IntKind.u8.bits)) = 14 ↔ 224 ≤ n ∧ n ≤ 239 := by
  have e : (2 ^ (min (4 : Int).toNat IntKind.u8.bits) : Int) = 16 := by decide
  rw [e, Int.fdiv_eq_ediv_of_nonneg _ (by decide)]; omega
theorem grpP_ok {a : Ad} {Q : Bool → Prop} (h : Q (aGrp a)) : addr_Group_W a Q := by
  unfold aGrp at h
  refine ⟨fun c => ?_, fun c => ?_⟩
  · rw [c] at h; exact h
  · rw [c] at h
    have hb : (0 : Int) ≤ b8 a.2 0 := by unfold b8; omega
    simp only [fdiv16 hb]
    exact h
theorem grpR_ok {a : Ad} {Q : Bool → Prop} (h : Q (aGrp a)) : ref03_Group_W a Q := by
  unfold aGrp at h
  refine ⟨fun c => ⟨fun d => ?_, fun d => ⟨fun e => ?_, fun _ => ?_⟩⟩, fun c => ⟨fun d => ⟨fun e => ?_, fun e => ?_⟩, fun d => ?_⟩⟩
  · rw [c, if_pos rfl, decide_eq_true d] at h; exact h
  · rw [c] at e; cases e
  · rw [c, if_pos rfl, decide_eq_false d] at h; exact h
  · rw [c] at h; simp only [Bool.false_eq_true, if_false] at h
    have : (decide (224 ≤ b8 a.2 0 ∧ b8 a.2 0 ≤ 239)) = decide (b8 a.2 0 ≤ 239) := by simp [e]
    rw [← this]; exact h
  · rw [c] at h; simp only [Bool.false_eq_true, if_false] at h
    rw [decide_eq_false (fun q => e q.1)] at h; exact h
  · rw [c] at d; cases d
theorem ASet.nodup {l : List Ad} (h : ASet l) : l.Nodup := by
  unfold List.Nodup
  exact h.rise.imp fun {a b} (q : aLt a b) (e : a = b) => aLt_irrefl b (e ▸ q)
theorem sorted_set {ks l : List Ad} (hn : ks.Nodup) (hg : ∀ x ∈ ks, aGood x = true) (hp : l.Perm ks) (hs : l.Pairwise fun x y => ¬ aCmp y x < 0) : ASet l := by
  have hgl : ∀ x ∈ l, aGood x = true := fun x hx => hg x (hp.mem_iff.1 hx)
  refine ⟨?_, hgl⟩
  have hnd : l.Nodup := hp.nodup_iff.2 hn
  refine List.Pairwise.imp_of_mem ?_ (hs.and hnd)
  intro a b ha hb ⟨h1, h2⟩
  have hf := aCmp_flip b a
  show aCmp a b < 0
  rcases Int.lt_trichotomy (aCmp a b) 0 with c | c | c
  · exact c
  · exact absurd (aCmp_eq (hgl a ha) (hgl b hb) c) h2
  · omega
theorem sorted_one {ks l m : List Ad} (hm : ASet m) (hn : ks.Nodup) (hk : ∀ x, x ∈ ks ↔ x ∈ m) (hp : l.Perm ks) (hs : l.Pairwise fun x y => ¬ aCmp y x < 0) : l = m :=
  (sorted_set hn (fun x hx => hm.good x ((hk x).1 hx)) hp hs).ext hm fun x => (hp.mem_iff).trans (hk x)
structure Oq where
  g : Ad
  t : Int
  n : Int
  l : SM
structure Qs where
  now : Int
  on : Option Int
  first : Int
  L : List Oq
def gs (L : List Oq) : List Ad := L.map (·.g)
structure OkO (o : Oq) : Prop where
  set : ASet (o.l.map Prod.fst)
  len : o.l.length ≤ 64
  n0 : 0 ≤ o.n
  n1 : o.n ≤ 1000
  v : ∀ p ∈ o.l, 1 ≤ p.2 ∧ p.2 ≤ 1000
structure QR (at_ : CM) (op : OM) (A : Qs) : Prop where
  atn : (at_.map Prod.fst).Nodup
  gen : mget at_ [] = A.on
  atg : ∀ o ∈ A.L, mget at_ (bOf o.g) = some o.t
  atk : ∀ k t, mget at_ k = some t → k = [] ∨ ∃ o ∈ A.L, k = bOf o.g
  opn : (op.map Prod.fst).Nodup
  opk : ∀ g x, mget op g = some x → g ∈ gs A.L
  opg : ∀ o ∈ A.L, ∃ i s, mget op o.g = some (i, (o.n, s)) ∧ s.Perm o.l
  set : ASet (gs A.L)
  lst : ∀ o ∈ A.L, OkO o
  len : A.L.length ≤ 64
theorem mget_in {κ ν : Type} [DecidableEq κ] {m : List (κ × ν)} {k : κ} : k ∈ m.map Prod.fst ↔ ∃ x, mget m k = some x := by
  constructor
  · intro h
    cases e : mget m k with
    | none => exact absurd h (mget_none.1 e)
    | some x => exact ⟨x, rfl⟩
  · rintro ⟨x, e⟩
    exact Classical.byContradiction fun h => by rw [mget_none.2 h] at e; cases e
variable {at_ : CM} {op : OM} {A : Qs}
theorem QR.keys (R : QR at_ op A) (g : Ad) : g ∈ op.map Prod.fst ↔ g ∈ gs A.L := by
  rw [mget_in]
  constructor
  · rintro ⟨x, e⟩; exact R.opk g x e
  · intro h
    obtain ⟨o, ho, rfl⟩ := List.mem_map.1 h
    obtain ⟨i, s, e, _⟩ := R.opg o ho
    exact ⟨_, e⟩
theorem QR.oplen (R : QR at_ op A) : op.length = A.L.length := by
  have hp : (op.map Prod.fst).Perm (gs A.L) := (List.perm_ext_iff_of_nodup R.opn R.set.nodup).2 R.keys
  have := hp.length_eq
  simpa [gs] using this
theorem groups_ok {now first : Int} {Q : List Ad → Prop} (R : QR at_ op A) (h : Q (gs A.L)) : query_Queries_groups_W now at_ first op Q := by
  have hl := R.oplen
  have h64 := R.len
  refine ⟨aCmp, fun x y => cmpP_ok rfl, ⟨by omega, fun l1 hp1 => ⟨swo_ad, by have := hp1.length_eq; simp at this; omega, fun l2 hp2 hs => ?_⟩⟩⟩
  rw [sorted_one R.set R.opn R.keys (hp2.trans hp1) hs]; exact h
theorem perm_keys {s l : SM} (hp : s.Perm l) (hl : ASet (l.map Prod.fst)) : (s.map Prod.fst).Nodup ∧ ∀ x, x ∈ s.map Prod.fst ↔ x ∈ l.map Prod.fst :=
  ⟨((hp.map Prod.fst).nodup_iff).2 hl.nodup, fun x => (hp.map Prod.fst).mem_iff⟩
theorem asked_ok {n : Int} {s l : SM} {g : Ad} {Q : Bool → Ba 16 → Bool → List Ad → Prop} (hp : s.Perm l) (hl : ASet (l.map Prod.fst)) (h64 : l.length ≤ 64) (h : Q g.1 g.2 (decide (0 < n)) (l.map Prod.fst)) : query_left_asked_W n s g Q := by
  have hlen := hp.length_eq
  have hk := perm_keys hp hl
  refine ⟨aCmp, fun x y => cmpP_ok rfl, ⟨by omega, fun l1 hp1 => ⟨swo_ad, by have := hp1.length_eq; simp at this; omega, fun l2 hp2 hs => ?_⟩⟩⟩
  rw [sorted_one hl hk.1 hk.2 (hp2.trans hp1) hs]; exact h
theorem gs_app (a b : List Oq) : gs (a ++ b) = gs a ++ gs b := by unfold gs; simp
theorem gs_cons (o : Oq) (b : List Oq) : gs (o :: b) = o.g :: gs b := rfl
theorem QR.good (R : QR at_ op A) {o : Oq} (ho : o ∈ A.L) : aGood o.g = true := R.set.good _ (List.mem_map.2 ⟨o, ho, rfl⟩)
theorem mid_ne {pre post : List Oq} {o p : Oq} (h : ASet (gs (pre ++ o :: post))) (hp : p ∈ pre ++ post) : p.g ≠ o.g := by
  have hn := h.nodup
  rw [gs_app, gs_cons] at hn
  intro e
  have hn2 : (o.g :: (gs pre ++ gs post)).Nodup := (List.perm_middle.nodup_iff).1 hn
  rw [List.nodup_cons] at hn2
  apply hn2.1
  rw [← gs_app, ← e]; exact List.mem_map.2 ⟨p, hp, rfl⟩
theorem mem_mid {α : Type} {pre post : List α} {o p : α} : p ∈ pre ++ o :: post ↔ p = o ∨ p ∈ pre ++ post := by
  simp only [List.mem_append, List.mem_cons]
  constructor
  · rintro (h | h | h)
    · exact .inr (.inl h)
    · exact .inl h
    · exact .inr (.inr h)
  · rintro (h | h | h)
    · exact .inr (.inl h)
    · exact .inl h
    · exact .inr (.inr h)
theorem QR.put {pre post mid : List Oq} {o : Oq} {i : Nat × Nat} {s : SM} {op' : OM} (R : QR at_ op { A with L := pre ++ (mid ++ post) }) (hmid : ∀ p ∈ mid, p.g = o.g) (hset : ASet (gs (pre ++ o :: post)))
    (hn : (op'.map Prod.fst).Nodup) (hop : ∀ k, mget op' k = if k = o.g then some (i, (o.n, s)) else mget op k) (hs : s.Perm o.l) (hl : OkO o) (hlen : (pre ++ o :: post).length ≤ 64) :
    QR (mset at_ (bOf o.g) o.t) op' { A with L := pre ++ o :: post } := by
  have hin : ∀ p ∈ pre ++ post, p ∈ pre ++ (mid ++ post) := fun p hp => by
    simp only [List.mem_append] at hp ⊢; rcases hp with hp | hp
    · exact .inl hp
    · exact .inr (.inr hp)
  have hgo : aGood o.g = true := hset.good _ (by rw [gs_app, gs_cons]; simp)
  have hgp : ∀ p ∈ pre ++ post, aGood p.g = true := fun p hp => hset.good _ (List.mem_map.2 ⟨p, mem_mid.2 (.inr hp), rfl⟩)
  have hbne : ∀ p ∈ pre ++ post, bOf p.g ≠ bOf o.g := fun p hp e => mid_ne hset hp (bOf_inj (hgp p hp) hgo e)
  refine ⟨nodup_mset R.atn _ _, ?_, ?_, ?_, hn, ?_, ?_, hset, ?_, hlen⟩
  · rw [mget_mset, if_neg (fun e => bOf_ne _ e.symm)]; exact R.gen
  · intro p hp
    rcases mem_mid.1 hp with rfl | hp
    · rw [mget_mset, if_pos rfl]
    · rw [mget_mset, if_neg (hbne p hp)]; exact R.atg p (hin p hp)
  · intro k t hk
    rw [mget_mset] at hk
    split at hk
    · rename_i e; exact .inr ⟨o, mem_mid.2 (.inl rfl), e⟩
    · rename_i e
      rcases R.atk k t hk with h | ⟨p, hp, h⟩
      · exact .inl h
      · refine .inr ⟨p, mem_mid.2 (.inr ?_), h⟩
        simp only [List.mem_append] at hp ⊢
        rcases hp with hp | hp | hp
        · exact .inl hp
        · exact absurd (by rw [h, hmid p hp]) e
        · exact .inr hp
  · intro g x hg
    rw [hop] at hg
    split at hg
    · rename_i e; rw [e, gs_app, gs_cons]; simp
    · rename_i e
      have := R.opk g x hg
      obtain ⟨p, hp, rfl⟩ := List.mem_map.1 this
      refine List.mem_map.2 ⟨p, mem_mid.2 (.inr ?_), rfl⟩
      simp only [List.mem_append] at hp ⊢
      rcases hp with hp | hp | hp
      · exact .inl hp
      · exact absurd (hmid p hp) e
      · exact .inr hp
  · intro p hp
    rcases mem_mid.1 hp with rfl | hp
    · exact ⟨i, s, by rw [hop, if_pos rfl], hs⟩
    · obtain ⟨j, u, h1, h2⟩ := R.opg p (hin p hp)
      exact ⟨j, u, by rw [hop, if_neg (mid_ne hset hp)]; exact h1, h2⟩
  · intro p hp
    rcases mem_mid.1 hp with rfl | hp
    · exact hl
    · exact R.lst p (hin p hp)
theorem ASet.less {l m : List Ad} (h : ASet l) (hs : m.Sublist l) : ASet m := ⟨h.rise.sublist hs, fun x hx => h.good x (hs.mem hx)⟩
theorem QR.del {pre post : List Oq} {o : Oq} (R : QR at_ op { A with L := pre ++ o :: post }) : QR (mdel at_ (bOf o.g)) (mdel op o.g) { A with L := pre ++ post } := by
  have hset := R.set
  have hin : ∀ p ∈ pre ++ post, p ∈ pre ++ o :: post := fun p hp => mem_mid.2 (.inr hp)
  have hgo : aGood o.g = true := R.good (o := o) (mem_mid.2 (.inl rfl))
  have hbne : ∀ p ∈ pre ++ post, bOf p.g ≠ bOf o.g := fun p hp e => mid_ne hset hp (bOf_inj (R.good (hin p hp)) hgo e)
  refine ⟨nodup_mdel R.atn _, ?_, ?_, ?_, nodup_mdel R.opn _, ?_, ?_, ?_, fun p hp => R.lst p (hin p hp), by have := R.len; simp at this ⊢; omega⟩
  · rw [mget_mdel, if_neg (fun e => bOf_ne _ e.symm)]; exact R.gen
  · intro p hp; rw [mget_mdel, if_neg (hbne p hp)]; exact R.atg p (hin p hp)
  · intro k t hk
    rw [mget_mdel] at hk
    split at hk
    · cases hk
    · rename_i e
      rcases R.atk k t hk with h | ⟨p, hp, h⟩
      · exact .inl h
      · rcases mem_mid.1 hp with rfl | hp
        · exact absurd h e
        · exact .inr ⟨p, hp, h⟩
  · intro g x hg
    rw [mget_mdel] at hg
    split at hg
    · cases hg
    · rename_i e
      obtain ⟨p, hp, rfl⟩ := List.mem_map.1 (R.opk g x hg)
      rcases mem_mid.1 hp with rfl | hp
      · exact absurd rfl e
      · exact List.mem_map.2 ⟨p, hp, rfl⟩
  · intro p hp
    obtain ⟨j, u, h1, h2⟩ := R.opg p (hin p hp)
    exact ⟨j, u, by rw [mget_mdel, if_neg (mid_ne hset hp)]; exact h1, h2⟩
  · refine ASet.less hset ?_
    unfold gs; exact ((List.Sublist.refl pre).append (List.sublist_cons_self o post)).map _
theorem QR.frame {B : Qs} (R : QR at_ op A) (h1 : B.L = A.L) (h2 : B.on = A.on) : QR at_ op B := by
  obtain ⟨a, b, c, d, e, f, g, h, i, j⟩ := R
  exact ⟨a, by rw [h2]; exact b, by rw [h1]; exact c, by rw [h1]; exact d, e, by rw [h1]; exact f, by rw [h1]; exact g, by rw [h1]; exact h, by rw [h1]; exact i, by rw [h1]; exact j⟩
theorem QR.genset {t : Int} (R : QR at_ op A) : QR (mset at_ [] t) op { A with on := some t } := by
  refine ⟨nodup_mset R.atn _ _, by rw [mget_mset, if_pos rfl], fun o ho => by rw [mget_mset, if_neg (bOf_ne _)]; exact R.atg o ho, fun k u hk => ?_, R.opn, R.opk, R.opg, R.set, R.lst, R.len⟩
  rw [mget_mset] at hk
  split at hk
  · rename_i e; exact .inl e
  · exact R.atk k u hk
def setS (c : Int) (l : SM) (a : Ad) : SM :=
  if a ∈ l.map Prod.fst then l.map (fun p => if p.1 = a then (a, c) else p) else if 64 ≤ l.length then l
  else (l.takeWhile fun p => decide (aCmp p.1 a < 0)) ++ (a, c) :: l.dropWhile fun p => decide (aCmp p.1 a < 0)
theorem mset_eq_map {m : SM} {a : Ad} {c : Int} (hn : (m.map Prod.fst).Nodup) (h : a ∈ m.map Prod.fst) : mset m a c = m.map fun p => if p.1 = a then (a, c) else p := by
  induction m with
  | nil => cases h
  | cons p r ih =>
    rw [List.map_cons, List.nodup_cons] at hn
    unfold mset
    by_cases e : a = p.1
    · rw [if_pos e, List.map_cons, if_pos e.symm]
      have : r.map (fun p => if p.1 = a then (a, c) else p) = r := by
        conv => rhs; rw [← List.map_id r]
        apply List.map_congr_left
        intro q hq
        rw [if_neg]; · rfl
        rintro e2
        exact hn.1 (by rw [← e, ← e2]; exact List.mem_map.2 ⟨q, hq, rfl⟩)
      rw [this, e]
    · rw [if_neg e, List.map_cons, if_neg (fun q => e q.symm)]
      congr 1
      refine ih hn.2 ?_
      rcases List.mem_cons.1 h with h | h
      · exact absurd h e
      · exact h
theorem setS_keys {c : Int} {l : SM} {a : Ad} (hl : ASet (l.map Prod.fst)) (ha : aGood a = true) : ASet ((setS c l a).map Prod.fst) ∧ (l.length ≤ 64 → (setS c l a).length ≤ 64) := by
  unfold setS
  split
  · refine ⟨?_, fun h => by simpa using h⟩
    have : (l.map (fun p => if p.1 = a then (a, c) else p)).map Prod.fst = l.map Prod.fst := by
      rw [List.map_map]; apply List.map_congr_left; intro q _; simp only [Function.comp_apply]; split
      · rename_i e; exact e.symm
      · rfl
    rw [this]; exact hl
  · rename_i hni
    split
    · exact ⟨hl, id⟩
    · have hT : ((l.takeWhile fun p => decide (aCmp p.1 a < 0)) ++ (a, c) :: l.dropWhile fun p => decide (aCmp p.1 a < 0)).map Prod.fst = ins (l.map Prod.fst) a := by
        unfold ins
        rw [if_neg (by simp [ha]; simpa using hni)]
        rw [List.map_append, List.map_cons, List.takeWhile_map, List.dropWhile_map]; rfl
      refine ⟨by rw [hT]; exact hl.ins a, fun _ => ?_⟩
      have h1 := congrArg List.length hT
      have h2 := ins_len (l.map Prod.fst) a
      simp only [List.length_map] at h1 h2
      omega
theorem setS_perm {c : Int} {m l : SM} {a : Ad} (hp : m.Perm l) (hl : ASet (l.map Prod.fst)) : ((mget m a).isSome = true ∨ m.length < 64 → (mset m a c).Perm (setS c l a)) ∧ (¬ ((mget m a).isSome = true ∨ m.length < 64) → m.Perm (setS c l a)) := by
  have hk := perm_keys hp hl
  have hin : (mget m a).isSome = true ↔ a ∈ l.map Prod.fst := by
    rw [← hk.2, mget_in]
    cases mget m a with
    | none => simp
    | some x => simp
  have hlen := hp.length_eq
  unfold setS
  refine ⟨fun h => ?_, fun h => ?_⟩
  · by_cases e : a ∈ l.map Prod.fst
    · rw [if_pos e, mset_eq_map hk.1 ((hk.2 a).2 e)]; exact hp.map _
    · have h64 : m.length < 64 := h.resolve_left fun q => e (hin.1 q)
      rw [if_neg e, if_neg (by omega), mset_none (by rw [mget_none]; exact fun q => e ((hk.2 a).1 q))]
      refine List.Perm.trans ?_ List.perm_middle.symm
      rw [List.takeWhile_append_dropWhile]
      exact (List.perm_append_singleton _ _).trans (hp.cons _)
  · have h1 : a ∉ l.map Prod.fst := fun q => h (.inl (hin.2 q))
    rw [if_neg h1, if_pos (by have := fun q => h (.inr q); omega)]; exact hp
end Go.Wk
