/- Plain words: the laws of a clock. -/
import Derived.Test.YtolmcabcmphkpaaCloS
set_option linter.unusedSimpArgs false
set_option linter.unusedVariables false
set_option linter.unusedSectionVars false
namespace Go.Wk
open Go.HL
variable [DM]
abbrev En := T_acequiaref12_Entry
def El (a b : En) : Prop := a.2 < b.2 ∨ (a.2 = b.2 ∧ a.1 < b.1)
theorem El.irr (a : En) : ¬ El a a := by rintro (h | h); exact Int.lt_irrefl _ h; exact oirr _ h.2
theorem El.tr {a b c : En} (h : El a b) (h2 : El b c) : El a c := by
  rcases h with h | h <;> rcases h2 with h2 | h2
  · exact .inl (by omega)
  · exact .inl (by omega)
  · exact .inl (by omega)
  · exact .inr ⟨by omega, otr _ _ _ h.2 h2.2⟩
theorem El.tot {a b : En} (h : ¬ El a b) (h2 : ¬ El b a) : a = b := by
  have e : a.2 = b.2 := by
    rcases Int.lt_trichotomy a.2 b.2 with c | c | c
    · exact absurd (.inl c) h
    · exact c
    · exact absurd (.inl c) h2
  exact Prod.ext (otot _ _ (fun q => h (.inr ⟨e, q⟩)) (fun q => h2 (.inr ⟨e.symm, q⟩))) e
structure Rk (m : CM) (l : List En) : Prop where
  nd : (m.map Prod.fst).Nodup
  pm : l.Perm m
  so : l.Pairwise El
theorem Rk.get {m : CM} {l : List En} (R : Rk m l) {p : En} (h : p ∈ l) : mget m p.1 = some p.2 := (mem_iff_mget R.nd p.1 p.2).1 (R.pm.mem_iff.1 h)
theorem Rk.get0 {m : CM} {l : List En} (R : Rk m l) {p : En} (h : p ∈ l) : mget0 m p.1 = p.2 := by unfold mget0; rw [R.get h]; rfl
theorem Rk.none {m : CM} {l : List En} (R : Rk m l) {k : Str} (h : ∀ p ∈ l, p.1 ≠ k) : mget m k = none := by
  rw [mget_none]; intro q
  obtain ⟨p, hp, e⟩ := List.mem_map.1 q
  exact h p (R.pm.mem_iff.2 hp) e
theorem Rk.bl {m : CM} {l : List En} (R : Rk m l) {p q : En} (hp : p ∈ l) (hq : q ∈ l) : Bl m p.1 q.1 ↔ El p q := by unfold Bl El; rw [R.get0 hp, R.get0 hq]
theorem Rk.nil : Rk [] [] := ⟨List.nodup_nil, List.Perm.refl _, List.Pairwise.nil⟩
/-- The first ones of a list that rises. -/
theorem Rk.front {m : CM} {l : List En} (R : Rk m l) {now : Int} {n : Nat} (hn : n ≤ l.length) (h1 : ∀ p ∈ l.take n, p.2 ≤ now) (h2 : ∀ h : n < l.length, ¬ l[n].2 ≤ now) : l.take n = l.filter (fun p => decide (p.2 ≤ now)) ∧ l.drop n = l.filter (fun p => decide (now < p.2)) := by
  have hd : ∀ p ∈ l.drop n, now < p.2 := by
    intro p hp
    obtain ⟨j, hj, rfl⟩ := List.mem_iff_getElem.1 hp
    rw [List.length_drop] at hj
    rw [List.getElem_drop]
    have hx := h2 (by omega)
    by_cases e : j = 0
    · subst e; simpa using hx
    · have := List.pairwise_iff_getElem.1 R.so n (n + j) (by omega) (by omega) (by omega)
      rcases this with q | q <;> omega
  have e1 : (l.take n).filter (fun p => decide (p.2 ≤ now)) = l.take n := List.filter_eq_self.2 fun p hp => by simpa using h1 p hp
  have e2 : (l.drop n).filter (fun p => decide (p.2 ≤ now)) = [] := List.filter_eq_nil_iff.2 fun p hp => by have := hd p hp; simp; omega
  have e3 : (l.take n).filter (fun p => decide (now < p.2)) = [] := List.filter_eq_nil_iff.2 fun p hp => by have := h1 p hp; simp; omega
  have e4 : (l.drop n).filter (fun p => decide (now < p.2)) = l.drop n := List.filter_eq_self.2 fun p hp => by simpa using hd p hp
  constructor
  · conv => rhs; rw [← List.take_append_drop n l, List.filter_append, e1, e2, List.append_nil]
  · conv => rhs; rw [← List.take_append_drop n l, List.filter_append, e3, e4, List.nil_append]
/-- What is due, as it stands. -/
theorem Rk.due {m : CM} {l : List En} (R : Rk m l) {now : Int} {n : Nat} (hn : n ≤ l.length) (h1 : ∀ p ∈ l.take n, p.2 ≤ now) (h2 : ∀ h : n < l.length, ¬ l[n].2 ≤ now) {r : List Str} (hr : r.Perm (dueK m now)) (hs : r.Pairwise fun x y => ¬ bef m y x < 0) : r = (l.take n).map Prod.fst := by
  refine keys_one (m := m) (hr.trans ?_) hs ?_
  · rw [(R.front hn h1 h2).1]; exact ((R.pm.symm.filter _).map _)
  · rw [List.pairwise_map]
    have hp : (l.take n).Pairwise El := R.so.sublist (List.take_sublist _ _)
    refine List.Pairwise.imp_of_mem ?_ hp
    intro a b ha hb hab q
    have q' := (R.bl (List.mem_of_mem_take hb) (List.mem_of_mem_take ha)).1 (bef_lt.1 q)
    exact El.irr _ (hab.tr q')
theorem Rk.left {m : CM} {l : List En} (R : Rk m l) {now : Int} {n : Nat} (hn : n ≤ l.length) (h1 : ∀ p ∈ l.take n, p.2 ≤ now) (h2 : ∀ h : n < l.length, ¬ l[n].2 ≤ now) : Rk (leftM m now) (l.drop n) :=
  ⟨R.nd.sublist (List.Sublist.map _ (List.filter_sublist)), by rw [(R.front hn h1 h2).2]; exact R.pm.filter _, R.so.sublist (List.drop_sublist _ _)⟩
theorem Rk.cut {m : CM} {l : List En} (R : Rk m l) (k : Str) : Rk (mdel m k) (l.filter fun p => decide (p.1 ≠ k)) := by
  refine ⟨nodup_mdel R.nd k, ?_, R.so.sublist List.filter_sublist⟩
  unfold mdel
  have : (m.filter fun p => decide (k ≠ p.1)) = m.filter fun p => decide (p.1 ≠ k) := List.filter_congr fun p _ => by rw [decide_eq_decide]; exact ne_comm
  rw [this]; exact R.pm.filter _
theorem Rk.set {m : CM} {l : List En} (R : Rk m l) {k : Str} {t : Int} {C : List En} (hC : C = l.filter fun p => decide (p.1 ≠ k)) {i : Nat} (hi : i ≤ C.length) (h1 : ∀ p ∈ C.take i, El p (k, t)) (h2 : ∀ h : i < C.length, ¬ El C[i] (k, t)) : Rk (mset m k t) (C.take i ++ [(k, t)] ++ C.drop i) := by
  have hCs : C.Pairwise El := by rw [hC]; exact R.so.sublist List.filter_sublist
  have hCm : ∀ p, p ∈ C ↔ p ∈ l ∧ p.1 ≠ k := fun p => by rw [hC, List.mem_filter]; simp
  have hd : ∀ p ∈ C.drop i, El (k, t) p := by
    intro p hp
    obtain ⟨j, hj, rfl⟩ := List.mem_iff_getElem.1 hp
    rw [List.length_drop] at hj
    rw [List.getElem_drop]
    have hx := h2 (by omega)
    have hk : C[i].1 ≠ k := ((hCm _).1 (List.getElem_mem (by omega))).2
    have hb : El (k, t) C[i] := Classical.byContradiction fun q => hk (congrArg Prod.fst (El.tot hx q))
    by_cases e : j = 0
    · subst e; simpa using hb
    · exact hb.tr (List.pairwise_iff_getElem.1 hCs i (i + j) (by omega) (by omega) (by omega))
  have hso : (C.take i ++ [(k, t)] ++ C.drop i).Pairwise El := by
    rw [List.append_assoc, List.pairwise_append, List.singleton_append, List.pairwise_cons]
    refine ⟨hCs.sublist (List.take_sublist _ _), ⟨hd, hCs.sublist (List.drop_sublist _ _)⟩, fun a ha b hb => ?_⟩
    rcases List.mem_cons.1 hb with rfl | hb
    · exact h1 a ha
    · exact (h1 a ha).tr (hd b hb)
  refine ⟨nodup_mset R.nd k t, ?_, hso⟩
  rw [List.perm_ext_iff_of_nodup (List.Pairwise.imp (fun {a b} (h : El a b) (e : a = b) => El.irr a (by rw [← e] at h; exact h)) hso) (List.Pairwise.of_map Prod.fst (fun a b h e => h (congrArg Prod.fst e)) (nodup_mset R.nd k t))]
  intro p
  rw [mset_mem R.nd, ← R.pm.mem_iff, ← hCm, List.mem_append, List.mem_append, List.mem_singleton]
  conv => rhs; rw [← List.take_append_drop i C, List.mem_append]
  constructor
  · rintro ((h | h) | h)
    · exact .inr (.inl h)
    · exact .inl h
    · exact .inr (.inr h)
  · rintro (h | h | h)
    · exact .inl (.inr h)
    · exact .inl (.inl h)
    · exact .inr h

/-! ### The reference -/
theorem cutT_ok {s : Str} {Q : Str → Prop} (h : ∀ r : Str, r.length ≤ 10 → Q r) : law01_Cut_W s 10 Q := by
  refine ⟨fun c => ⟨by omega, h _ ?_⟩, fun c => h _ (by omega)⟩
  show (cut s 0 10).length ≤ 10
  unfold cut; simp; omega
theorem find12_ok {l : List En} {key : Str} {Q : Int → Prop} (hl : l.length ≤ 1000) (h1 : ∀ (i : Nat) (h : i < l.length), l[i].1 = key → Q (i : Int)) (h2 : (∀ p ∈ l, p.1 ≠ key) → Q (-1)) : ref12_Find_W l key Q := by
  refine loop_up1 l.length (fun i => ∀ p ∈ l.take i, p.1 ≠ key) (by simp) fun K i hi hI hK => ?_
  show ref12_Find_l1 l key Q K (i : Int)
  unfold ref12_Find_l1
  refine ⟨fun c => ⟨by (first | omega | (unfold I64; omega) | (simp only [List.length_append, List.length_cons, List.length_nil, List.length_take, List.length_drop] at *; omega) | (unfold I64; simp only [List.length_append, List.length_cons, List.length_nil, List.length_take, List.length_drop] at *; omega)), fun d => ?_, fun d => ⟨by (first | omega | (unfold I64; omega) | (simp only [List.length_append, List.length_cons, List.length_nil, List.length_take, List.length_drop] at *; omega) | (unfold I64; simp only [List.length_append, List.length_cons, List.length_nil, List.length_take, List.length_drop] at *; omega)), hK (i + 1) (by omega) (by omega) ?_⟩⟩, fun c => ?_⟩
  · have i1 : i < l.length := by omega
    rw [gi_nat i1] at d; exact h1 i i1 d
  · have i1 : i < l.length := by omega
    rw [gi_nat i1] at d
    intro p hp
    rw [List.take_succ_eq_append_getElem i1] at hp
    rcases List.mem_append.1 hp with q | q
    · exact hI p q
    · rw [List.mem_singleton.1 q]; exact d
  · have i1 : i = l.length := by omega
    subst i1; rw [List.take_length] at hI; exact h2 hI
theorem due12_ok {l : List En} {now : Int} {Q : Int → Prop} (hl : l.length ≤ 1000) (h : ∀ n : Nat, n ≤ l.length → (∀ p ∈ l.take n, p.2 ≤ now) → (∀ h : n < l.length, ¬ l[n].2 ≤ now) → Q (n : Int)) : ref12_Due_W l now Q := by
  refine loop_up1 l.length (fun i => ∀ p ∈ l.take i, p.2 ≤ now) (by simp) fun K i hi hI hK => ?_
  show ref12_Due_l1 l now Q K (i : Int)
  unfold ref12_Due_l1
  refine ⟨fun c => ⟨by (first | omega | (unfold I64; omega) | (simp only [List.length_append, List.length_cons, List.length_nil, List.length_take, List.length_drop] at *; omega) | (unfold I64; simp only [List.length_append, List.length_cons, List.length_nil, List.length_take, List.length_drop] at *; omega)), fun d => ⟨by (first | omega | (unfold I64; omega) | (simp only [List.length_append, List.length_cons, List.length_nil, List.length_take, List.length_drop] at *; omega) | (unfold I64; simp only [List.length_append, List.length_cons, List.length_nil, List.length_take, List.length_drop] at *; omega)), hK (i + 1) (by omega) (by omega) ?_⟩, fun d => h i hi hI fun i1 => ?_⟩, fun c => h i hi hI fun i1 => absurd i1 (by omega)⟩
  · have i1 : i < l.length := by omega
    rw [gi_nat i1] at d
    intro p hp
    rw [List.take_succ_eq_append_getElem i1] at hp
    rcases List.mem_append.1 hp with q | q
    · exact hI p q
    · rw [List.mem_singleton.1 q]; exact d
  · rw [gi_nat i1] at d; exact d
theorem cut12_ok {l : List En} {key : Str} {Q : List En → Prop} (hl : l.length ≤ 1000) (h : Q (l.filter fun p => decide (p.1 ≠ key))) : ref12_Cut_W l key Q := by
  refine loop_up l.length (fun i s => s = (l.take i).filter fun p => decide (p.1 ≠ key)) rfl fun K i o hi ho hK => ?_
  have lo : o.length ≤ i := by rw [ho]; refine Nat.le_trans (List.length_filter_le _ _) ?_; rw [List.length_take]; omega
  show ref12_Cut_l1 l key Q _ o (i : Int)
  unfold ref12_Cut_l1
  refine ⟨fun c => ⟨by (first | omega | (unfold I64; omega) | (simp only [List.length_append, List.length_cons, List.length_nil, List.length_take, List.length_drop] at *; omega) | (unfold I64; simp only [List.length_append, List.length_cons, List.length_nil, List.length_take, List.length_drop] at *; omega)), fun d => ⟨by simp only [List.length_cons, List.length_nil]; omega, by (first | omega | (unfold I64; omega) | (simp only [List.length_append, List.length_cons, List.length_nil, List.length_take, List.length_drop] at *; omega) | (unfold I64; simp only [List.length_append, List.length_cons, List.length_nil, List.length_take, List.length_drop] at *; omega)), hK (i + 1) _ (by omega) (by omega) ?_⟩, fun d => ⟨by (first | omega | (unfold I64; omega) | (simp only [List.length_append, List.length_cons, List.length_nil, List.length_take, List.length_drop] at *; omega) | (unfold I64; simp only [List.length_append, List.length_cons, List.length_nil, List.length_take, List.length_drop] at *; omega)), hK (i + 1) _ (by omega) (by omega) ?_⟩⟩, fun c => ?_⟩
  · have i1 : i < l.length := by omega
    rw [gi_nat i1] at d ⊢
    rw [List.take_succ_eq_append_getElem i1, List.filter_append, ← ho]; simp [d]
  · have i1 : i < l.length := by omega
    rw [gi_nat i1] at d
    rw [List.take_succ_eq_append_getElem i1, List.filter_append, ← ho]; simp [d]
  · have i1 : i = l.length := by omega
    subst i1; rw [List.take_length] at ho; rw [ho]; exact h
theorem before12_ok {a b : En} {Q : Bool → Prop} (h1 : El a b → Q true) (h2 : ¬ El a b → Q false) : ref12_before_W a b Q := by
  refine ⟨fun c => h1 (.inl c), fun c => ⟨fun d => ?_, fun d => h2 (by rintro (q | q); exact c q; exact d q.1)⟩⟩
  by_cases e : a.1 < b.1
  · rw [decide_eq_true e]; exact h1 (.inr ⟨d, e⟩)
  · rw [decide_eq_false e]; exact h2 (by rintro (q | q); exact c q; exact e q.2)
theorem set12_ok {l : List En} {key : Str} {t : Int} {Q : List En → Prop} (hl : l.length ≤ 1000) (h : ∀ (C : List En) (i : Nat), (C = l.filter fun p => decide (p.1 ≠ key)) → i ≤ C.length → (∀ p ∈ C.take i, El p (key, t)) → (∀ h : i < C.length, ¬ El C[i] (key, t)) → Q (C.take i ++ [(key, t)] ++ C.drop i)) : ref12_Set_W l key t Q := by
  refine cut12_ok hl ?_
  obtain ⟨C, hC⟩ : ∃ C, C = l.filter fun p => decide (p.1 ≠ key) := ⟨_, rfl⟩
  rw [← hC]
  have lC : C.length ≤ 1000 := by rw [hC]; exact Nat.le_trans (List.length_filter_le _ _) hl
  have j1 : ∀ i : Nat, i ≤ C.length → (∀ p ∈ C.take i, El p (key, t)) → (∀ h : i < C.length, ¬ El C[i] (key, t)) → ref12_Set_j1 key t Q C (i : Int) := by
    intro i hi a b
    have := h C i hC hi a b
    unfold ref12_Set_j1
    simp only [cut0n, cutn, List.nil_append, List.length_append, List.length_take, List.length_cons, List.length_nil, List.length_drop]
    exact ⟨by omega, by omega, by omega, by omega, by omega, by omega, this⟩
  refine loop_up1 C.length (fun i => ∀ p ∈ C.take i, El p (key, t)) (by simp) fun K i hi hI hK => ?_
  show ref12_Set_l1 key t Q C K (i : Int)
  unfold ref12_Set_l1
  refine ⟨fun c => ⟨by (first | omega | (unfold I64; omega) | (simp only [List.length_append, List.length_cons, List.length_nil, List.length_take, List.length_drop] at *; omega) | (unfold I64; simp only [List.length_append, List.length_cons, List.length_nil, List.length_take, List.length_drop] at *; omega)), ?_⟩, fun c => j1 i hi hI fun i1 => absurd i1 (by omega)⟩
  have i1 : i < C.length := by omega
  rw [gi_nat i1]
  refine before12_ok (fun d => ⟨fun _ => ⟨by (first | omega | (unfold I64; omega) | (simp only [List.length_append, List.length_cons, List.length_nil, List.length_take, List.length_drop] at *; omega) | (unfold I64; simp only [List.length_append, List.length_cons, List.length_nil, List.length_take, List.length_drop] at *; omega)), hK (i + 1) (by omega) (by omega) ?_⟩, fun q => (by cases q)⟩) (fun d => ⟨fun q => (by cases q), fun _ => j1 i hi hI fun _ => d⟩)
  intro p hp
  rw [List.take_succ_eq_append_getElem i1] at hp
  rcases List.mem_append.1 hp with q | q
  · exact hI p q
  · rw [List.mem_singleton.1 q]; exact d
theorem keys12_ok {l : List En} {Q : List Str → Prop} (hl : l.length ≤ 1000) (h : Q (l.map Prod.fst)) : ref12_Keys_W l Q := by
  refine loop_up l.length (fun i s => s = (l.take i).map Prod.fst) rfl fun K i o hi ho hK => ?_
  have lo : o.length ≤ i := by rw [ho, List.length_map, List.length_take]; omega
  show ref12_Keys_l1 l Q _ o (i : Int)
  unfold ref12_Keys_l1
  refine ⟨fun c => ⟨by (first | omega | (unfold I64; omega) | (simp only [List.length_append, List.length_cons, List.length_nil, List.length_take, List.length_drop] at *; omega) | (unfold I64; simp only [List.length_append, List.length_cons, List.length_nil, List.length_take, List.length_drop] at *; omega)), by simp only [List.length_cons, List.length_nil]; omega, by (first | omega | (unfold I64; omega) | (simp only [List.length_append, List.length_cons, List.length_nil, List.length_take, List.length_drop] at *; omega) | (unfold I64; simp only [List.length_append, List.length_cons, List.length_nil, List.length_take, List.length_drop] at *; omega)), hK (i + 1) _ (by omega) (by omega) ?_⟩, fun c => ?_⟩
  · have i1 : i < l.length := by omega
    rw [gi_nat i1, List.take_succ_eq_append_getElem i1, List.map_append, ← ho]; rfl
  · have i1 : i = l.length := by omega
    subst i1; rw [List.take_length] at ho; rw [ho]; exact h
theorem same12_ok {a : List Str} {Q : Bool → Prop} (hl : a.length ≤ 1000) (h : Q true) : ref12_Same_W a a Q := by
  refine ⟨fun c => absurd rfl c, fun _ => ?_⟩
  refine loop_up1 a.length (fun _ => True) trivial fun K i hi _ hK => ?_
  show ref12_Same_l1 _ _ _ _ _
  unfold ref12_Same_l1
  exact ⟨fun c => ⟨by (first | omega | (unfold I64; omega) | (simp only [List.length_append, List.length_cons, List.length_nil, List.length_take, List.length_drop] at *; omega) | (unfold I64; simp only [List.length_append, List.length_cons, List.length_nil, List.length_take, List.length_drop] at *; omega)), by (first | omega | (unfold I64; omega) | (simp only [List.length_append, List.length_cons, List.length_nil, List.length_take, List.length_drop] at *; omega) | (unfold I64; simp only [List.length_append, List.length_cons, List.length_nil, List.length_take, List.length_drop] at *; omega)), fun q => absurd rfl q, fun _ => ⟨by (first | omega | (unfold I64; omega) | (simp only [List.length_append, List.length_cons, List.length_nil, List.length_take, List.length_drop] at *; omega) | (unfold I64; simp only [List.length_append, List.length_cons, List.length_nil, List.length_take, List.length_drop] at *; omega)), hK (i + 1) (by omega) (by omega) trivial⟩⟩, fun _ => h⟩
theorem sorted12_ok {l : List Str} {Q : List Str → Prop} (hl : l.length ≤ 1000) (h : ∀ r : List Str, r.Perm l → (r.Pairwise fun x y => ¬ y < x) → Q r) : ref12_Sorted_W l Q := by
  refine loop_up l.length (fun i o => o.Perm (l.take i) ∧ o.Pairwise fun x y => ¬ y < x) ⟨List.Perm.refl _, List.Pairwise.nil⟩ fun K i o hi hI hK => ?_
  obtain ⟨hp, hs⟩ := hI
  have lo : o.length = i := by rw [hp.length_eq, List.length_take]; omega
  show ref12_Sorted_l1 l Q _ o (i : Int)
  unfold ref12_Sorted_l1
  refine ⟨fun c => ?_, fun c => ?_⟩
  · have i1 : i < l.length := by omega
    have j1 : ∀ n : Nat, n ≤ o.length → (∀ p ∈ o.take n, p < l[i]) → (∀ h : n < o.length, ¬ o[n] < l[i]) → ref12_Sorted_j1 l o (i : Int) (fun a b => K (a, b)) (n : Int) := by
      intro n hn h1 h2
      unfold ref12_Sorted_j1
      rw [gi_nat i1]
      simp only [cut0n, cutn, List.nil_append, List.length_append, List.length_take, List.length_cons, List.length_nil, List.length_drop]
      refine ⟨by omega, by omega, by omega, by omega, by omega, by omega, by omega, by (first | omega | (unfold I64; omega) | (simp only [List.length_append, List.length_cons, List.length_nil, List.length_take, List.length_drop] at *; omega) | (unfold I64; simp only [List.length_append, List.length_cons, List.length_nil, List.length_take, List.length_drop] at *; omega)), hK (i + 1) _ (by omega) (by omega) ⟨?_, ?_⟩⟩
      · rw [List.take_succ_eq_append_getElem i1, List.append_assoc]
        refine (List.perm_append_comm_assoc _ _ _).trans ?_
        rw [List.take_append_drop]
        exact (List.perm_append_comm (l₁ := [l[i]])).trans (hp.append_right _)
      · have hd : ∀ p ∈ o.drop n, ¬ p < l[i] := by
          intro p hp'
          obtain ⟨j, hj, rfl⟩ := List.mem_iff_getElem.1 hp'
          rw [List.length_drop] at hj
          rw [List.getElem_drop]
          have hx := h2 (by omega)
          by_cases e : j = 0
          · subst e; simpa using hx
          · have := List.pairwise_iff_getElem.1 hs n (n + j) (by omega) (by omega) (by omega)
            intro q
            by_cases z : o[n] < o[n + j]
            · exact hx (otr _ _ _ z q)
            · exact hx (otot _ _ z this ▸ q)
        rw [List.append_assoc, List.pairwise_append, List.singleton_append, List.pairwise_cons]
        refine ⟨hs.sublist (List.take_sublist _ _), ⟨hd, hs.sublist (List.drop_sublist _ _)⟩, fun a ha b hb q => ?_⟩
        rcases List.mem_cons.1 hb with rfl | hb
        · exact oirr _ (otr _ _ _ q (h1 a ha))
        · exact hd b hb (otr _ _ _ q (h1 a ha))
    refine loop_up1 o.length (fun n => ∀ p ∈ o.take n, p < l[i]) (by simp) fun K2 n hn hI2 hK2 => ?_
    show ref12_Sorted_l2 l o (i : Int) _ K2 (n : Int)
    unfold ref12_Sorted_l2
    refine ⟨fun c2 => ⟨by (first | omega | (unfold I64; omega) | (simp only [List.length_append, List.length_cons, List.length_nil, List.length_take, List.length_drop] at *; omega) | (unfold I64; simp only [List.length_append, List.length_cons, List.length_nil, List.length_take, List.length_drop] at *; omega)), by (first | omega | (unfold I64; omega) | (simp only [List.length_append, List.length_cons, List.length_nil, List.length_take, List.length_drop] at *; omega) | (unfold I64; simp only [List.length_append, List.length_cons, List.length_nil, List.length_take, List.length_drop] at *; omega)), fun d => ⟨by (first | omega | (unfold I64; omega) | (simp only [List.length_append, List.length_cons, List.length_nil, List.length_take, List.length_drop] at *; omega) | (unfold I64; simp only [List.length_append, List.length_cons, List.length_nil, List.length_take, List.length_drop] at *; omega)), hK2 (n + 1) (by omega) (by omega) ?_⟩, fun d => j1 n hn hI2 fun n1 => ?_⟩, fun c2 => j1 n hn hI2 fun n1 => absurd n1 (by omega)⟩
    · have n1 : n < o.length := by omega
      rw [gi_nat i1, gi_nat n1] at d
      intro p hp'
      rw [List.take_succ_eq_append_getElem n1] at hp'
      rcases List.mem_append.1 hp' with q | q
      · exact hI2 p q
      · rw [List.mem_singleton.1 q]; exact d
    · rw [gi_nat i1, gi_nat n1] at d; exact d
  · have i1 : i = l.length := by omega
    rw [i1, List.take_length] at hp
    exact h o hp hs

/-! ### The laws -/
theorem told_ok {m : CM} {l : List En} {ask : Str} {Q : Bool → CM → Prop} (R : Rk m l) (hl : l.length ≤ 100) (hk : ∀ p ∈ l, p.1.length ≤ 10) (h : Q true m) : law12_told_W m l ask Q := by
  have hlen : l.length = m.length := R.pm.length_eq
  have j1 : law12_told_j1 l Q m := by
    refine ⟨fun _ => ⟨⟨by omega, fun p hp => ?_⟩, fun r hr hs => ?_⟩, fun c => absurd (by show (m.length : Int) = _; omega) c⟩
    · have := hk p (R.pm.mem_iff.2 hp); omega
    · refine keys12_ok (by omega) (sorted12_ok (by simp; omega) fun r2 hr2 hs2 => ?_)
      have e : r = r2 := List.Perm.eq_of_pairwise (le := fun x y : Str => ¬ y < x) (fun x y _ _ h1 h2 => otot _ _ h2 h1) hs hs2 (hr.trans ((R.pm.symm.map Prod.fst).trans hr2.symm))
      subst e
      exact same12_ok (by rw [hr.length_eq, List.length_map]; omega) h
  -- what comes next
  have tail : ∀ (r0 : Int) (r1 : Bool) (r2 : Int), (r1 = true → ∃ i : Nat, r2 = i ∧ ∃ h : i < l.length, l[i].1 = ask ∧ r0 = l[i].2) → (r1 = false → r2 = -1 ∧ r0 = 0) → clock_Clock_Next_string_W m (fun r0_2 r1_2 r2_1 cm_2 => ((!(r1 == (decide (0 ≤ r2)))) = true → Q false cm_2) ∧ ((!(r1 == (decide (0 ≤ r2)))) = false → (r1 = true → ((0 : Int) ≤ r2 ∧ r2 < (l.length : Int)) ∧ ((¬ (r0 = ((gi l r2).2)) → Q false cm_2) ∧ (r0 = ((gi l r2).2) → ((!(r2_1 == (decide (0 < (l.length : Int))))) = true → Q false cm_2) ∧ ((!(r2_1 == (decide (0 < (l.length : Int))))) = false → (r2_1 = true → ((0 : Int) ≤ 0 ∧ 0 < (l.length : Int)) ∧ ((¬ ((r0_2 : Str) = (gi l 0).1) → Q false cm_2) ∧ ((r0_2 : Str) = (gi l 0).1 → (¬ (r1_2 = ((gi l 0).2)) → Q false cm_2) ∧ (r1_2 = ((gi l 0).2) → law12_told_j1 l Q cm_2)))) ∧ (r2_1 = false → (¬ ((r0_2 : Str) = []) → Q false cm_2) ∧ ((r0_2 : Str) = [] → (¬ (r1_2 = 0) → Q false cm_2) ∧ (r1_2 = 0 → law12_told_j1 l Q cm_2))))))) ∧ (r1 = false → (¬ (r0 = 0) → Q false cm_2) ∧ (r0 = 0 → ((!(r2_1 == (decide (0 < (l.length : Int))))) = true → Q false cm_2) ∧ ((!(r2_1 == (decide (0 < (l.length : Int))))) = false → (r2_1 = true → ((0 : Int) ≤ 0 ∧ 0 < (l.length : Int)) ∧ ((¬ ((r0_2 : Str) = (gi l 0).1) → Q false cm_2) ∧ ((r0_2 : Str) = (gi l 0).1 → (¬ (r1_2 = ((gi l 0).2)) → Q false cm_2) ∧ (r1_2 = ((gi l 0).2) → law12_told_j1 l Q cm_2)))) ∧ (r2_1 = false → (¬ ((r0_2 : Str) = []) → Q false cm_2) ∧ ((r0_2 : Str) = [] → (¬ (r1_2 = 0) → Q false cm_2) ∧ (r1_2 = 0 → law12_told_j1 l Q cm_2)))))))) := by
    intro r0 r1 r2 a1 a2
    -- the ends
    have fin : ∀ (k : Str) (t : Int) (b : Bool), (b = true → ∃ h : 0 < l.length, (k, t) = l[0]) → (b = false → l = [] ∧ k = [] ∧ t = 0) → ((!(r1 == (decide (0 ≤ r2)))) = true → Q false m) ∧ ((!(r1 == (decide (0 ≤ r2)))) = false → (r1 = true → ((0 : Int) ≤ r2 ∧ r2 < (l.length : Int)) ∧ ((¬ (r0 = ((gi l r2).2)) → Q false m) ∧ (r0 = ((gi l r2).2) → ((!(b == (decide (0 < (l.length : Int))))) = true → Q false m) ∧ ((!(b == (decide (0 < (l.length : Int))))) = false → (b = true → ((0 : Int) ≤ 0 ∧ 0 < (l.length : Int)) ∧ ((¬ ((k : Str) = (gi l 0).1) → Q false m) ∧ ((k : Str) = (gi l 0).1 → (¬ (t = ((gi l 0).2)) → Q false m) ∧ (t = ((gi l 0).2) → law12_told_j1 l Q m)))) ∧ (b = false → (¬ ((k : Str) = []) → Q false m) ∧ ((k : Str) = [] → (¬ (t = 0) → Q false m) ∧ (t = 0 → law12_told_j1 l Q m))))))) ∧ (r1 = false → (¬ (r0 = 0) → Q false m) ∧ (r0 = 0 → ((!(b == (decide (0 < (l.length : Int))))) = true → Q false m) ∧ ((!(b == (decide (0 < (l.length : Int))))) = false → (b = true → ((0 : Int) ≤ 0 ∧ 0 < (l.length : Int)) ∧ ((¬ ((k : Str) = (gi l 0).1) → Q false m) ∧ ((k : Str) = (gi l 0).1 → (¬ (t = ((gi l 0).2)) → Q false m) ∧ (t = ((gi l 0).2) → law12_told_j1 l Q m)))) ∧ (b = false → (¬ ((k : Str) = []) → Q false m) ∧ ((k : Str) = [] → (¬ (t = 0) → Q false m) ∧ (t = 0 → law12_told_j1 l Q m))))))) := by
      intro k t b b1 b2
      have hb : b = decide (0 < (l.length : Int)) := by
        cases b with
        | true => obtain ⟨h0, _⟩ := b1 rfl; exact (decide_eq_true (by omega)).symm
        | false => rw [(b2 rfl).1]; rfl
      have last : ((!(b == (decide (0 < (l.length : Int))))) = true → Q false m) ∧ ((!(b == (decide (0 < (l.length : Int))))) = false → (b = true → ((0 : Int) ≤ 0 ∧ 0 < (l.length : Int)) ∧ ((¬ ((k : Str) = (gi l 0).1) → Q false m) ∧ ((k : Str) = (gi l 0).1 → (¬ (t = ((gi l 0).2)) → Q false m) ∧ (t = ((gi l 0).2) → law12_told_j1 l Q m)))) ∧ (b = false → (¬ ((k : Str) = []) → Q false m) ∧ ((k : Str) = [] → (¬ (t = 0) → Q false m) ∧ (t = 0 → law12_told_j1 l Q m)))) := by
        refine ⟨fun c => by rw [← hb] at c; simp at c, fun _ => ⟨fun c => ?_, fun c => ?_⟩⟩
        · obtain ⟨h0, e⟩ := b1 c
          have eg : gi l 0 = l[0] := gi_nat (i := 0) h0
          refine ⟨by omega, fun d => absurd (by rw [eg, ← e]) d, fun _ => ⟨fun d => absurd (by rw [eg, ← e]) d, fun _ => j1⟩⟩
        · obtain ⟨e1, e2, e3⟩ := b2 c
          exact ⟨fun d => absurd e2 d, fun _ => ⟨fun d => absurd e3 d, fun _ => j1⟩⟩
      have hr : r1 = decide (0 ≤ r2) := by
        cases r1 with
        | true => obtain ⟨i, rfl, _⟩ := a1 rfl; exact (decide_eq_true (by omega)).symm
        | false => rw [(a2 rfl).1]; rfl
      refine ⟨fun c => by rw [← hr] at c; simp at c, fun _ => ⟨fun c => ?_, fun c => ?_⟩⟩
      · obtain ⟨i, rfl, i1, e1, e2⟩ := a1 c
        refine ⟨by omega, fun d => absurd (by rw [gi_nat i1]; exact e2) d, fun _ => last⟩
      · exact ⟨fun d => absurd (a2 c).2 d, fun _ => last⟩
    refine next_ok R.nd (fun e => fin _ _ _ (fun c => (by cases c)) fun _ => ⟨by rw [e] at hlen; exact List.length_eq_zero_iff.1 hlen, rfl, rfl⟩) fun k t hkt hmin => fin _ _ _ (fun _ => ?_) fun c => by cases c
    have hkl : ((k, t) : En) ∈ l := R.pm.mem_iff.2 hkt
    have h0 : 0 < l.length := List.length_pos_of_mem hkl
    refine ⟨h0, ?_⟩
    have hn : ¬ El l[0] (k, t) := fun q => hmin _ (R.pm.mem_iff.1 (List.getElem_mem h0)) ((R.bl (List.getElem_mem h0) hkl).2 q)
    obtain ⟨j, hj, e⟩ := List.mem_iff_getElem.1 hkl
    by_cases j0 : j = 0
    · subst j0; exact e.symm
    · have := List.pairwise_iff_getElem.1 R.so 0 j h0 hj (by omega)
      rw [e] at this; exact absurd this hn
  refine find12_ok (by omega) (fun i hi e => tail _ _ _ (fun _ => ⟨i, rfl, hi, e, ?_⟩) fun c => ?_) fun hno => tail _ _ _ (fun c => ?_) fun c => ⟨rfl, ?_⟩
  · rw [← e]; exact R.get0 (List.getElem_mem hi)
  · rw [← e, R.get (List.getElem_mem hi)] at c; cases c
  · rw [R.none hno] at c; cases c
  · unfold mget0; rw [R.none hno]; rfl
theorem lives12_ok {Q : Bool → Prop} (h : Q true) : law12_lives_W Q := by
  obtain ⟨m, hm⟩ : ∃ m : CM, m = [([98], 5), ([97], 5), ([99], 4)] := ⟨_, rfl⟩
  have e1 : mset (mset (mset ([] : CM) [98] 5) [97] 5) [99] 4 = m := by rw [hm]; decide +kernel
  unfold law12_lives_W clock_New_string_W
  simp only [clock_Clock_Set_string_W]
  rw [e1]
  refine ⟨fun _ => Due_ok (by rw [hm]; decide) fun r hr hs => ?_, fun c => absurd (by rw [hm]; rfl) c⟩
  have d5 : dueK m 5 = [[98], [97], [99]] := by rw [hm]; decide +kernel
  have e2 : r = [[99], [97], [98]] := by
    refine keys_one (m := m) (hr.trans ?_) hs ?_
    · rw [d5]; decide +kernel
    · rw [hm]; decide +kernel
  subst e2
  refine same12_ok (by decide) ⟨fun _ => Due_ok (by rw [hm]; decide) fun r hr hs => ?_, fun c => (by cases c)⟩
  have d3 : dueK m 3 = [] := by rw [hm]; decide +kernel
  rw [d3] at hr
  rw [List.Perm.eq_nil hr]; exact h
theorem clockNil_ok {key : Str} {t : Int} {Q : Bool → Prop} (h : Q true) : law12_ClockNil_W key t Q := by
  refine ⟨fun _ => ⟨fun _ => ⟨fun _ => ⟨fun _ => ⟨fun _ => ⟨fun _ => ⟨fun _ => ?_, fun c => absurd rfl c⟩, fun c => (by cases c)⟩, fun c => absurd rfl c⟩, fun c => absurd rfl c⟩, fun c => (by cases c)⟩, fun c => (by cases c)⟩, fun c => (by cases c)⟩
  unfold clock_Clock_Pop_string_nil0_W clock_Clock_due_string_nil0_W
  refine ⟨fun _ => True, fun _ => 0, trivial, fun s _ => ?_⟩
  unfold clock_Clock_Pop_string_nil0_l1
  refine ⟨fun c => absurd c (by decide), fun _ => ?_⟩
  exact ⟨fun _ => ⟨fun _ => ⟨fun _ => ⟨fun _ => lives12_ok h, fun c => absurd rfl c⟩, fun c => absurd rfl c⟩, fun c => absurd rfl c⟩, fun c => absurd rfl c⟩
theorem clockPlays_ok {acts : List T_acequiaref12_Act} {ask : Str} {Q : Bool → Prop} (h : Q true) : law12_ClockPlays_W acts ask Q := by
  unfold law12_ClockPlays_W clock_New_string_W
  refine cutT_ok fun ask _ => ?_
  refine loop_by (fun s => s.2.2) acts.length (fun i s => Rk s.1 s.2.1 ∧ s.2.1.length ≤ i ∧ i ≤ 30 ∧ ∀ p ∈ s.2.1, p.1.length ≤ 10) rfl ⟨Rk.nil, by simp, by omega, by simp⟩ fun K i s hx hn hI hK => ?_
  obtain ⟨m, l, _⟩ := s
  simp only at hx; subst hx
  obtain ⟨R, hl, hi30, hk⟩ := hI
  simp only at R hl hk
  show law12_ClockPlays_l2 acts Q ask _ m l (i : Int)
  have j1 : ∀ b : Bool, (b = true → i < acts.length ∧ i < 30) → law12_ClockPlays_j1 acts Q ask m l (i : Int) (fun a b c => K (a, b, c)) b := by
    intro b hb
    refine ⟨fun c => ?_, fun c => lives12_ok h⟩
    obtain ⟨i1, i2⟩ := hb c
    refine ⟨by (first | omega | (unfold I64; omega) | (simp only [List.length_append, List.length_cons, List.length_nil, List.length_take, List.length_drop] at *; omega) | (unfold I64; simp only [List.length_append, List.length_cons, List.length_nil, List.length_take, List.length_drop] at *; omega)), cutT_ok fun key hkey => ?_⟩
    have j2 : ∀ (m' : CM) (l' : List En), Rk m' l' → l'.length ≤ i + 1 → (∀ p ∈ l', p.1.length ≤ 10) → law12_ClockPlays_j2 Q ask (i : Int) (fun a b c => K (a, b, c)) m' l' := by
      intro m' l' R' hl' hk'
      refine told_ok R' (by omega) hk' ⟨fun c => (by cases c), fun _ => ⟨by (first | omega | (unfold I64; omega) | (simp only [List.length_append, List.length_cons, List.length_nil, List.length_take, List.length_drop] at *; omega) | (unfold I64; simp only [List.length_append, List.length_cons, List.length_nil, List.length_take, List.length_drop] at *; omega)), hK (i + 1) _ (by simp) (by omega) (by omega) ⟨R', hl', by omega, hk'⟩⟩⟩
    have rest : ∀ r5 : Int, (mget m key).isSome = decide (0 ≤ r5) → ref12_Due_W l ((gi acts (i : Int)).2.2) (fun r_6 => (((gi acts (i : Int)).1) = 0 → clock_Clock_Set_string_W m key ((gi acts (i : Int)).2.2) (fun r_7 cm_1 => ((!(r_7 == (!decide (0 ≤ r5)))) = true → Q false) ∧ ((!(r_7 == (!decide (0 ≤ r5)))) = false → ref12_Set_W l key ((gi acts (i : Int)).2.2) (fun r_8 => law12_ClockPlays_j2 Q ask (i : Int) (fun a b c => K (a, b, c)) cm_1 r_8)))) ∧ (¬ (((gi acts (i : Int)).1) = 0) → (((gi acts (i : Int)).1) = 1 → clock_Clock_Cut_string_W m key (fun r_9 cm_2 => ((!(r_9 == (decide (0 ≤ r5)))) = true → Q false) ∧ ((!(r_9 == (decide (0 ≤ r5)))) = false → ref12_Cut_W l key (fun r_10 => law12_ClockPlays_j2 Q ask (i : Int) (fun a b c => K (a, b, c)) cm_2 r_10)))) ∧ (¬ (((gi acts (i : Int)).1) = 1) → (((gi acts (i : Int)).1) = 2 → ((0 : Int) ≤ r_6 ∧ r_6 ≤ (l.length : Int)) ∧ (clock_Clock_Pop_string_W m ((gi acts (i : Int)).2.2) (fun r_11 cm_3 => ref12_Keys_W (cut l 0 r_6) (fun r_12 => ref12_Same_W r_11 r_12 (fun r_13 => ((!r_13) = true → Q false) ∧ ((!r_13) = false → law12_ClockPlays_j2 Q ask (i : Int) (fun a b c => K (a, b, c)) cm_3 (cut l r_6 (l.length : Int)))))))) ∧ (¬ (((gi acts (i : Int)).1) = 2) → ((0 : Int) ≤ r_6 ∧ r_6 ≤ (l.length : Int)) ∧ (clock_Clock_Due_string_W m ((gi acts (i : Int)).2.2) (fun r_14 cm_4 => ref12_Keys_W (cut l 0 r_6) (fun r_15 => ref12_Same_W r_14 r_15 (fun r_16 => ((!r_16) = true → Q false) ∧ ((!r_16) = false → law12_ClockPlays_j2 Q ask (i : Int) (fun a b c => K (a, b, c)) cm_4 l))))))))) := by
      intro r5 e5
      refine due12_ok (by omega) fun n hn2 h1 h2 => ?_
      have hm : m.length ≤ 1000000 := by rw [← R.pm.length_eq]; omega
      refine ⟨fun _ => ⟨fun c => by rw [e5] at c; simp at c, fun _ => set12_ok (by omega) fun C j hC hj a b => j2 _ _ (R.set hC hj a b) ?_ ?_⟩, fun _ => ⟨fun _ => ⟨fun c => by rw [e5] at c; simp at c, fun _ => cut12_ok (by omega) (j2 _ _ (R.cut key) ?_ fun p hp => hk p (List.mem_filter.1 hp).1)⟩, fun _ => ⟨fun _ => ⟨by omega, pop_ok R.nd hm fun r hr hs => ?_⟩, fun _ => ⟨by omega, Due_ok hm fun r hr hs => ?_⟩⟩⟩⟩
      · have := List.length_filter_le (fun p : En => decide (p.1 ≠ key)) l
        rw [← hC] at this
        simp only [List.length_append, List.length_take, List.length_drop, List.length_cons, List.length_nil]; omega
      · intro p hp
        have hCk : ∀ p ∈ C, p.1.length ≤ 10 := fun p hp => by rw [hC] at hp; exact hk p (List.mem_filter.1 hp).1
        rw [List.mem_append, List.mem_append, List.mem_singleton] at hp
        rcases hp with (q | q) | q
        · exact hCk p (List.mem_of_mem_take q)
        · rw [q]; exact hkey
        · exact hCk p (List.mem_of_mem_drop q)
      · exact Nat.le_trans (List.length_filter_le _ _) (by omega)
      · rw [cut0n, cutn]
        refine keys12_ok (by rw [List.length_take]; omega) ?_
        rw [R.due hn2 h1 h2 hr hs]
        exact same12_ok (by simp; omega) ⟨fun c => (by cases c), fun _ => j2 _ _ (R.left hn2 h1 h2) (by rw [List.length_drop]; omega) fun p hp => hk p (List.mem_of_mem_drop hp)⟩
      · rw [cut0n]
        refine keys12_ok (by rw [List.length_take]; omega) ?_
        rw [R.due hn2 h1 h2 hr hs]
        exact same12_ok (by simp; omega) ⟨fun c => (by cases c), fun _ => j2 _ _ R (by omega) hk⟩
    refine find12_ok (by omega) (fun j hj e => rest _ ?_) fun hno => rest _ ?_
    · rw [← e, R.get (List.getElem_mem hj), decide_eq_true (by omega)]; rfl
    · rw [R.none hno]; rfl
  refine ⟨fun c => j1 _ fun d => ⟨by omega, by have := of_decide_eq_true d; omega⟩, fun c => j1 _ fun d => (by cases d)⟩
theorem clockCopies_ok {acts : List T_acequiaref12_Act} {key : Str} {t : Int} {Q : Bool → Prop} (h : Q true) : law12_ClockCopies_W acts key t Q := by
  unfold law12_ClockCopies_W clock_New_string_W
  refine cutT_ok fun key hkey => ?_
  refine loop_by (fun s => s.2.2) acts.length (fun i s => Rk s.1 s.2.1 ∧ s.2.1.length ≤ i ∧ i ≤ 10 ∧ ∀ p ∈ s.2.1, p.1.length ≤ 10) rfl ⟨Rk.nil, by simp, by omega, by simp⟩ fun K i s hx hn hI hK => ?_
  obtain ⟨m, l, _⟩ := s
  simp only at hx; subst hx
  obtain ⟨R, hl, hi30, hk⟩ := hI
  simp only at R hl hk
  show law12_ClockCopies_l2 acts t Q key _ m l (i : Int)
  have hset : ∀ (k : Str) (u : Int) (C : List En) (j : Nat), k.length ≤ 10 → (C = l.filter fun p => decide (p.1 ≠ k)) → j ≤ C.length → (C.take j ++ [(k, u)] ++ C.drop j).length ≤ i + 1 ∧ ∀ p ∈ C.take j ++ [(k, u)] ++ C.drop j, p.1.length ≤ 10 := by
    intro k u C j hk1 hC hj
    constructor
    · have := List.length_filter_le (fun p : En => decide (p.1 ≠ k)) l
      rw [← hC] at this
      simp only [List.length_append, List.length_take, List.length_drop, List.length_cons, List.length_nil]; omega
    · intro p hp
      have hCk : ∀ p ∈ C, p.1.length ≤ 10 := fun p hp => by rw [hC] at hp; exact hk p (List.mem_filter.1 hp).1
      rw [List.mem_append, List.mem_append, List.mem_singleton] at hp
      rcases hp with (q | q) | q
      · exact hCk p (List.mem_of_mem_take q)
      · rw [q]; exact hk1
      · exact hCk p (List.mem_of_mem_drop q)
  have hm : m.length ≤ 1000000 := by rw [← R.pm.length_eq]; omega
  have j1 : ∀ b : Bool, (b = true → i < acts.length ∧ i < 10) → law12_ClockCopies_j1 acts t Q key m l (i : Int) (fun a b c => K (a, b, c)) b := by
    intro b hb
    refine ⟨fun c => ?_, fun c => ?_⟩
    · obtain ⟨i1, i2⟩ := hb c
      refine ⟨by (first | omega | (unfold I64; omega) | (simp only [List.length_append, List.length_cons, List.length_nil, List.length_take, List.length_drop] at *; omega) | (unfold I64; simp only [List.length_append, List.length_cons, List.length_nil, List.length_take, List.length_drop] at *; omega)), cutT_ok fun k hk1 => set12_ok (by omega) fun C j hC hj a b => ⟨by (first | omega | (unfold I64; omega) | (simp only [List.length_append, List.length_cons, List.length_nil, List.length_take, List.length_drop] at *; omega) | (unfold I64; simp only [List.length_append, List.length_cons, List.length_nil, List.length_take, List.length_drop] at *; omega)), hK (i + 1) _ (by simp) (by omega) (by omega) ?_⟩⟩
      obtain ⟨z1, z2⟩ := hset k _ C j hk1 hC hj
      exact ⟨R.set hC hj a b, z1, by omega, z2⟩
    · -- the copy
      refine ⟨fun s => ∃ done, m.Perm (done ++ s.2) ∧ s.1 = done, fun s => s.2.length, ⟨[], List.Perm.refl _, rfl⟩, ?_⟩
      rintro ⟨dn, rem⟩ ⟨_, hp, rfl⟩
      simp only at hp ⊢
      show maps_Copy_map_string_int_map_string_int_string_int_l1 m _ _ dn rem
      unfold maps_Copy_map_string_int_map_string_int_string_int_l1
      refine ⟨fun e => ?_, fun p rem2 hq => ⟨⟨dn ++ [p], ?_, ?_⟩, ?_⟩⟩
      · subst e; rw [List.append_nil] at hp
        have Rc : Rk dn l := ⟨(hp.map Prod.fst).nodup_iff.1 R.nd, R.pm.trans hp, R.so⟩
        refine set12_ok (by omega) fun C j hC hj a b => pop_ok R.nd hm fun r hr hs => ?_
        obtain ⟨z1, z2⟩ := hset key t C j hkey hC hj
        refine told_ok (Rc.set hC hj a b) (by omega) z2 ⟨fun _ => due12_ok (by omega) fun n hn2 h1 h2 => ⟨by omega, by omega, ?_⟩, fun c => (by cases c)⟩
        rw [cutn]
        exact told_ok (R.left hn2 h1 h2) (by rw [List.length_drop]; omega) (fun p hp => hk p (List.mem_of_mem_drop hp)) ⟨fun _ => lives12_ok h, fun c => (by cases c)⟩
      · rw [List.append_assoc]; exact hp.trans (List.Perm.append_left dn hq)
      · show mset dn p.1 p.2 = dn ++ [p]
        refine mset_none ?_
        rw [mget_none]
        have hnd := (hp.map Prod.fst).nodup_iff.1 R.nd
        rw [List.map_append] at hnd
        have hpm : p.1 ∈ rem.map Prod.fst := List.mem_map.2 ⟨p, hq.mem_iff.2 (List.mem_cons_self ..), rfl⟩
        intro w
        exact (List.nodup_append.1 hnd).2.2 _ w _ hpm rfl
      · have := hq.length_eq; simp only [List.length_cons] at this; show rem2.length < rem.length; omega
  refine ⟨fun c => j1 _ fun d => ⟨by omega, by have := of_decide_eq_true d; omega⟩, fun c => j1 _ fun d => (by cases d)⟩
end Go.Wk
