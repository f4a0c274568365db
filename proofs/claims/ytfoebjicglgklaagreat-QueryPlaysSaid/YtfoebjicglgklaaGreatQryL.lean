/- Plain words: queries: each call of the program over what is left, in order. -/
import Derived.Test.YtfoebjicglgklaaGreatQryM
set_option linter.unusedSimpArgs false
set_option linter.unusedVariables false
set_option linter.unusedSectionVars false
namespace Go.Wk
open Go.HL
variable [DM]
variable {at_ : CM} {op : OM} {A : Qs}
theorem loop_bag2 {β σ : Type} {B : ((σ × List β) → Prop) → σ × List β → Prop} (m : List β) (I : List β → σ → Prop) {s0 : σ} (h0 : I [] s0)
    (hB : ∀ (K : (σ × List β) → Prop) (done rem : List β) (s : σ), m.Perm (done ++ rem) → I done s → (∀ (p : β) (rem' : List β) (s' : σ), rem.Perm (p :: rem') → I (done ++ [p]) s' → K (s', rem')) → B K (s, rem)) : loopW B (s0, m) := by
  refine ⟨fun q => ∃ done, m.Perm (done ++ q.2) ∧ I done q.1, fun q => q.2.length, ⟨[], List.Perm.refl _, h0⟩, ?_⟩
  rintro ⟨s, rem⟩ ⟨done, hp, hI⟩
  refine hB _ done rem s hp hI fun p rem' s' hq hI' => ⟨⟨done ++ [p], ?_, hI'⟩, ?_⟩
  · refine hp.trans ?_
    rw [List.append_assoc]
    exact List.Perm.append_left done hq
  · have := hq.length_eq; simp only [List.length_cons] at this; simp only; omega
theorem perm_pairs {m m' : SM} (hn : (m.map Prod.fst).Nodup) (hn' : (m'.map Prod.fst).Nodup) (h : ∀ p, p ∈ m ↔ p ∈ m') : m.Perm m' := by
  have nd : ∀ l : SM, (l.map Prod.fst).Nodup → l.Nodup := fun l q => List.Pairwise.of_map Prod.fst (fun a b r e => r (by rw [e])) q
  exact (List.perm_ext_iff_of_nodup (nd m hn) (nd m' hn')).2 h
def decL (l : SM) : SM := (l.map fun p => (p.1, p.2 - 1)).filter fun p => decide (0 < p.2)
theorem mem_decL {l : SM} {p : Ad × Int} : p ∈ decL l ↔ (p.1, p.2 + 1) ∈ l ∧ 0 < p.2 := by
  unfold decL
  simp only [List.mem_filter, List.mem_map, decide_eq_true_eq]
  constructor
  · rintro ⟨⟨q, hq, rfl⟩, h⟩
    refine ⟨?_, h⟩
    simpa using hq
  · rintro ⟨h, h0⟩
    exact ⟨⟨_, h, by simp⟩, h0⟩
theorem decL_keys (l : SM) : ((decL l).map Prod.fst).Sublist (l.map Prod.fst) := by
  unfold decL
  have h1 : ((l.map fun p => (p.1, p.2 - 1)).filter fun p => decide (0 < p.2)).Sublist (l.map fun p => (p.1, p.2 - 1)) := List.filter_sublist
  have h2 := h1.map Prod.fst
  rw [List.map_map] at h2; exact h2
theorem delFunc_ok {m : SM} {Q : SM → Prop} (hn : (m.map Prod.fst).Nodup) (h : ∀ m' : SM, (m'.map Prod.fst).Nodup → (∀ p, p ∈ m' ↔ p ∈ m ∧ 0 < p.2) → Q m') :
    maps_DeleteFunc_map_api_Addr_int_api_Addr_int_W m (fun _ n => decide (n ≤ 0)) Q := by
  refine loop_bag2 m (fun done a => (a.map Prod.fst).Nodup ∧ ∀ p, p ∈ a ↔ p ∈ m ∧ (p ∈ done → 0 < p.2)) ⟨hn, by simp⟩ ?_
  rintro K done rem s hp ⟨hs, hI⟩ hK
  show maps_DeleteFunc_map_api_Addr_int_api_Addr_int_l1 _ _ _ _ _
  unfold maps_DeleteFunc_map_api_Addr_int_api_Addr_int_l1
  refine ⟨fun e => h s hs fun p => ?_, fun p rem' hq => ⟨fun c => hK p rem' _ hq ⟨nodup_mdel hs _, fun q => ?_⟩, fun c => hK p rem' _ hq ⟨hs, fun q => ?_⟩⟩⟩
  · subst e
    rw [hI p]
    exact ⟨fun ⟨h1, h2⟩ => ⟨h1, h2 (by simpa using hp.mem_iff.1 h1)⟩, fun ⟨h1, h2⟩ => ⟨h1, fun _ => h2⟩⟩
  · have c : p.2 ≤ 0 := of_decide_eq_true c
    have hpm : p ∈ m := hp.mem_iff.2 (List.mem_append.2 (.inr (hq.mem_iff.2 (by simp))))
    have hu : q ∈ m → q.1 = p.1 → q = p := fun h1 h2 => by
      have e1 := (mem_iff_mget hn q.1 q.2).1 h1
      have e2 := (mem_iff_mget hn p.1 p.2).1 hpm
      rw [h2, e2] at e1
      exact Prod.ext h2 (Option.some.inj e1).symm
    rw [show q ∈ mdel s p.1 ↔ q ∈ s ∧ p.1 ≠ q.1 by unfold mdel; simp, hI q]
    constructor
    · rintro ⟨⟨h1, h2⟩, h3⟩
      refine ⟨h1, fun h4 => ?_⟩
      rcases List.mem_append.1 h4 with h4 | h4
      · exact h2 h4
      · rw [List.mem_singleton] at h4; rw [h4] at h3; exact absurd rfl h3
    · rintro ⟨h1, h2⟩
      refine ⟨⟨h1, fun h4 => h2 (List.mem_append.2 (.inl h4))⟩, fun e => ?_⟩
      have := hu h1 e.symm; subst this
      have := h2 (by simp); omega
  · have c : ¬ p.2 ≤ 0 := of_decide_eq_false c
    rw [hI q]
    refine and_congr_right fun h1 => ⟨fun h2 h4 => ?_, fun h2 h4 => h2 (List.mem_append.2 (.inl h4))⟩
    rcases List.mem_append.1 h4 with h4 | h4
    · exact h2 h4
    · rw [List.mem_singleton] at h4; subst h4; omega
theorem tell_ok {g0 : Ad} {t0 n : Int} {s l : SM} {Q : Int → SM → Prop} (hp : s.Perm l) (ho : OkO ⟨g0, t0, n, l⟩) (h : ∀ s' : SM, s'.Perm (decL l) → Q (max (n - 1) 0) s') : query_left_tell_W n s Q := by
  have hk := perm_keys hp ho.set
  have hv : ∀ p ∈ s, 1 ≤ p.2 ∧ p.2 ≤ 1000 := fun p hp' => ho.v p (hp.mem_iff.1 hp')
  have h0 := ho.n0
  have h1 := ho.n1
  simp only at h0 h1
  refine ⟨by (first | omega | (unfold I64; omega) | (simp only [List.length_append, List.length_cons, List.length_nil, List.length_take, List.length_drop] at *; omega) | (unfold I64; simp only [List.length_append, List.length_cons, List.length_nil, List.length_take, List.length_drop] at *; omega)), ?_⟩
  refine loop_bag2 s (fun done x => (x.map Prod.fst).Nodup ∧ (∀ p ∈ done, (p.1, p.2 - 1) ∈ x) ∧ (∀ p ∈ s, p.1 ∉ done.map Prod.fst → p ∈ x) ∧ ∀ p ∈ x, (p ∈ s ∧ p.1 ∉ done.map Prod.fst) ∨ ∃ q ∈ done, p = (q.1, q.2 - 1)) ⟨hk.1, by simp, fun p hp' _ => hp', fun p hp' => .inl ⟨hp', by simp⟩⟩ ?_
  rintro K done rem x hpm ⟨hx, hI1, hI2, hI3⟩ hK
  show query_left_tell_l1 _ _ _ _ _
  unfold query_left_tell_l1
  refine ⟨fun e => ⟨fun _ k => decide (k ≤ 0), fun _ _ => rfl, delFunc_ok hx fun m' hm' hmem => h m' ?_⟩, fun p rem' hq => ?_⟩
  · subst e
    have hall : ∀ p, p ∈ done ↔ p ∈ l := fun p => by rw [← hp.mem_iff, hpm.mem_iff]; simp
    refine perm_pairs hm' (ho.set.nodup.sublist (decL_keys l)) fun p => ?_
    rw [hmem, mem_decL]
    refine and_congr_left fun _ => ⟨fun h1 => ?_, fun h1 => ?_⟩
    · rcases hI3 p h1 with ⟨h2, h3⟩ | ⟨q, hq, rfl⟩
      · exact absurd (List.mem_map.2 ⟨p, (hall p).2 (hp.mem_iff.1 h2), rfl⟩) h3
      · simpa using (hall q).1 hq
    · have := hI1 _ ((hall _).2 h1)
      simpa using this
  · have hps : p ∈ s := hpm.mem_iff.2 (List.mem_append.2 (.inr (hq.mem_iff.2 (by simp))))
    have hnd : ((done ++ rem).map Prod.fst).Nodup := ((hpm.map Prod.fst).nodup_iff).1 hk.1
    have hpd : p.1 ∉ done.map Prod.fst := by
      rw [List.map_append, List.nodup_append] at hnd
      intro h2
      exact hnd.2.2 _ h2 _ (List.mem_map.2 ⟨p, hq.mem_iff.2 (by simp), rfl⟩) rfl
    have hpx := hI2 p hps hpd
    have hg : mget x p.1 = some p.2 := (mem_iff_mget hx p.1 p.2).1 hpx
    have hg0 : mget0 x p.1 = p.2 := by unfold mget0; rw [hg]; rfl
    rw [hg0]
    have hb := hv p hps
    have hmem : ∀ q, q ∈ mset x p.1 (p.2 - 1) ↔ q = (p.1, p.2 - 1) ∨ (q ∈ x ∧ q.1 ≠ p.1) := fun q => by
      have hn2 := nodup_mset hx p.1 (p.2 - 1)
      rw [show q ∈ mset x p.1 (p.2 - 1) ↔ mget (mset x p.1 (p.2 - 1)) q.1 = some q.2 from (mem_iff_mget hn2 q.1 q.2), mget_mset]
      by_cases e : q.1 = p.1
      · rw [if_pos e]
        refine ⟨fun h1 => .inl (Prod.ext e (Option.some.inj h1).symm), fun h1 => ?_⟩
        rcases h1 with rfl | ⟨_, h1⟩
        · rfl
        · exact absurd e h1
      · rw [if_neg e, ← mem_iff_mget hx q.1 q.2]
        refine ⟨fun h1 => .inr ⟨h1, e⟩, fun h1 => ?_⟩
        rcases h1 with rfl | ⟨h1, _⟩
        · exact absurd rfl e
        · exact h1
    refine ⟨by (first | omega | (unfold I64; omega) | (simp only [List.length_append, List.length_cons, List.length_nil, List.length_take, List.length_drop] at *; omega) | (unfold I64; simp only [List.length_append, List.length_cons, List.length_nil, List.length_take, List.length_drop] at *; omega)), hK p rem' _ hq ⟨nodup_mset hx _ _, fun q hq' => ?_, fun q hq' hqd => ?_, fun q hq' => ?_⟩⟩
    · rw [hmem]
      rcases List.mem_append.1 hq' with h2 | h2
      · refine .inr ⟨hI1 q h2, fun e => hpd ?_⟩
        have e : q.1 = p.1 := e
        rw [← e]; exact List.mem_map.2 ⟨q, h2, rfl⟩
      · rw [List.mem_singleton] at h2; subst h2; exact .inl rfl
    · rw [hmem]
      rw [List.map_append, List.mem_append, not_or] at hqd
      exact .inr ⟨hI2 q hq' hqd.1, fun e => hqd.2 (by simp [e])⟩
    · rw [hmem] at hq'
      rcases hq' with rfl | ⟨h2, h3⟩
      · exact .inr ⟨p, by simp, rfl⟩
      · rcases hI3 q h2 with ⟨h4, h5⟩ | ⟨r, hr, h4⟩
        · refine .inl ⟨h4, ?_⟩
          rw [List.map_append, List.mem_append, not_or]
          exact ⟨h5, by simpa using h3⟩
        · exact .inr ⟨r, by simp [hr], h4⟩
def Qs.settle (A : Qs) (now : Int) : Qs := { A with now := max A.now (min now 1000000000000) }
def Qs.gen (A : Qs) (t : T_api_Tune) : Bool × Qs :=
  match A.on with
  | none => (false, A)
  | some a => if a ≤ A.now then (true, { A with first := A.first - 1, on := some (A.now + if A.first - 1 ≤ 0 then t.2.1 else max (t.2.1.tdiv 4) 1) }) else (false, A)
def tellO (now last : Int) (o : Oq) : Oq := ⟨o.g, now + last, max (o.n - 1) 0, decL o.l⟩
def goneO (o : Oq) : Bool := decide (o.n = 0) && o.l.isEmpty
def stepO (now last : Int) (o : Oq) : List Oq := if now < o.t then [o] else if goneO (tellO now last o) = true then [] else [tellO now last o]
def tldO (o : Oq) : Ad × Bool × List Ad := (o.g, decide (0 < o.n), o.l.map Prod.fst)
def rdAsk (x : T_api_Asked) : Ad × Bool × List Ad := (x.1, x.2.1, x.2.2.2)
def Qs.due (A : Qs) (now : Int) (t : T_api_Tune) : Bool × List (Ad × Bool × List Ad) × Qs :=
  let B := (A.settle now).gen t
  (B.1, (B.2.L.filter fun o => decide (o.t ≤ B.2.now)).map tldO, { B.2 with L := B.2.L.flatMap (stepO B.2.now t.2.2.2.1) })
structure Bd (A : Qs) : Prop where
  n0 : 0 ≤ A.now
  n1 : A.now ≤ 1000000000000
  f0 : -1000 ≤ A.first
  f1 : A.first ≤ 1000
theorem generals_ok {t : T_api_Tune} {Q : Bool → Int → CM → Int → OM → Prop} (R : QR at_ op A) (hA : Bd A) (ht : 0 ≤ t.2.1 ∧ t.2.1 ≤ 1000000)
    (h : ∀ at', QR at' op (A.gen t).2 → Q (A.gen t).1 A.now at' (A.gen t).2.first op) : query_Queries_generals_W A.now at_ A.first op t Q := by
  obtain ⟨n0, n1, f0, f1⟩ := hA
  have hg := R.gen
  have hd : 0 ≤ t.2.1.tdiv 4 ∧ t.2.1.tdiv 4 ≤ 1000000 := by
    rw [Int.tdiv_eq_ediv_of_nonneg ht.1]; omega
  show clock_Clock_At_string_W _ _ _
  unfold clock_Clock_At_string_W
  rw [hg]
  cases ho : A.on with
  | none =>
    have e : A.gen t = (false, A) := by unfold Qs.gen; rw [ho]
    rw [e] at h
    exact ⟨fun _ => ⟨fun _ => h _ R, fun c => by cases c⟩, fun c => by simp at c⟩
  | some a =>
    have ha : mget0 at_ [] = a := by unfold mget0; rw [hg, ho]; rfl
    rw [ha]
    refine ⟨fun c => by simp at c, fun _ => ?_⟩
    unfold query_Queries_generals_j1
    by_cases c : A.now < a
    · have e : A.gen t = (false, A) := by unfold Qs.gen; rw [ho]; simp only; rw [if_neg (by omega)]
      rw [e] at h
      refine ⟨fun _ => h _ R, fun d => by simp [c] at d⟩
    · refine ⟨fun d => by simp [c] at d, fun _ => ⟨by (first | omega | (unfold I64; omega) | (simp only [List.length_append, List.length_cons, List.length_nil, List.length_take, List.length_drop] at *; omega) | (unfold I64; simp only [List.length_append, List.length_cons, List.length_nil, List.length_take, List.length_drop] at *; omega)), by (first | omega | (unfold I64; omega) | (simp only [List.length_append, List.length_cons, List.length_nil, List.length_take, List.length_drop] at *; omega) | (unfold I64; simp only [List.length_append, List.length_cons, List.length_nil, List.length_take, List.length_drop] at *; omega)), fun d => ?_, fun d => ?_⟩⟩
      · have e : A.gen t = (true, { A with first := A.first - 1, on := some (A.now + t.2.1) }) := by unfold Qs.gen; rw [ho]; simp only; rw [if_pos (by omega), if_pos d]
        rw [e] at h
        exact ⟨by (first | omega | (unfold I64; omega) | (simp only [List.length_append, List.length_cons, List.length_nil, List.length_take, List.length_drop] at *; omega) | (unfold I64; simp only [List.length_append, List.length_cons, List.length_nil, List.length_take, List.length_drop] at *; omega)), h _ (R.genset.frame rfl rfl)⟩
      · have e : A.gen t = (true, { A with first := A.first - 1, on := some (A.now + max (t.2.1.tdiv 4) 1) }) := by unfold Qs.gen; rw [ho]; simp only; rw [if_pos (by omega), if_neg d]
        rw [e] at h
        exact ⟨by (first | omega | (unfold I64; omega) | (simp only [List.length_append, List.length_cons, List.length_nil, List.length_take, List.length_drop] at *; omega) | (unfold I64; simp only [List.length_append, List.length_cons, List.length_nil, List.length_take, List.length_drop] at *; omega)), h _ (R.genset.frame rfl rfl)⟩
theorem gen_same (A : Qs) (t : T_api_Tune) : (A.gen t).2.L = A.L ∧ (A.gen t).2.now = A.now ∧ A.first - 1 ≤ (A.gen t).2.first ∧ (A.gen t).2.first ≤ A.first := by
  unfold Qs.gen
  cases A.on with
  | none => exact ⟨rfl, rfl, by simp only; omega, by simp only; omega⟩
  | some a =>
    simp only
    split
    · exact ⟨rfl, rfl, by simp only; omega, by simp only; omega⟩
    · exact ⟨rfl, rfl, by simp only; omega, by simp only; omega⟩
theorem OkO.tell {o : Oq} (h : OkO o) (now last : Int) : OkO (tellO now last o) := by
  obtain ⟨a, b, c, d, e⟩ := h
  refine ⟨a.less (decL_keys _), ?_, ?_, ?_, ?_⟩
  · have := (decL_keys o.l).length_le; simp only [List.length_map] at this; unfold tellO; simp only; omega
  · unfold tellO; simp only; omega
  · unfold tellO; simp only; omega
  · intro p hp
    have hp : p ∈ decL o.l := hp
    rw [mem_decL] at hp
    have := e _ hp.1; simp only at this; omega
theorem step_sub {pre : List Oq} {now last : Int} : (gs (pre.flatMap (stepO now last))).Sublist (gs pre) := by
  induction pre with
  | nil => exact List.Sublist.refl _
  | cons o r ih =>
    rw [List.flatMap_cons, gs_app, gs_cons]
    have : (gs (stepO now last o)).Sublist [o.g] := by
      unfold stepO; split
      · exact List.Sublist.refl _
      · split
        · exact List.nil_sublist _
        · exact List.Sublist.refl _
    exact this.append ih
theorem step_len {pre : List Oq} {now last : Int} : (pre.flatMap (stepO now last)).length ≤ pre.length := by
  have := (step_sub (pre := pre) (now := now) (last := last)).length_le
  simpa [gs] using this
theorem due_ok {now : Int} {t : T_api_Tune} {Q : Bool → List T_api_Asked → Int → CM → Int → OM → Prop} (R : QR at_ op A) (hA : Bd A) (ht : 0 ≤ t.2.1 ∧ t.2.1 ≤ 1000000) (ht2 : 0 ≤ t.2.2.2.1 ∧ t.2.2.2.1 ≤ 1000000)
    (h : ∀ out at' op', out.map rdAsk = (A.due now t).2.1 → QR at' op' (A.due now t).2.2 → Q (A.due now t).1 out (A.due now t).2.2.now at' (A.due now t).2.2.first op') : query_Queries_Due_W A.now at_ A.first op now t Q := by
  have hS : Bd (A.settle now) := by
    obtain ⟨a, b, c, d⟩ := hA
    exact ⟨by unfold Qs.settle; simp only; omega, by unfold Qs.settle; simp only; omega, c, d⟩
  have hn0 := hS.n0
  have hn1 := hS.n1
  show query_Queries_generals_W (A.settle now).now at_ (A.settle now).first op t _
  refine generals_ok (R.frame rfl rfl) hS ht fun at1 R1 => ?_
  obtain ⟨e1, e2, _, _⟩ := gen_same (A.settle now) t
  unfold Qs.due at h
  simp only at h
  generalize hB : (A.settle now).gen t = B at R1 e1 e2 h ⊢
  obtain ⟨b, B⟩ := B
  simp only at R1 e1 e2 h ⊢
  rw [← e2] at hn0 hn1
  refine groups_ok R1 ?_
  have h64 := R1.len
  have hset := R1.set
  have hrnow : max A.now (min now 1000000000000) = B.now := by rw [e2]; rfl
  rw [← e2, hrnow]
  have hgl : ((gs B.L).length : Int) = B.L.length := by unfold gs; simp
  refine loop_by (fun s => s.2.2.2.2.2) B.L.length (fun i s => s.1 = B.now ∧ s.2.2.1 = B.first ∧ QR s.2.1 s.2.2.2.1 { B with L := (B.L.take i).flatMap (stepO B.now t.2.2.2.1) ++ B.L.drop i } ∧ s.2.2.2.2.1.map rdAsk = ((B.L.take i).filter fun o => decide (o.t ≤ B.now)).map tldO) rfl ⟨rfl, rfl, by simpa using R1, rfl⟩ ?_
  rintro K i ⟨nw, at2, fs, op2, out, _⟩ rfl hi ⟨rfl, rfl, R2, ho⟩ hK
  simp only at R2 ho
  show query_Queries_Due_l1 _ _ _ _ _ _ B.now at2 B.first op2 out (i : Int)
  unfold query_Queries_Due_l1
  rw [hgl]
  have holen : out.length ≤ i := by
    have := congrArg List.length ho
    simp only [List.length_map] at this
    rw [this]
    exact Nat.le_trans (List.length_filter_le _ _) (by rw [List.length_take]; omega)
  refine ⟨fun c => ?_, fun c => ?_⟩
  · have hil : i < B.L.length := by omega
    have hgi : gi (gs B.L) (i : Int) = B.L[i].g := by rw [gi_nat (by unfold gs; simpa using hil)]; unfold gs; simp
    rw [hgi]
    have hdrop : B.L.drop i = B.L[i] :: B.L.drop (i + 1) := List.drop_eq_getElem_cons hil
    have htake : B.L.take (i + 1) = B.L.take i ++ [B.L[i]] := List.take_succ_eq_append_getElem hil
    generalize ho' : B.L[i] = o at *
    rw [hdrop] at R2
    have hmem : o ∈ (B.L.take i).flatMap (stepO B.now t.2.2.2.1) ++ o :: B.L.drop (i + 1) := by simp
    have hat := R2.atg o hmem
    refine ⟨by (first | omega | (unfold I64; omega) | (simp only [List.length_append, List.length_cons, List.length_nil, List.length_take, List.length_drop] at *; omega) | (unfold I64; simp only [List.length_append, List.length_cons, List.length_nil, List.length_take, List.length_drop] at *; omega)), key_ok ?_⟩
    show clock_Clock_At_string_W _ _ _
    unfold clock_Clock_At_string_W
    have hat0 : mget0 at2 (bOf o.g) = o.t := by unfold mget0; rw [hat]; rfl
    rw [hat, hat0]
    refine ⟨fun d => by simp at d, fun _ => ?_⟩
    have hskip : B.now < o.t → QR at2 op2 { B with L := (B.L.take (i + 1)).flatMap (stepO B.now t.2.2.2.1) ++ B.L.drop (i + 1) } ∧ out.map rdAsk = ((B.L.take (i + 1)).filter fun o => decide (o.t ≤ B.now)).map tldO := fun d => by
      rw [htake]
      refine ⟨?_, ?_⟩
      · have : stepO B.now t.2.2.2.1 o = [o] := by unfold stepO; rw [if_pos d]
        rw [List.flatMap_append, List.flatMap_cons, this]
        simpa using R2
      · rw [List.filter_append, ho]
        have : ([o].filter fun o => decide (o.t ≤ B.now)) = [] := by simp; omega
        rw [this]; simp
    unfold query_Queries_Due_j1
    refine ⟨fun d => ⟨by (first | omega | (unfold I64; omega) | (simp only [List.length_append, List.length_cons, List.length_nil, List.length_take, List.length_drop] at *; omega) | (unfold I64; simp only [List.length_append, List.length_cons, List.length_nil, List.length_take, List.length_drop] at *; omega)), hK (i + 1) _ rfl (by omega) (by omega) ⟨rfl, rfl, hskip (of_decide_eq_true d)⟩⟩, fun d => ?_⟩
    have hdue : ¬ B.now < o.t := of_decide_eq_false d
    obtain ⟨j, s, hgo, hps⟩ := R2.opg o hmem
    have hok := R2.lst o hmem
    have hg0 : mget0 op2 o.g = (j, (o.n, s)) := by unfold mget0; rw [hgo]; rfl
    rw [hgi, hgo, hg0]
    refine ⟨fun _ => ?_, fun q => by simp at q⟩
    refine asked_ok hps hok.set hok.len fun v => ⟨by simp; omega, by (first | omega | (unfold I64; omega) | (simp only [List.length_append, List.length_cons, List.length_nil, List.length_take, List.length_drop] at *; omega) | (unfold I64; simp only [List.length_append, List.length_cons, List.length_nil, List.length_take, List.length_drop] at *; omega)), key_ok ?_⟩
    show clock_Clock_Set_string_W _ _ _ _
    unfold clock_Clock_Set_string_W
    refine tell_ok (g0 := o.g) (t0 := o.t) hps hok fun s' hs' => ?_
    have hlen2 : ((B.L.take i).flatMap (stepO B.now t.2.2.2.1) ++ tellO B.now t.2.2.2.1 o :: B.L.drop (i + 1)).length ≤ 64 := by
      have h1 := R2.len
      simp only [List.length_append, List.length_cons] at h1 ⊢; exact h1
    have R3 : QR (mset at2 (bOf o.g) (B.now + t.2.2.2.1)) (mset op2 o.g (j, (max (o.n - 1) 0, s'))) { B with L := (B.L.take i).flatMap (stepO B.now t.2.2.2.1) ++ tellO B.now t.2.2.2.1 o :: B.L.drop (i + 1) } := by
      have := QR.put (A := B) (pre := (B.L.take i).flatMap (stepO B.now t.2.2.2.1)) (post := B.L.drop (i + 1)) (mid := [o]) (o := tellO B.now t.2.2.2.1 o) (i := j) (s := s') (op' := mset op2 o.g (j, (max (o.n - 1) 0, s')))
        (by simpa using R2) (by intro p hp; rw [List.mem_singleton] at hp; subst hp; rfl) (by have := R2.set; rw [gs_app, gs_cons] at this ⊢; exact this) (nodup_mset R2.opn _ _) (fun k => by rw [mget_mset]; rfl) hs' (hok.tell _ _) hlen2
      exact this
    have hout : (out ++ ([((o.g.1, o.g.2), decide (0 < o.n), (v, o.l.map Prod.fst))] : List T_api_Asked)).map rdAsk = ((B.L.take (i + 1)).filter fun o => decide (o.t ≤ B.now)).map tldO := by
      rw [htake, List.filter_append, List.map_append, List.map_append, ho]
      have : ([o].filter fun o => decide (o.t ≤ B.now)) = [o] := by simp; omega
      rw [this]; rfl
    have hslen : s'.length = (decL o.l).length := hs'.length_eq
    have hstay : goneO (tellO B.now t.2.2.2.1 o) = false → ∀ j' : Nat, j' = i + 1 → QR (mset at2 (bOf o.g) (B.now + t.2.2.2.1)) (mset op2 o.g (j, (max (o.n - 1) 0, s'))) { B with L := (B.L.take j').flatMap (stepO B.now t.2.2.2.1) ++ B.L.drop j' } := fun q j' e => by
      subst e
      rw [htake, List.flatMap_append, List.flatMap_cons]
      have : stepO B.now t.2.2.2.1 o = [tellO B.now t.2.2.2.1 o] := by unfold stepO; rw [if_neg hdue, if_neg (by rw [q]; decide)]
      rw [this]; simpa using R3
    have hstay2 : goneO (tellO B.now t.2.2.2.1 o) = true → QR (mdel (mset at2 (bOf o.g) (B.now + t.2.2.2.1)) (bOf o.g)) (mdel (mset op2 o.g (j, (max (o.n - 1) 0, s'))) o.g) { B with L := (B.L.take (i + 1)).flatMap (stepO B.now t.2.2.2.1) ++ B.L.drop (i + 1) } := fun q => by
      have R4 : QR (mdel (mset at2 (bOf o.g) (B.now + t.2.2.2.1)) (bOf o.g)) (mdel (mset op2 o.g (j, (max (o.n - 1) 0, s'))) o.g) { B with L := (B.L.take i).flatMap (stepO B.now t.2.2.2.1) ++ B.L.drop (i + 1) } := QR.del (A := B) (o := tellO B.now t.2.2.2.1 o) R3
      rw [htake, List.flatMap_append, List.flatMap_cons]
      have : stepO B.now t.2.2.2.1 o = [] := by unfold stepO; rw [if_neg hdue, if_pos q]
      rw [this]; simpa using R4
    have hgone : goneO (tellO B.now t.2.2.2.1 o) = (decide (max (o.n - 1) 0 = 0) && decide ((s'.length : Int) = 0)) := by
      unfold goneO tellO; simp only
      rw [hslen]
      cases decL o.l with
      | nil => rfl
      | cons a r =>
        have : ¬ (((a :: r).length : Int) = 0) := by simp only [List.length_cons]; omega
        rw [decide_eq_false this]; rfl
    have jm : ∀ b, b = goneO (tellO B.now t.2.2.2.1 o) → query_Queries_Due_j2 (gs B.L) B.now B.first out (i : Int) (fun q_0_2 q_1_0_2 q_2_2 q_3_2 out_1 n_1 => K (q_0_2, q_1_0_2, q_2_2, q_3_2, out_1, n_1)) o.g.1 o.g.2 (decide (0 < o.n)) (o.l.map Prod.fst) v (mset at2 (bOf o.g) (B.now + t.2.2.2.1)) (mset op2 o.g (j, (max (o.n - 1) 0, s'))) b := by
      intro b hb
      unfold query_Queries_Due_j2
      refine ⟨fun q => ?_, fun q => ⟨by (first | omega | (unfold I64; omega) | (simp only [List.length_append, List.length_cons, List.length_nil, List.length_take, List.length_drop] at *; omega) | (unfold I64; simp only [List.length_append, List.length_cons, List.length_nil, List.length_take, List.length_drop] at *; omega)), hK (i + 1) _ rfl (by omega) (by omega) ⟨rfl, rfl, hstay (by rw [← hb]; exact q) _ rfl, hout⟩⟩⟩
      rw [hgi]
      unfold query_Queries_cancel_W
      rw [mget_mset, if_pos rfl]
      refine ⟨fun _ => key_ok ?_, fun c => by simp at c⟩
      exact ⟨by (first | omega | (unfold I64; omega) | (simp only [List.length_append, List.length_cons, List.length_nil, List.length_take, List.length_drop] at *; omega) | (unfold I64; simp only [List.length_append, List.length_cons, List.length_nil, List.length_take, List.length_drop] at *; omega)), hK (i + 1) _ rfl (by omega) (by omega) ⟨rfl, rfl, hstay2 (by rw [← hb]; exact q), hout⟩⟩
    refine ⟨fun q => jm _ ?_, fun q => jm _ ?_⟩
    · rw [hgone, decide_eq_true q, Bool.true_and]
    · rw [hgone, decide_eq_false q, Bool.false_and]
  · have hil : i = B.L.length := by omega
    subst hil
    rw [List.take_length] at R2 ho
    rw [List.drop_length, List.append_nil] at R2
    exact h out at2 op2 ho R2
end Go.Wk
