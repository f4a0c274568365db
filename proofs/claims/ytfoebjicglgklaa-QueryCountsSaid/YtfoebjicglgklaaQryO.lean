/- Plain words: QueryFull, QueryCounts. -/
import Derived.Test.YtfoebjicglgklaaQryN
set_option linter.unusedSimpArgs false
set_option linter.unusedVariables false
set_option linter.unusedSectionVars false
namespace Go.Wk
open Go.HL
variable [DM]
variable {at_ : CM} {op : OM} {A : Qs}
theorem u8b {n : Int} (h : IntKind.u8.min ≤ n ∧ n ≤ IntKind.u8.max) : 0 ≤ n ∧ n ≤ 255 := h
/-! ### Addresses by numbers -/
def fourA (f n : Int) : Ad := (false, mkB 16 [f, 1, 1, n, 0, 0, 0, 0, 0, 0, 0, 0, 0, 0, 0, 0])
theorem u8wrap {n : Int} (h : 0 ≤ n ∧ n < 256) : IntKind.u8.wrap n = n := by
  rw [IntKind.wrap_u8]; omega
theorem four22_ok {f n : Int} {Q : Ad → Prop} (hf : 0 ≤ f ∧ f < 256) (hn : 0 ≤ n ∧ n < 256) (h : Q (fourA f n)) : law22_four_W f n Q := by
  unfold law22_four_W
  rw [u8wrap hf, u8wrap hn]
  exact ⟨hn, hf, h⟩
theorem fourA_good (f n : Int) : aGood (fourA f n) = true := by
  unfold aGood fourA; simp only [Bool.false_or, decide_eq_true_eq]; rfl
theorem fourA_grp (n : Int) : aGrp (fourA 239 n) = true := by
  unfold aGrp fourA
  simp only [Bool.false_eq_true, if_false, decide_eq_true_eq]
  have : b8 (mkB 16 [239, 1, 1, n, 0, 0, 0, 0, 0, 0, 0, 0, 0, 0, 0, 0]) 0 = 239 := rfl
  rw [this]; decide
theorem fourA_inj {f m n : Int} (hm : 0 ≤ m ∧ m < 256) (hn : 0 ≤ n ∧ n < 256) (h : fourA f m = fourA f n) : m = n := by
  have h3 := congrArg (fun a : Ad => b8 a.2 3) h
  have e : ∀ z : Int, 0 ≤ z ∧ z < 256 → b8 (fourA f z).2 3 = z := fun z hz => by
    show ((UInt8.ofNat z.toNat).toNat : Int) = z
    rw [UInt8.toNat_ofNat']
    have : z.toNat % 2 ^ 8 = z.toNat := Nat.mod_eq_of_lt (by omega)
    rw [this]; omega
  simp only [e m hm, e n hn] at h3
  exact h3
/-! ### How many sources there is room for -/
theorem setS_sub {c : Int} {l : SM} {a x : Ad} (h : x ∈ (setS c l a).map Prod.fst) : x = a ∨ x ∈ l.map Prod.fst := by
  unfold setS at h
  split at h
  · obtain ⟨p, hp, rfl⟩ := List.mem_map.1 h
    obtain ⟨q, hq, rfl⟩ := List.mem_map.1 hp
    split
    · exact .inl rfl
    · exact .inr (List.mem_map.2 ⟨q, hq, rfl⟩)
  · split at h
    · exact .inr h
    · obtain ⟨p, hp, rfl⟩ := List.mem_map.1 h
      rcases mem_mid.1 hp with rfl | hp
      · exact .inl rfl
      · rw [List.takeWhile_append_dropWhile] at hp; exact .inr (List.mem_map.2 ⟨p, hp, rfl⟩)
theorem setS_len {c : Int} {l : SM} {a : Ad} (h : a ∉ l.map Prod.fst) : (setS c l a).length = if 64 ≤ l.length then l.length else l.length + 1 := by
  unfold setS
  rw [if_neg h]
  split
  · rfl
  · rw [List.length_append, List.length_cons, ← Nat.add_assoc, ← List.length_append, List.takeWhile_append_dropWhile]
theorem fold_len {c : Int} : ∀ (ks : List Ad) (l : SM), ks.Nodup → (∀ a ∈ ks, a ∉ l.map Prod.fst) → l.length ≤ 64 → (ks.foldl (setS c) l).length = min (l.length + ks.length) 64
  | [], l, _, _, h => by simp; omega
  | a :: ks, l, hn, hd, h => by
    rw [List.nodup_cons] at hn
    have h1 := setS_len (c := c) (hd a (by simp))
    have h2 : (setS c l a).length ≤ 64 := by rw [h1]; split <;> omega
    rw [List.foldl_cons, fold_len ks _ hn.2 (fun b hb q => ?_) h2, h1, List.length_cons]
    · split <;> omega
    · rcases setS_sub q with e | e
      · subst e; exact hn.1 hb
      · exact hd b (by simp [hb]) e
/-! ### QueryFull -/
theorem tmod70 {n : Int} (h : 0 ≤ n ∧ n ≤ 255) : 0 ≤ n.tmod 70 ∧ n.tmod 70 < 70 := by
  rw [Int.tmod_eq_emod_of_nonneg h.1]; omega
theorem want_new {A : Qs} {now cnt : Int} {g : Ad} {all : Bool} {src : List Ad} (h1 : aGood g = true) (h2 : aGrp g = true) (h3 : all = true ∨ ofL src ≠ []) (hno : g ∉ gs A.L) :
    A.want now cnt g all src = if 64 ≤ A.L.length then (false, A.settle now) else (true, { A.settle now with L := insO A.L (wantO all cnt (A.settle now).now (ofL src) ⟨g, 0, 0, []⟩) }) := by
  unfold Qs.want; simp only
  rw [if_pos ⟨h1, h2, h3⟩, if_neg (show g ∉ gs (A.settle now).L from hno)]; rfl
def UT : T_api_Tune := (2, 12, 2, 2, 2)
theorem queryFull_ok {n k : Int} {Q : Bool → Prop} (hn : 0 ≤ n ∧ n ≤ 255) (hk : 0 ≤ k ∧ k ≤ 255) (h : Q true) : law22_QueryFull_W n k Q := by
  have hm := tmod70 hn
  have hc := tmod70 hk
  unfold law22_QueryFull_W
  refine ⟨by (first | omega | (unfold I64; omega) | (simp only [List.length_append, List.length_cons, List.length_nil, List.length_take, List.length_drop] at *; omega) | (unfold I64; simp only [List.length_append, List.length_cons, List.length_nil, List.length_take, List.length_drop] at *; omega)), by (first | omega | (unfold I64; omega) | (simp only [List.length_append, List.length_cons, List.length_nil, List.length_take, List.length_drop] at *; omega) | (unfold I64; simp only [List.length_append, List.length_cons, List.length_nil, List.length_take, List.length_drop] at *; omega)), ?_⟩
  have h2 : (1 : Int) ≤ UT.2.2.2.2 ∧ UT.2.2.2.2 ≤ 1000 := by decide
  obtain ⟨M, hM⟩ : ∃ M : Nat, (M : Int) = n.tmod 70 := ⟨(n.tmod 70).toNat, by omega⟩
  obtain ⟨C, hC⟩ : ∃ C : Nat, (C : Int) = k.tmod 70 := ⟨(k.tmod 70).toNat, by omega⟩
  refine loop_by (fun s => s.2.2.2.2) M (fun i s => ∃ A : Qs, QR s.2.1 s.2.2.2.1 A ∧ s.1 = A.now ∧ s.2.2.1 = A.first ∧ A.L.length = min i 64 ∧ ∀ g ∈ gs A.L, ∃ j : Nat, j < i ∧ g = fourA 239 j) rfl ⟨Q0, Q0_ok, rfl, rfl, rfl, by intro g hg; cases hg⟩ ?_
  rintro K i ⟨nw, at1, fs, op1, _⟩ rfl hi ⟨A, R, e1, e2, hl, hg⟩ hK
  have e1 : nw = A.now := e1
  have e2 : fs = A.first := e2
  subst e1; subst e2
  simp only at R
  show law22_QueryFull_l1 n k Q _ A.now at1 A.first op1 (i : Int)
  unfold law22_QueryFull_l1
  rw [← hM]
  refine ⟨fun c => ?_, fun c => ?_⟩
  · unfold law18_Usual_W
    refine four22_ok (f := 239) (n := (i : Int)) (by decide) (by omega) ?_
    have hno : fourA 239 i ∉ gs A.L := fun q => by
      obtain ⟨j, hj, e⟩ := hg _ q
      have := fourA_inj (by omega) (by omega) e; omega
    have hw : A.want 0 2 (fourA 239 i) true [] = if 64 ≤ A.L.length then (false, A.settle 0) else (true, { A.settle 0 with L := insO A.L (wantO true 2 (A.settle 0).now (ofL []) ⟨fourA 239 i, 0, 0, []⟩) }) := by
      exact want_new (fourA_good _ _) (fourA_grp _) (.inl rfl) hno
    refine want_ok (t := UT) R h2 (by simp) fun at2 op2 R2 => ?_
    have hw : A.want 0 UT.2.2.2.2 (fourA 239 i) true [] = if 64 ≤ A.L.length then (false, A.settle 0) else (true, { A.settle 0 with L := insO A.L (wantO true 2 (A.settle 0).now (ofL []) ⟨fourA 239 i, 0, 0, []⟩) }) := hw
    rw [hw] at R2 ⊢
    by_cases hf : 64 ≤ A.L.length
    · rw [if_pos hf] at R2 ⊢
      have : decide ((i : Int) < 64) = false := decide_eq_false (by omega)
      rw [this]
      refine ⟨fun d => by simp at d, fun _ => ⟨by (first | omega | (unfold I64; omega) | (simp only [List.length_append, List.length_cons, List.length_nil, List.length_take, List.length_drop] at *; omega) | (unfold I64; simp only [List.length_append, List.length_cons, List.length_nil, List.length_take, List.length_drop] at *; omega)), hK (i + 1) _ rfl (by omega) (by omega) ⟨A.settle 0, R2, rfl, rfl, ?_, ?_⟩⟩⟩
      · show A.L.length = _; omega
      · intro g hg'; obtain ⟨j, hj, e⟩ := hg g hg'; exact ⟨j, by omega, e⟩
    · rw [if_neg hf] at R2 ⊢
      have : decide ((i : Int) < 64) = true := decide_eq_true (by omega)
      rw [this]
      refine ⟨fun d => by simp at d, fun _ => ⟨by (first | omega | (unfold I64; omega) | (simp only [List.length_append, List.length_cons, List.length_nil, List.length_take, List.length_drop] at *; omega) | (unfold I64; simp only [List.length_append, List.length_cons, List.length_nil, List.length_take, List.length_drop] at *; omega)), hK (i + 1) _ rfl (by omega) (by omega) ⟨_, R2, rfl, rfl, ?_, ?_⟩⟩⟩
      · show (insO A.L _).length = _
        rw [insO_len]; omega
      · intro g hg'
        have hg' : g ∈ gs (insO A.L (wantO true 2 (A.settle 0).now (ofL []) ⟨fourA 239 i, 0, 0, []⟩)) := hg'
        rw [insO_gs _ _ hno (fourA_good _ _), mem_ins] at hg'
        rcases hg' with hg' | ⟨rfl, _⟩
        · obtain ⟨j, hj, e⟩ := hg g hg'; exact ⟨j, by omega, e⟩
        · exact ⟨i, by omega, rfl⟩
  · have hiM : i = M := by omega
    subst hiM
    refine loop_up C (fun j l => l.length = j ∧ l.Nodup ∧ ∀ a ∈ l, ∃ q : Nat, q < j ∧ a = fourA 10 q) ⟨rfl, List.nodup_nil, by intro a ha; cases ha⟩ ?_
    rintro K2 j l hj ⟨hjl, hnd, hjm⟩ hK2
    show law22_QueryFull_l3 n k Q A.now at1 A.first op1 _ l (j : Int)
    unfold law22_QueryFull_l3
    rw [← hC]
    refine ⟨fun d => ?_, fun d => ?_⟩
    · refine four22_ok (f := 10) (n := (j : Int)) (by decide) (by omega) ⟨by simp; omega, by (first | omega | (unfold I64; omega) | (simp only [List.length_append, List.length_cons, List.length_nil, List.length_take, List.length_drop] at *; omega) | (unfold I64; simp only [List.length_append, List.length_cons, List.length_nil, List.length_take, List.length_drop] at *; omega)), hK2 (j + 1) _ (by omega) (by omega) ⟨by simp [hjl], ?_, ?_⟩⟩
      · rw [List.nodup_append]
        refine ⟨hnd, by simp, ?_⟩
        intro a ha b hb e
        rw [List.mem_singleton] at hb; subst hb; subst e
        obtain ⟨q, hq, e⟩ := hjm _ ha
        have := fourA_inj (by omega) (by omega) e; omega
      · intro a ha
        rcases List.mem_append.1 ha with ha | ha
        · obtain ⟨q, hq, e⟩ := hjm a ha; exact ⟨q, by omega, e⟩
        · rw [List.mem_singleton] at ha; exact ⟨j, by omega, ha⟩
    · have hjC : j = C := by omega
      subst hjC
      unfold query_New_W clock_New_string_W law18_Usual_W
      refine four22_ok (f := 239) (n := 1) (by decide) (by decide) ?_
      have hgl : ∀ a ∈ l, aGood a = true := fun a ha => by obtain ⟨q, _, rfl⟩ := hjm a ha; exact fourA_good _ _
      have hof : (ofL l).length = l.length := by
        have hp : (ofL l).Perm l := (List.perm_ext_iff_of_nodup (ofL_set l).nodup hnd).2 fun x => by rw [mem_ofL]; exact ⟨fun q => q.1, fun q => ⟨q, hgl x q⟩⟩
        exact hp.length_eq
      have hw : Q0.want 0 UT.2.2.2.2 (fourA 239 1) true l = (true, { Q0 with L := [wantO true 2 0 (ofL l) ⟨fourA 239 1, 0, 0, []⟩] }) := by
        rw [want_new (A := Q0) (fourA_good _ _) (fourA_grp _) (.inl rfl) (by intro q; cases q), if_neg (by decide)]; rfl
      refine want_ok (t := UT) (A := Q0) Q0_ok h2 (by omega) fun at2 op2 R2 => ?_
      rw [hw] at R2 ⊢
      refine open_ok R2 fun out ho => ?_
      have hout : out.length = 1 := by have := congrArg List.length ho; simpa using this
      have hsrc : ((gi out 0).2.2).2.length = min j 64 := by
        match out, hout with
        | [x], _ =>
          have ho : [rdAsk x] = [tldO (wantO true 2 0 (ofL l) ⟨fourA 239 1, 0, 0, []⟩)] := ho
          have ho := congrArg (fun z : Ad × Bool × List Ad => z.2.2) (List.cons.inj ho).1
          show x.2.2.2.length = _
          have ho : x.2.2.2 = ((ofL l).foldl (setS 2) []).map Prod.fst := ho
          rw [ho, List.length_map, fold_len _ _ (ofL_set l).nodup (by intro a _ q; cases q) (by decide), hof, hjl]; simp
      have jm : ∀ m : Int, m = ((min i 64 : Nat) : Int) → law22_QueryFull_j1 k Q A.now at1 A.first op1 out m := by
        intro m hm'
        have j2 : ∀ c : Int, c = ((min j 64 : Nat) : Int) → law22_QueryFull_j2 Q A.now at1 A.first op1 out m c := by
          intro c hc'
          refine open_ok R fun out2 ho2 => ?_
          have h2l : out2.length = A.L.length := by have := congrArg List.length ho2; simpa using this
          rw [h2l, hl, hout, hsrc]
          exact ⟨fun _ => ⟨fun _ => ⟨by decide, fun _ => lives22_ok h, fun q => absurd hc'.symm q⟩, fun q => absurd rfl q⟩, fun q => absurd hm'.symm q⟩
        unfold law22_QueryFull_j1
        rw [← hC]
        exact ⟨fun q => j2 64 (by omega), fun q => j2 j (by omega)⟩
      exact ⟨fun q => jm 64 (by omega), fun q => jm _ (by omega)⟩
end Go.Wk
