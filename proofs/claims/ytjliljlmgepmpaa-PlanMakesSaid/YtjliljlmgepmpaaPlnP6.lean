/- Plain words: which trees will do; that those that are made will. -/
import Derived.Test.YtjliljlmgepmpaaPlnP5
set_option linter.unusedSimpArgs false
set_option linter.unusedVariables false
set_option linter.unusedSectionVars false
namespace Go.Wk
open Go.HL
variable [DM]
theorem equal_I {a b : List Int} {Q : Bool → Prop} (hl : a.length ≤ 1000000) (h : Q (decide (a = b))) : slices_Equal_s_int_int_W a b Q := by
  refine ⟨fun c => ?_, fun c => ?_⟩
  · have : a ≠ b := fun e => by subst e; exact c rfl
    rw [decide_eq_false this] at h; exact h
  · have c : a.length = b.length := by omega
    refine loop_up1 a.length (fun i => a.take i = b.take i) (by simp) fun K i hi hI hK => ?_
    show slices_Equal_s_int_int_l1 _ _ _ _ _
    unfold slices_Equal_s_int_int_l1
    refine ⟨fun d => ⟨by (first | omega | (unfold I64; omega) | (simp only [List.length_append, List.length_cons, List.length_nil, List.length_take, List.length_drop] at *; omega) | (unfold I64; simp only [List.length_append, List.length_cons, List.length_nil, List.length_take, List.length_drop] at *; omega)), by (first | omega | (unfold I64; omega) | (simp only [List.length_append, List.length_cons, List.length_nil, List.length_take, List.length_drop] at *; omega) | (unfold I64; simp only [List.length_append, List.length_cons, List.length_nil, List.length_take, List.length_drop] at *; omega)), ?_⟩, fun d => ?_⟩
    · have h1 : i < a.length := by omega
      have h2 : i < b.length := by omega
      rw [gi_nat h1, gi_nat h2]
      refine ⟨fun q => ?_, fun q => ⟨by (first | omega | (unfold I64; omega) | (simp only [List.length_append, List.length_cons, List.length_nil, List.length_take, List.length_drop] at *; omega) | (unfold I64; simp only [List.length_append, List.length_cons, List.length_nil, List.length_take, List.length_drop] at *; omega)), hK (i + 1) (by omega) (by omega) ?_⟩⟩
      · have : a ≠ b := fun e => by subst e; exact q rfl
        rw [decide_eq_false this] at h; exact h
      · rw [List.take_succ_eq_append_getElem h1, List.take_succ_eq_append_getElem h2, hI, q]
    · have hab : a = b := by
        have h3 : i = a.length := by omega
        subst h3
        rw [List.take_length, c, List.take_length] at hI; exact hI
      rw [decide_eq_true hab] at h; exact h
/-! ### A number looked for by halves -/
theorem lessI_ok {x y : Int} {Q : Bool → Prop} (h : Q (decide (x < y))) : cmp_Less_int_W x y Q := isNaN_ok ⟨fun c => by simp at c, fun _ => h⟩
theorem mid_eq (a b : Nat) (h : a + b ≤ 1000000) : (IntKind.u64.wrap ((a : Int) + (b : Int))).fdiv (2 ^ (min (1 : Int).toNat IntKind.u64.bits)) = (((a + b) / 2 : Nat) : Int) := by
  have h1 : IntKind.u64.wrap ((a : Int) + (b : Int)) = ((a + b : Nat) : Int) := by
    rw [wrap_id]
    · rfl
    · show (0 : Int) ≤ _; omega
    · have : IntKind.u64.max = 18446744073709551615 := by decide
      rw [this]; omega
  have h2 : ((2 : Int) ^ (min (1 : Int).toNat IntKind.u64.bits)) = 2 := by decide
  rw [h1, h2, Int.fdiv_eq_ediv_of_nonneg _ (by omega)]; omega
theorem bsearch_ok {x : List Int} {t : Int} {Q : Int → Bool → Prop} (hl : x.length ≤ 100000) (hs : x.Pairwise (· < ·)) (h : ∀ i : Nat, Q (i : Int) (decide (t ∈ x))) : slices_BinarySearch_s_int_int_W x t Q := by
  refine ⟨fun s => ∃ a b : Nat, s = ((a : Int), (b : Int)) ∧ a ≤ b ∧ b ≤ x.length ∧ (∀ k (hk : k < x.length), k < a → x[k] < t) ∧ ∀ k (hk : k < x.length), b ≤ k → t ≤ x[k], fun s => (s.2 - s.1).toNat, ⟨0, x.length, rfl, by omega, by omega, by omega, fun k hk q => by omega⟩, ?_⟩
  rintro _ ⟨a, b, rfl, hab, hb, h1, h2⟩
  show slices_BinarySearch_s_int_int_l1 _ _ _ _ (a : Int) (b : Int)
  unfold slices_BinarySearch_s_int_int_l1
  refine ⟨fun c => ?_, fun c => ?_⟩
  · have hm1 : a ≤ (a + b) / 2 := by omega
    have hm2 : (a + b) / 2 < b := by omega
    rw [mid_eq a b (by omega)]
    have hmx : (a + b) / 2 < x.length := by omega
    rw [gi_nat hmx]
    generalize (a + b) / 2 = m at *
    refine ⟨by unfold I64; omega, by unfold I64; omega, by omega, lessI_ok ⟨fun q => ⟨by unfold I64; omega, ⟨m + 1, b, rfl, by omega, hb, fun k hk hkm => ?_, h2⟩, by simp only; omega⟩, fun q => ⟨⟨a, m, rfl, hm1, by omega, h1, fun k hk hkm => ?_⟩, by simp only; omega⟩⟩⟩
    · have q : x[m] < t := by simpa using q
      by_cases e : k = m
      · subst e; exact q
      · have := List.pairwise_iff_getElem.1 hs k m hk hmx (by omega); omega
    · have q : ¬ x[m] < t := by simpa using q
      by_cases e : k = m
      · subst e; omega
      · have := List.pairwise_iff_getElem.1 hs m k hmx hk (by omega); omega
  · have hba : b = a := by omega
    subst hba
    refine ⟨fun d => ?_, fun d => ?_⟩
    · have hlt : b < x.length := by omega
      rw [gi_nat hlt]
      refine ⟨by omega, fun e => ?_, fun e => ?_⟩
      · have := h b; rwa [decide_eq_true (by rw [← e]; exact List.getElem_mem hlt)] at this
      · have hno : t ∉ x := fun q => by
          obtain ⟨k, hk, hk2⟩ := List.mem_iff_getElem.1 q
          rcases Nat.lt_trichotomy k b with g | g | g
          · have := h1 k hk g; omega
          · subst g; exact e hk2
          · have := List.pairwise_iff_getElem.1 hs b k hlt hk g
            have := h2 b hlt (Nat.le_refl _); omega
        have hq := h b
        rw [decide_eq_false hno] at hq
        exact ⟨fun q => by simp at q, fun _ => hq⟩
    · have hno : t ∉ x := fun q => by
        obtain ⟨k, hk, hk2⟩ := List.mem_iff_getElem.1 q
        have := h1 k hk (by omega); omega
      have hq := h b
      rwa [decide_eq_false hno] at hq
/-! ### What stays when branches are put in another order -/
theorem Rch.perm {L M : List Br} {a x : Int} (hp : L.Perm M) (h : Rch L a x) : Rch M a x := h.mono fun e he => hp.mem_iff.1 he
theorem kids_perm {L M : List Br} (hp : L.Perm M) (x : Int) : (kids L x).Perm (kids M x) := (hp.filter _).map _
theorem LeafIs.perm {L M : List Br} {r : Int} {l : List Int} (hp : L.Perm M) (h : LeafIs M r l) : LeafIs L r l := ⟨h.ris, fun x => by
  rw [h.mem x]
  have e1 : Rch M r x ↔ Rch L r x := ⟨Rch.perm hp.symm, Rch.perm hp⟩
  have e2 : kids M x = [] ↔ kids L x = [] := by
    rw [← List.length_eq_zero_iff, ← List.length_eq_zero_iff, (kids_perm hp x).length_eq]
  rw [e1, e2]⟩
/-! ### Trees that are made -/
theorem gi_memI {l : List Int} {i : Nat} (h : i < l.length) : gi l (i : Int) ∈ l := by rw [gi_nat h]; exact List.getElem_mem h
section
variable {r : Int} {ss ms : List Int} {fan : Nat}
theorem mem_mkl {e : Br} : e ∈ mkl r ss ms fan ↔ ∃ i, i < ss.length + ms.length ∧ e = mkb r ss ms fan i := by
  unfold mkl; rw [List.mem_map]
  constructor
  · rintro ⟨i, hi, rfl⟩; exact ⟨i, List.mem_range.1 hi, rfl⟩
  · rintro ⟨i, hi, rfl⟩; exact ⟨i, List.mem_range.2 hi, rfl⟩
theorem mk_bound (hf : 1 ≤ fan) (hk : NeedIs ms.length fan ss.length) {i : Nat} (hi : i < ss.length + ms.length) : i / fan < ss.length + 1 := by
  rw [Nat.div_lt_iff_lt_mul (by omega)]
  have h3 : ss.length * (fan - 1) + ss.length = ss.length * fan := by rw [← Nat.mul_succ]; congr 1; omega
  have := hk.1
  rw [Nat.add_mul]; omega
theorem nd_inj {α : Type} {l : List α} (hn : l.Nodup) {i j : Nat} {hi : i < l.length} {hj : j < l.length} (e : l[i] = l[j]) : i = j := by
  rcases Nat.lt_trichotomy i j with q | q | q
  · exact absurd e (List.pairwise_iff_getElem.1 hn i j hi hj q)
  · exact q
  · exact absurd e.symm (List.pairwise_iff_getElem.1 hn j i hj hi q)
theorem range_gi (l : List Int) : (List.range l.length).map (fun i : Nat => gi l (i : Int)) = l := by
  apply List.ext_getElem
  · simp
  · intro i h1 h2
    simp only [List.getElem_map, List.getElem_range]
    exact gi_nat h2
theorem mk_to : (mkl r ss ms fan).map (·.2) = ss ++ ms := by
  have := range_gi (ss ++ ms)
  rw [List.length_append] at this
  unfold mkl
  rw [List.map_map]; exact this
theorem mk_gd (hN : (r :: (ss ++ ms)).Nodup) (hf : 1 ≤ fan) (hk : NeedIs ms.length fan ss.length) : Gd0 r (mkl r ss ms fan) := by
  rw [List.nodup_cons] at hN
  have key : ∀ i, i < ss.length + ms.length → Rch (mkl r ss ms fan) r (mkb r ss ms fan i).2 := by
    intro i
    induction i using Nat.strongRecOn with
    | _ i ih =>
      intro hi
      have hb := mk_bound hf hk hi
      have hd := Nat.div_le_self i fan
      have hm : mkb r ss ms fan i ∈ mkl r ss ms fan := mem_mkl.2 ⟨i, hi, rfl⟩
      have hx : Rch (mkl r ss ms fan) r (mkb r ss ms fan i).1 := by
        show Rch _ r (gi (r :: ss) ((i / fan : Nat) : Int))
        rcases hq : i / fan with _ | j
        · exact Rch.refl
        · have hj : j < ss.length := by omega
          have e : gi (r :: ss) ((j + 1 : Nat) : Int) = gi (ss ++ ms) (j : Int) := by
            simp only [gi, Int.toNat_natCast, List.getD_eq_getElem?_getD, List.getElem?_cons_succ]
            rw [List.getElem?_append_left hj]
          rw [e]; exact ih j (by omega) (by omega)
      exact hx.step hm
  refine ⟨fun e he => ?_, ?_, fun e he => ?_⟩
  · obtain ⟨i, hi, rfl⟩ := mem_mkl.1 he
    intro q
    exact hN.1 (q ▸ gi_memI (by simpa using hi))
  · rw [mk_to]; exact hN.2
  · obtain ⟨i, hi, rfl⟩ := mem_mkl.1 he; exact key i hi
theorem mk_from {e : Br} (hf : 1 ≤ fan) (hk : NeedIs ms.length fan ss.length) (he : e ∈ mkl r ss ms fan) : e.1 = r ∨ e.1 ∈ ss := by
  obtain ⟨i, hi, rfl⟩ := mem_mkl.1 he
  have hb := mk_bound hf hk hi
  have := gi_memI (l := r :: ss) (i := i / fan) (by simpa using hb)
  exact List.mem_cons.1 this
theorem mk_last (hf : 1 ≤ fan) (hk : NeedIs ms.length fan ss.length) {j : Nat} (hj : j < ss.length) : (j + 1) * fan < ss.length + ms.length := by
  have h1 : (j + 1) * fan ≤ ss.length * fan := Nat.mul_le_mul_right _ hj
  have h2 := hk.2 (ss.length - 1) (by omega)
  have h3 : ss.length * (fan - 1) + ss.length = ss.length * fan := by rw [← Nat.mul_succ]; congr 1; omega
  have h4 : (ss.length - 1) * (fan - 1) + (fan - 1) = ss.length * (fan - 1) := by rw [← Nat.succ_mul]; congr 1; omega
  omega
theorem mk_leaf (hN : (r :: (ss ++ ms)).Nodup) (hf : 1 ≤ fan) (hk : NeedIs ms.length fan ss.length) (hm : ms.Pairwise (· < ·)) : LeafIs (mkl r ss ms fan) r ms := by
  have g := mk_gd hN hf hk
  refine ⟨hm, fun x => ?_⟩
  have hr := g.reach (x := x)
  rw [mk_to] at hr
  rw [hr]
  rw [List.nodup_cons, List.nodup_append] at hN
  obtain ⟨h1, h2, h3, h4⟩ := hN
  constructor
  · intro hx
    have hxr : x ≠ r := by rintro rfl; exact h1 (List.mem_append_right _ hx)
    refine ⟨.inr (List.mem_append_right _ hx), hxr, ?_⟩
    rcases hq : kids (mkl r ss ms fan) x with _ | ⟨y, l⟩
    · rfl
    · have : (x, y) ∈ mkl r ss ms fan := mem_kids.1 (by rw [hq]; simp)
      rcases mk_from hf hk this with e | e
      · exact absurd e hxr
      · exact absurd rfl (h4 x e x hx)
  · rintro ⟨e, hxr, hkid⟩
    rcases e with e | e
    · exact absurd e hxr
    · rcases List.mem_append.1 e with e | e
      · exfalso
        obtain ⟨j, hj, rfl⟩ := List.mem_iff_getElem.1 e
        have hl := mk_last hf hk hj
        have hmem : mkb r ss ms fan ((j + 1) * fan) ∈ mkl r ss ms fan := mem_mkl.2 ⟨_, hl, rfl⟩
        have e1 : (mkb r ss ms fan ((j + 1) * fan)).1 = ss[j] := by
          show gi (r :: ss) (((j + 1) * fan / fan : Nat) : Int) = _
          rw [Nat.mul_div_cancel _ (by omega)]
          simp only [gi, Int.toNat_natCast, List.getD_eq_getElem?_getD, List.getElem?_cons_succ]
          rw [List.getElem?_eq_getElem hj]; rfl
        have : (mkb r ss ms fan ((j + 1) * fan)).2 ∈ kids (mkl r ss ms fan) ss[j] := mem_kids.2 (by rw [← e1]; exact hmem)
        rw [hkid] at this; cases this
      · exact e
theorem mk_fan (hN : (r :: (ss ++ ms)).Nodup) (hf : 1 ≤ fan) (hk : NeedIs ms.length fan ss.length) (x : Int) : (kids (mkl r ss ms fan) x).length ≤ fan := by
  have hN' : (r :: ss).Nodup := by
    rw [List.nodup_cons] at hN ⊢
    exact ⟨fun q => hN.1 (List.mem_append_left _ q), (List.nodup_append.1 hN.2).1⟩
  have hlen : (kids (mkl r ss ms fan) x).length = ((List.range (ss.length + ms.length)).filter fun i => decide ((mkb r ss ms fan i).1 = x)).length := by
    unfold kids mkl
    rw [List.length_map, List.filter_map, List.length_map]; rfl
  rw [hlen]
  rcases hq : (List.range (ss.length + ms.length)).filter fun i => decide ((mkb r ss ms fan i).1 = x) with _ | ⟨i0, l⟩
  · simp
  · rw [← hq]
    have hm : ∀ i, i ∈ (List.range (ss.length + ms.length)).filter (fun i => decide ((mkb r ss ms fan i).1 = x)) → i < ss.length + ms.length ∧ gi (r :: ss) ((i / fan : Nat) : Int) = x := fun i hi => by
      rw [List.mem_filter, List.mem_range, decide_eq_true_eq] at hi; exact hi
    have h0 := hm i0 (by rw [hq]; simp)
    have hb0 := mk_bound hf hk h0.1
    have := nodup_le (l := (List.range (ss.length + ms.length)).filter fun i => decide ((mkb r ss ms fan i).1 = x)) (m := List.range' (i0 / fan * fan) fan) (List.Nodup.sublist List.filter_sublist List.nodup_range) fun i hi => by
      obtain ⟨h1, h2⟩ := hm i hi
      have hb := mk_bound hf hk h1
      have e : i / fan = i0 / fan := by
        have e1 : (r :: ss)[i / fan]'(by simpa using hb) = (r :: ss)[i0 / fan]'(by simpa using hb0) := by
          rw [← gi_nat (l := r :: ss) (by simpa using hb), ← gi_nat (l := r :: ss) (by simpa using hb0), h2, h0.2]
        exact nd_inj hN' e1
      rw [List.mem_range']
      have h5 := Nat.div_add_mod i fan
      have h6 := Nat.mod_lt i (show 0 < fan by omega)
      refine ⟨i % fan, h6, ?_⟩
      rw [← e, Nat.mul_comm (i / fan)]; omega
    rwa [List.length_range'] at this
end
/-! ### Stars -/
theorem star_ris {r : Int} {ms : List Int} (hm : ms.Pairwise (· < ·)) : (ms.map fun m => ((r, m) : Br)).Pairwise blt := List.pairwise_map.2 (hm.imp fun {a b} h => .inr ⟨rfl, h⟩)
theorem star_gd {r : Int} {ms : List Int} (hr : r ∉ ms) (hn : ms.Nodup) : Gd0 r (ms.map fun m => ((r, m) : Br)) := by
  refine ⟨fun e he => ?_, ?_, fun e he => ?_⟩
  · obtain ⟨m, hm, rfl⟩ := List.mem_map.1 he
    intro q; exact hr (q ▸ hm)
  · rw [List.map_map]; simpa [Function.comp_def] using hn
  · obtain ⟨m, hm, rfl⟩ := List.mem_map.1 he
    exact Rch.refl.step he
theorem star_leaf {r : Int} {ms : List Int} (hr : r ∉ ms) (hm : ms.Pairwise (· < ·)) : LeafIs (ms.map fun m => ((r, m) : Br)) r ms := by
  have g := star_gd hr (rise_nodup hm)
  refine ⟨hm, fun x => ?_⟩
  have hre := g.reach (x := x)
  rw [List.map_map] at hre
  have e : ms.map ((fun e : Br => e.2) ∘ fun m => ((r, m) : Br)) = ms := by simp [Function.comp_def]
  rw [hre, e]
  constructor
  · intro hx
    have hxr : x ≠ r := by rintro rfl; exact hr hx
    refine ⟨.inr hx, hxr, ?_⟩
    rcases hq : kids (ms.map fun m => ((r, m) : Br)) x with _ | ⟨y, l⟩
    · rfl
    · have : (x, y) ∈ ms.map fun m => ((r, m) : Br) := mem_kids.1 (by rw [hq]; simp)
      obtain ⟨m, _, q⟩ := List.mem_map.1 this
      injection q with q1 q2; exact absurd q1.symm hxr
  · rintro ⟨e, hxr, _⟩
    rcases e with e | e
    · exact absurd e hxr
    · exact e
/-! ### Which trees will do -/
structure ValidP (r : Int) (L : List Br) (root : Int) (ms ss : List Int) (fan : Nat) : Prop where
  good : Gd r L
  rt : r = root
  rm : ms.Pairwise (· < ·)
  rs : ss.Pairwise (· < ·)
  leaf : LeafIs L r ms
  inn : ∀ e ∈ L, e.1 = root ∨ e.1 ∈ ss
  fan : ∀ f, FanIs L f → f ≤ fan ∨ (¬ FitsP ms.length ss.length fan ∧ L = ms.map fun m => (root, m))
theorem valid_ok {r root : Int} {L : List Br} {ms ss : List Int} {fan : Nat} {Q : Bool → Prop} (hl : L.length ≤ 100000) (hm : ms.length ≤ 400) (hs : ss.length ≤ 400) (hf : 1 ≤ fan ∧ fan ≤ 1000) (h : ∀ b : Bool, (b = true ↔ ValidP r L root ms ss fan) → Q b) : plan_Valid_W r L root ms ss (fan : Int) Q := by
  have no : ¬ ValidP r L root ms ss fan → Q false := fun c => h false ⟨(fun q => by cases q), fun q => absurd q c⟩
  have jt : ¬ ValidP r L root ms ss fan → plan_Valid_j1 r L root ms ss (fan : Int) Q true := fun c => ⟨fun _ => no c, fun q => by cases q⟩
  refine good_ok hl fun b hb => ⟨fun c => jt fun v => ?_, fun c => ?_⟩
  · rw [hb.2 v.good] at c; cases c
  have g : Gd r L := hb.1 (by simpa using c)
  refine ⟨fun d => jt fun v => d v.rt, fun d => rise33_ok (by omega) fun b1 h1 => ⟨fun c => jt fun v => ?_, fun c1 => rise33_ok (by omega) fun b2 h2 => ⟨fun c => jt fun v => ?_, fun c2 => leaves_ok hl fun lv hlv => equal_I ?_ ?_⟩⟩⟩
  · rw [h1.2 v.rm] at c; cases c
  · rw [h2.2 v.rs] at c; cases c
  · have hle := nodup_le (m := r :: L.map (·.2)) (rise_nodup hlv.ris) fun x hx => g.toGd0.isR.mem x |>.2 ((hlv.mem x).1 hx).1
    simp at hle; omega
  by_cases e : lv = ms
  · subst e
    rw [decide_eq_true rfl]
    refine ⟨fun c => by simp at c, fun _ => ?_⟩
    have hrm := h1.1 (by simpa using c1); have hrs := h2.1 (by simpa using c2)
    refine loop_up1 L.length (fun i => ∀ e ∈ L.take i, e.1 = root ∨ e.1 ∈ ss) (by simp) fun K i hi hI hK => ?_
    unfold plan_Valid_l1
    refine ⟨fun c => ?_, fun c => ?_⟩
    · have hlt : i < L.length := by omega
      rw [gi_nat hlt]
      have step : (L[i].1 = root ∨ L[i].1 ∈ ss) → K ((i : Int) + 1) := fun q => hK (i + 1) (by omega) hlt fun e he => by
        rw [List.take_succ_eq_append_getElem hlt] at he
        rcases List.mem_append.1 he with he | he
        · exact hI e he
        · rw [List.mem_singleton] at he; subst he; exact q
      refine ⟨by omega, bsearch_ok (by omega) hrs fun _ => ⟨fun q => ⟨fun q2 => no fun v => ?_, fun q2 => ⟨by unfold I64; omega, step (.inr (by simpa using q2))⟩⟩, fun q => ⟨by unfold I64; omega, step (.inl q)⟩⟩⟩
      rcases v.inn _ (List.getElem_mem hlt) with p | p
      · exact q p
      · simp [p] at q2
    · have : i = L.length := by omega
      subst this
      rw [List.take_length] at hI
      refine fan_ok hl fun f _ hfi => ⟨fun q => h true ⟨fun _ => ⟨g, d, hrm, hrs, hlv, hI, fun f' hf' => .inl ?_⟩, fun _ => rfl⟩, fun q => fitsP_ok (by omega) hf fun b3 h3 => ⟨fun q3 => star_ok (by omega) (sameT_ok (by omega) (h _ ?_)), fun q3 => no fun v => ?_⟩⟩
      · rw [hf'.uniq hfi]; omega
      · have hnf : ¬ FitsP lv.length ss.length fan := fun q' => by rw [h3.2 q'] at q3; cases q3
        rw [decide_eq_true_eq]
        constructor
        · intro q'; exact ⟨g, d, hrm, hrs, hlv, hI, fun f' hf' => .inr ⟨hnf, q'.2⟩⟩
        · intro v
          rcases v.fan f hfi with p | p
          · omega
          · exact ⟨d, p.2⟩
      · have hfp := h3.1 (by simpa using q3)
        rcases v.fan f hfi with p | p
        · omega
        · exact p.1 hfp
  · rw [decide_eq_false e]
    exact jt fun v => e (hlv.uniq v.leaf)
theorem refValid_ok {r root : Int} {L : List Br} {ms ss : List Int} {fan : Nat} {Q : Bool → Prop} (hl : L.length ≤ 100000) (hm : ms.length ≤ 400) (hs : ss.length ≤ 400) (hf : 1 ≤ fan ∧ fan ≤ 1000) (h : ∀ b : Bool, (b = true ↔ ValidP r L root ms ss fan) → Q b) : ref33_Valid_W r L root ms ss (fan : Int) Q := by
  have no : ¬ ValidP r L root ms ss fan → Q false := fun c => h false ⟨(fun q => by cases q), fun q => absurd q c⟩
  have jt : ¬ ValidP r L root ms ss fan → ref33_Valid_j1 r L root ms ss (fan : Int) Q true := fun c => ⟨fun _ => no c, fun q => by cases q⟩
  refine refGood_ok hl fun b hb => ⟨fun c => jt fun v => ?_, fun c => ?_⟩
  · rw [hb.2 v.good] at c; cases c
  have g : Gd r L := hb.1 (by simpa using c)
  refine ⟨fun d => jt fun v => d v.rt, fun d => refRises_ok (by omega) fun b1 h1 => ⟨fun c => jt fun v => ?_, fun c1 => refRises_ok (by omega) fun b2 h2 => ⟨fun c => jt fun v => ?_, fun c2 => refLeaves_ok hl fun lv hlv => eqI_ok ?_ ?_⟩⟩⟩
  · rw [h1.2 v.rm] at c; cases c
  · rw [h2.2 v.rs] at c; cases c
  · have hle := nodup_le (m := r :: L.map (·.2)) (rise_nodup hlv.ris) fun x hx => g.toGd0.isR.mem x |>.2 ((hlv.mem x).1 hx).1
    simp at hle; omega
  by_cases e : lv = ms
  · subst e
    rw [decide_eq_true rfl]
    refine ⟨fun c => by simp at c, fun _ => nodes_ok hl fun N hN hR => ?_⟩
    have hNl := hR.len_le
    have hrm := h1.1 (by simpa using c1); have hrs := h2.1 (by simpa using c2)
    -- a node that is neither the root nor a service node is a leaf
    have lf : ∀ x, Rch L r x → x ≠ r → kids L x = [] → x ∈ lv := fun x h1 h2 h3 => (hlv.mem x).2 ⟨h1, h2, h3⟩
    have bad : ∀ x, Rch L r x → x ≠ root → kids L x ≠ [] → x ∉ ss → ¬ ValidP r L root lv ss fan := fun x h1 h2 h3 h4 v => by
      rcases hq : kids L x with _ | ⟨y, l⟩
      · exact h3 hq
      · have : (x, y) ∈ L := mem_kids.1 (by rw [hq]; simp)
        rcases v.inn _ this with p | p
        · exact h2 p
        · exact h4 p
    refine loop_up1 N.length (fun i => ∀ x ∈ N.take i, x = root ∨ kids L x = [] ∨ x ∈ ss) (by simp) fun K i hi hI hK => ?_
    unfold ref33_Valid_l1
    refine ⟨fun c => ?_, fun c => ?_⟩
    · have hlt : i < N.length := by omega
      have hxR : Rch L r N[i] := (hR.mem _).1 (List.getElem_mem hlt)
      have step : (N[i] = root ∨ kids L N[i] = [] ∨ N[i] ∈ ss) → K ((i : Int) + 1) := fun q => hK (i + 1) (by omega) hlt fun e he => by
        rw [List.take_succ_eq_append_getElem hlt] at he
        rcases List.mem_append.1 he with he | he
        · exact hI e he
        · rw [List.mem_singleton] at he; subst he; exact q
      have j2 : ref33_Valid_j2 r L root ss Q N (i : Int) K := by
        unfold ref33_Valid_j2
        rw [gi_nat hlt]
        refine ⟨by omega, fun q => refNext_ok hl ⟨fun q1 => has_ok (by omega) ⟨fun q2 => no (bad _ hxR q (fun e => by rw [e] at q1; simp at q1) (by simpa using q2)), fun q2 => ⟨by unfold I64; omega, step (.inr (.inr (by simpa using q2)))⟩⟩, fun q1 => ⟨by unfold I64; omega, step (.inr (.inl (List.length_eq_zero_iff.1 (by omega))))⟩⟩, fun q => ⟨by unfold I64; omega, step (.inl q)⟩⟩
      have hgi := gi_nat hlt
      refine ⟨by omega, fun q => has_ok (by omega) ⟨fun q1 => has_ok (by omega) ⟨fun q2 => no ?_, fun _ => j2⟩, fun _ => j2⟩, fun _ => j2⟩
      rw [hgi] at q q1 q2
      refine bad _ hxR q (fun e => ?_) (by simpa using q2)
      exact absurd (lf _ hxR (by rw [d]; exact q) e) (by simpa using q1)
    · have : i = N.length := by omega
      subst this
      rw [List.take_length] at hI
      have hinn : ∀ e ∈ L, e.1 = root ∨ e.1 ∈ ss := fun e he => by
        have hx := g.toGd0.from_ (x := e.1) (y := e.2) he
        rcases hI _ ((hR.mem _).2 hx) with p | p | p
        · exact .inl p
        · have : e.2 ∈ kids L e.1 := mem_kids.2 he
          rw [p] at this; cases this
        · exact .inr p
      refine refFan_ok hl g.toGd0 fun f _ hfi => ⟨fun q => h true ⟨fun _ => ⟨g, d, hrm, hrs, hlv, hinn, fun f' hf' => .inl ?_⟩, fun _ => rfl⟩, fun q => refFits_ok (by omega) hf fun b3 h3 => ⟨fun q3 => refStar_ok (by omega) fun S hp hsrt => refSame_ok (by omega) (h _ ?_), fun q3 => no fun v => ?_⟩⟩
      · rw [hf'.uniq hfi]; omega
      · have hS : S = lv.map fun m => (root, m) := sorted_uniq hp hsrt (blt_weak (star_ris hrm))
        subst hS
        have hnf : ¬ FitsP lv.length ss.length fan := fun q' => by rw [h3.2 q'] at q3; cases q3
        rw [decide_eq_true_eq]
        constructor
        · intro q'; exact ⟨g, d, hrm, hrs, hlv, hinn, fun f' hf' => .inr ⟨hnf, q'.2⟩⟩
        · intro v
          rcases v.fan f hfi with p | p
          · omega
          · exact ⟨d, p.2⟩
      · have hfp := h3.1 (by simpa using q3)
        rcases v.fan f hfi with p | p
        · omega
        · exact p.1 hfp
  · rw [decide_eq_false e]
    exact jt fun v => e (hlv.uniq v.leaf)
end Go.Wk
