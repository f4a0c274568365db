/- Plain words on trees: who is above, paths, how deep. -/
import Derived.Test.YtjliljlmgepmpaaGreatDoorTreP4
set_option linter.unusedSimpArgs false
set_option linter.unusedVariables false
set_option linter.unusedSectionVars false
namespace Go.Wk
open Go.HL
variable [DM]
theorem indexFunc_Br {l : List Br} {p : Br → Bool} {Q : Int → Prop} (hl : l.length ≤ 1000000) (h0 : (∀ x ∈ l, p x = false) → Q (-1)) (h1 : ∀ (i : Nat) (hi : i < l.length), p l[i] = true → (∀ x ∈ l.take i, p x = false) → Q (i : Int)) : slices_IndexFunc_s_api_Branch_api_Branch_W l p Q := by
  refine loop_up1 l.length (fun i => ∀ x ∈ l.take i, p x = false) (by simp) fun K i hi hI hK => ?_
  show slices_IndexFunc_s_api_Branch_api_Branch_l1 _ _ _ _ _
  unfold slices_IndexFunc_s_api_Branch_api_Branch_l1
  refine ⟨fun c => ⟨by (first | omega | (unfold I64; omega) | (simp only [List.length_append, List.length_cons, List.length_nil, List.length_take, List.length_drop] at *; omega) | (unfold I64; simp only [List.length_append, List.length_cons, List.length_nil, List.length_take, List.length_drop] at *; omega)), ?_⟩, fun c => ?_⟩
  · have hi' : i < l.length := by omega
    rw [gi_nat hi']
    refine ⟨fun q => h1 i hi' q hI, fun q => ⟨by (first | omega | (unfold I64; omega) | (simp only [List.length_append, List.length_cons, List.length_nil, List.length_take, List.length_drop] at *; omega) | (unfold I64; simp only [List.length_append, List.length_cons, List.length_nil, List.length_take, List.length_drop] at *; omega)), hK (i + 1) (by omega) (by omega) ?_⟩⟩
    intro x hx
    rw [List.take_succ_eq_append_getElem hi'] at hx
    rcases List.mem_append.1 hx with hx | hx
    · exact hI x hx
    · rw [List.mem_singleton] at hx; subst hx; exact q
  · rw [List.take_of_length_le (by omega)] at hI; exact h0 hI

theorem hasT_ok {r n : Int} {L : List Br} {Q : Bool → Prop} (hl : L.length ≤ 100000) (h : Q (decide (n = r ∨ n ∈ L.map (·.2)))) : tree_has_W r L n Q := by
  refine ⟨fun c => (by rw [decide_eq_true (.inl c)] at h; exact h), fun c => ⟨fun e => decide (e.2 = n), fun _ => rfl, ?_⟩⟩
  refine indexFunc_Br (by omega) (fun h0 => ?_) fun i hi h1 h2 => ?_
  · rw [decide_eq_false (by decide)]
    rwa [decide_eq_false] at h
    rintro (q | q)
    · exact c q
    · obtain ⟨e, he, q⟩ := List.mem_map.1 q
      have := of_decide_eq_false (h0 e he); exact this q
  · rw [decide_eq_true (by omega)]
    rwa [decide_eq_true] at h
    exact .inr (List.mem_map.2 ⟨_, List.getElem_mem hi, of_decide_eq_true h1⟩)
theorem parent_ok {r n : Int} {L : List Br} {Q : Int → Bool → Prop} (hl : L.length ≤ 100000) (h0 : n ∉ L.map (·.2) → Q 0 false) (h1 : ∀ x, (x, n) ∈ L → Q x true) : tree_parent_W r L n Q := by
  refine ⟨fun e => decide (e.2 = n), fun _ => rfl, indexFunc_Br (by omega) (fun h2 => ⟨fun _ => h0 fun q => ?_, fun c => absurd (by decide) c⟩) fun i hi h2 h3 => ⟨fun c => by omega, fun _ => ⟨by omega, ?_⟩⟩⟩
  · obtain ⟨e, he, q⟩ := List.mem_map.1 q
    exact of_decide_eq_false (h2 e he) q
  · rw [gi_nat hi]
    have e2 : L[i].2 = n := of_decide_eq_true h2
    have em : L[i] = (L[i].1, n) := by rw [← e2]
    exact h1 _ (em ▸ List.getElem_mem hi)
/-! ### A list turned round -/
theorem reverse_ok {s : List Int} {Q : List Int → Prop} (hl : s.length ≤ 1000000) (h : Q s.reverse) : slices_Reverse_s_int_int_W s Q := by
  refine ⟨by unfold I64; omega, ?_⟩
  refine loop_by (fun q => q.2.1) s.length (fun i q => q.2.2 = (s.length : Int) - 1 - i ∧ 2 * i ≤ s.length + 1 ∧ q.1.length = s.length ∧ ∀ k (hk : k < s.length), q.1[k]? = if k < i ∨ s.length ≤ k + i then s[s.length - 1 - k]? else s[k]?) rfl ⟨by simp, by omega, rfl, fun k hk => by rw [if_neg (by omega)]⟩ ?_
  rintro K i ⟨l, _, j⟩ rfl hi ⟨hj, hi2, hll, hE⟩ hK
  simp only at hj hll hE
  subst hj
  show slices_Reverse_s_int_int_l1 _ _ l (i : Int) ((s.length : Int) - 1 - (i : Int))
  unfold slices_Reverse_s_int_int_l1
  refine ⟨fun c => ?_, fun c => ?_⟩
  · have h1 : i < l.length := by omega
    have ej : (s.length : Int) - 1 - (i : Int) = ((s.length - 1 - i : Nat) : Int) := by omega
    have h2 : s.length - 1 - i < l.length := by omega
    rw [ej, gi_nat h1, gi_nat h2, Int.toNat_natCast, Int.toNat_natCast]
    have v1 := hE i (by omega); have v2 := hE (s.length - 1 - i) (by omega)
    rw [if_neg (by omega), List.getElem?_eq_getElem h1] at v1
    rw [if_neg (by omega), List.getElem?_eq_getElem h2] at v2
    refine ⟨by omega, by omega, by rw [List.length_set]; omega, by unfold I64; omega, by unfold I64; omega, hK (i + 1) _ (by simp) (by omega) (by omega) ⟨by simp only; omega, by omega, by rw [List.length_set, List.length_set]; exact hll, fun k hk => ?_⟩⟩
    simp only
    rw [List.getElem?_set, List.getElem?_set, List.length_set]
    by_cases k1 : s.length - 1 - i = k
    · rw [if_pos k1, if_pos (by omega), if_pos (by omega), v1]
      congr 1; omega
    · rw [if_neg k1]
      by_cases k2 : i = k
      · rw [if_pos k2, if_pos (by omega), if_pos (by omega), v2]
        congr 1; omega
      · rw [if_neg k2, hE k hk]
        by_cases k3 : k < i ∨ s.length ≤ k + i
        · rw [if_pos k3, if_pos (by omega)]
        · rw [if_neg k3, if_neg (by omega)]
  · have : l = s.reverse := by
      apply List.ext_getElem?
      intro k
      by_cases hk : k < s.length
      · rw [hE k hk, List.getElem?_reverse hk]
        by_cases k3 : k < i ∨ s.length ≤ k + i
        · rw [if_pos k3]
        · rw [if_neg k3]; congr 1; omega
      · rw [List.getElem?_eq_none (by omega), List.getElem?_eq_none (by simp; omega)]
    rw [this]; exact h
/-! ### Paths -/
theorem Gd0.no_root {r : Int} {L : List Br} (g : Gd0 r L) : r ∉ L.map (·.2) := fun q => by
  obtain ⟨e, he, q⟩ := List.mem_map.1 q; exact g.root e he q
theorem path_ok {r n : Int} {L : List Br} {Q : List Int → Prop} (hl : L.length ≤ 100000) (g : Gd0 r L) (h1 : ∀ p, Pth L r n p → Q p) (h0 : ¬ (n = r ∨ n ∈ L.map (·.2)) → Q []) : tree_path_W r L n Q := by
  refine hasT_ok hl ⟨fun c => h0 (by rw [Bool.not_eq_true'] at c; exact of_decide_eq_false c), fun c => ?_⟩
  have hn : n = r ∨ n ∈ L.map (·.2) := by
    rw [Bool.not_eq_false'] at c; exact of_decide_eq_true c
  obtain ⟨p0, hp0⟩ := (g.reach.2 hn).pth
  have hlen := hp0.len g
  have fin : ∀ out : List Int, out.reverse = p0 → slices_Reverse_s_int_int_W out Q := fun out e => reverse_ok (by have := congrArg List.length e; simp at this; omega) (by rw [e]; exact h1 _ hp0)
  have start : ∀ (x : Int) (ok : Bool), ((ok = true ∧ ∃ q, Pth L r x q ∧ q ++ [n] = p0) ∨ (ok = false ∧ [n] = p0)) → loopW (fun (K_1 : (List Int × Int × Bool) → Prop) (s : List Int × Int × Bool) => tree_path_l1 r L Q (fun out_1 p_1 ok_1 => K_1 (out_1, p_1, ok_1)) s.1 s.2.1 s.2.2) (([n] : List Int), x, ok) := by
    intro x ok hx
    refine ⟨fun s => (s.2.2 = true ∧ ∃ q, Pth L r s.2.1 q ∧ q ++ s.1.reverse = p0) ∨ (s.2.2 = false ∧ s.1.reverse = p0), fun s => 2 * (p0.length - s.1.length) + (if s.2.2 then 1 else 0), by simpa using hx, ?_⟩
    rintro ⟨out, y, ok⟩ hI
    simp only at hI ⊢
    unfold tree_path_l1
    rcases hI with ⟨rfl, q, hq, e⟩ | ⟨rfl, e⟩
    · refine ⟨fun _ => ?_, fun c => (by cases c)⟩
      have el := congrArg List.length e
      simp only [List.length_append, List.length_reverse] at el
      have hqp := hq.len_pos
      refine ⟨by simp only [List.length_cons, List.length_nil]; omega, parent_ok hl (fun hno => ?_) fun x hx => ?_⟩
      · have hy : y = r := by
          cases hq with
          | root => rfl
          | step _ hl' => exact absurd (List.mem_map.2 ⟨_, hl', rfl⟩) hno
        subst hy
        have := hq.uniq g .root
        subst this
        refine ⟨.inr ⟨rfl, by rw [List.reverse_append]; simpa using e⟩, ?_⟩
        simp only [List.length_append, List.length_cons, List.length_nil] at el ⊢
        simp; omega
      · cases hq with
        | root => exact absurd rfl (g.root _ hx)
        | @step x' _ q' h' hl' =>
          have e' := g.one hx hl'; subst e'
          have h'p := h'.len_pos
          refine ⟨.inl ⟨rfl, q', h', by rw [List.reverse_append]; simpa [List.append_assoc] using e⟩, ?_⟩
          simp only [List.length_append, List.length_cons, List.length_nil] at el ⊢
          simp; omega
    · exact ⟨fun c => (by cases c), fun _ => fin out e⟩
  refine parent_ok hl (fun hno => start _ _ (.inr ⟨rfl, ?_⟩)) fun x hx => start _ _ (.inl ⟨rfl, ?_⟩)
  · rcases hn with rfl | hn
    · exact (Pth.uniq g .root hp0)
    · exact absurd hn hno
  · cases hp0 with
    | root => exact absurd rfl (g.root _ hx)
    | @step x' _ q' h' hl' =>
      have e' := g.one hx hl'; subst e'
      exact ⟨q', h', rfl⟩
/-! ### How deep -/
structure DepthIs (L : List Br) (r : Int) (d : Nat) : Prop where
  le : ∀ x p, Pth L r x p → p.length ≤ d + 1
  eq : ∃ x p, Pth L r x p ∧ p.length = d + 1
theorem DepthIs.uniq {L : List Br} {r : Int} {d e : Nat} (h : DepthIs L r d) (k : DepthIs L r e) : d = e := by
  obtain ⟨x, p, hp, h1⟩ := h.eq
  obtain ⟨y, q, hq, h2⟩ := k.eq
  have := k.le x p hp; have := h.le y q hq; omega
structure DI (L : List Br) (r : Int) (S : Int → Prop) (deep : List (Int × Int)) (most : Int) : Prop where
  root : S r
  val : ∀ x p, S x → Pth L r x p → mget0 deep x = (p.length : Int) - 1
  le : ∀ x p, S x → Pth L r x p → (p.length : Int) - 1 ≤ most
  eq : ∃ x p, S x ∧ Pth L r x p ∧ most = (p.length : Int) - 1
theorem DI.congr {L : List Br} {r : Int} {S S' : Int → Prop} {deep : List (Int × Int)} {most : Int} (h : DI L r S deep most) (hs : ∀ x, S' x ↔ S x) : DI L r S' deep most := by
  have : S' = S := funext fun x => propext (hs x)
  rw [this]; exact h
theorem DI.step {L : List Br} {r : Int} {S : Int → Prop} {deep : List (Int × Int)} {most x k : Int} (g : Gd0 r L) (h : DI L r S deep most) (hx : S x) (hl : (x, k) ∈ L) :
    DI L r (fun y => S y ∨ y = k) (mset deep k (mget0 deep x + 1)) (max most (mget0 (mset deep k (mget0 deep x + 1)) k)) ∧ ∃ p : List Int, Pth L r k p ∧ p.length ≤ L.length + 1 ∧ mget0 deep x + 1 = (p.length : Int) - 1 := by
  obtain ⟨p, hp⟩ := (g.from_ hl).pth
  have hv := h.val x p hx hp
  have hk := hp.step hl
  have hkl := hk.len g
  rw [mget0_mset, if_pos rfl]
  refine ⟨⟨.inl h.root, fun y q hy hq => ?_, fun y q hy hq => ?_, ?_⟩, _, hk, hkl, by rw [hv, List.length_append, List.length_singleton]; omega⟩
  · rw [mget0_mset]
    by_cases c : y = k
    · subst c; rw [if_pos rfl, hq.uniq g hk, hv, List.length_append, List.length_singleton]; omega
    · rw [if_neg c]; exact h.val y q (hy.resolve_right c) hq
  · by_cases c : y = k
    · subst c; rw [hq.uniq g hk, hv, List.length_append, List.length_singleton]; omega
    · have := h.le y q (hy.resolve_right c) hq; omega
  · by_cases c : most ≤ mget0 deep x + 1
    · refine ⟨k, _, .inr rfl, hk, ?_⟩
      rw [List.length_append, List.length_singleton, hv]
      rw [hv] at c; omega
    · obtain ⟨y, q, hy, hq, e⟩ := h.eq
      exact ⟨y, q, .inl hy, hq, by omega⟩
theorem depth_ok {r : Int} {L : List Br} {Q : Int → Prop} (hl : L.length ≤ 100000) (g : Gd0 r L) (h : ∀ d : Nat, d ≤ L.length → DepthIs L r d → Q (d : Int)) : tree_Depth_W r L Q := by
  refine nexts_ok hl fun nx hnx => walk_ok hl fun out ho => ?_
  have hol := ho.toIsR.len_le
  have h0 : DI L r (fun y => y = r ∨ ∃ (j : Nat) (x : Int), j < 0 ∧ out[j]? = some x ∧ (x, y) ∈ L) [] 0 := by
    refine ⟨.inl rfl, fun x p hx hp => ?_, fun x p hx hp => ?_, r, [r], .inl rfl, .root, by simp⟩ <;>
    · obtain rfl : x = r := hx.resolve_right (by rintro ⟨j, _, hj, _⟩; omega)
      have := hp.uniq g .root; subst this
      simp [mget0, mget]
  refine loop_by (fun q => q.2.2) out.length (fun i q => DI L r (fun y => y = r ∨ ∃ (j : Nat) (x : Int), j < i ∧ out[j]? = some x ∧ (x, y) ∈ L) q.1 q.2.1) rfl h0 ?_
  rintro K i ⟨deep, most, _⟩ rfl hi hI hK
  simp only at hI
  show tree_Depth_l1 _ _ _ _ deep most (i : Int)
  unfold tree_Depth_l1
  refine ⟨fun c => ⟨by omega, ?_⟩, fun c => ?_⟩
  · have hlt : i < out.length := by omega
    have hx : out[i]? = some out[i] := List.getElem?_eq_getElem hlt
    generalize hxx : out[i] = x at hx
    have hSx : x = r ∨ ∃ (j : Nat) (x' : Int), j < i ∧ out[j]? = some x' ∧ (x', x) ∈ L := by
      by_cases hi0 : i = 0
      · left; subst hi0; rw [ho.fst] at hx; injection hx with hx; exact hx.symm
      · right
        obtain ⟨k, x', hk, hx', hxl⟩ := ho.pre i x (by omega) hx
        exact ⟨k, x', hk, hx', hxl⟩
    have hkl := kids_len L x
    refine loop_by (fun q => q.2.2) (kids L x).length (fun n q => DI L r (fun y => (y = r ∨ ∃ (j : Nat) (x : Int), j < i ∧ out[j]? = some x ∧ (x, y) ∈ L) ∨ y ∈ (kids L x).take n) q.1 q.2.1) rfl (hI.congr fun y => by simp) ?_
    rintro K2 n ⟨deep2, most2, _⟩ rfl hn hI2 hK2
    simp only at hI2 hn
    show tree_Depth_l2 _ _ _ _ _ deep2 most2 (n : Int)
    unfold tree_Depth_l2
    rw [gi_nat hlt, hxx, hnx.at_]
    refine ⟨fun c2 => ?_, fun c2 => ⟨by unfold I64; omega, hK (i + 1) _ (by simp) (by omega) (by omega) (hI2.congr fun y => ?_)⟩⟩
    · have h2 : n < (kids L x).length := by omega
      rw [gi_nat h2]
      have hkm : (x, (kids L x)[n]) ∈ L := mem_kids.1 (List.getElem_mem h2)
      obtain ⟨hD, p, hp, hpl, hpe⟩ := hI2.step g (.inl hSx) hkm
      have hpp := hp.len_pos
      refine ⟨by omega, by unfold I64; omega, by unfold I64; omega, hK2 (n + 1) _ (by simp) (by omega) (by omega) (hD.congr fun y => ?_)⟩
      rw [List.take_succ_eq_append_getElem h2, List.mem_append, List.mem_singleton]
      exact or_assoc.symm
    · have hn' : n = (kids L x).length := by omega
      subst hn'
      rw [List.take_length]
      constructor
      · rintro (q | ⟨j, x', hj, hx', hl'⟩)
        · exact .inl (.inl q)
        · by_cases hji : j = i
          · subst hji; rw [hx] at hx'; injection hx' with hx'; subst hx'
            exact .inr (mem_kids.2 hl')
          · exact .inl (.inr ⟨j, x', by omega, hx', hl'⟩)
      · rintro ((q | ⟨j, x', hj, hx', hl'⟩) | q)
        · exact .inl q
        · exact .inr ⟨j, x', by omega, hx', hl'⟩
        · exact .inr ⟨i, x, by omega, hx, mem_kids.1 q⟩
  · have hi' : i = out.length := by omega
    subst hi'
    have all : ∀ x p, Pth L r x p → (x = r ∨ ∃ (j : Nat) (x' : Int), j < out.length ∧ out[j]? = some x' ∧ (x', x) ∈ L) := by
      intro x p hp
      cases hp with
      | root => exact .inl rfl
      | @step x' _ p' h' hl' =>
        obtain ⟨j, hj, e⟩ := List.getElem_of_mem ((ho.mem x').2 h'.rch)
        exact .inr ⟨j, x', hj, by rw [List.getElem?_eq_getElem hj, e], hl'⟩
    obtain ⟨y, q, hy, hq, e⟩ := hI.eq
    have hqp := hq.len_pos
    have hql := hq.len g
    have : most = ((q.length - 1 : Nat) : Int) := by omega
    rw [this]
    refine h _ (by omega) ⟨fun x p hp => ?_, y, q, hq, by omega⟩
    have := hI.le x p (all x p hp) hp
    omega
end Go.Wk
