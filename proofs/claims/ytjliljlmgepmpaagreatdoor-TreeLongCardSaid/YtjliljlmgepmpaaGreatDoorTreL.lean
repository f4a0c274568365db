/- TreeLong: how many nodes a tree may have. -/
import Derived.Test.YtjliljlmgepmpaaGreatDoorTreV
import Derived.Test.YtjliljlmgepmpaaGreatDoorTreL1
set_option linter.unusedSimpArgs false
set_option linter.unusedVariables false
set_option linter.unusedSectionVars false
namespace Go.Wk
open Go.HL
variable [DM]
theorem u8b {x : Int} (h : IntKind.min .u8 ≤ x ∧ x ≤ IntKind.max .u8) : 0 ≤ x ∧ x < 256 := ⟨h.1, Int.lt_of_le_of_lt h.2 (by decide)⟩
theorem nodesT_ok {r : Int} {L : List Br} {Q : List Int → Prop} (hl : L.length ≤ 100000) (h : ∀ l, l.Pairwise (· < ·) → IsR L r l → Q l) : tree_Nodes_W r L Q :=
  walk_ok hl fun out ho => by
    have := ho.toIsR.len_le
    exact rising_ok (by omega) ho.nd fun m hm hmem => h m hm ⟨rise_nodup hm, fun x => (hmem x).trans (ho.mem x)⟩
/-- A long branch, or a wide fan. -/
def lg (deep : Bool) (j : Nat) : Br := (if deep then (j : Int) else 0, (j : Int) + 1)
def lgL (deep : Bool) (k : Nat) : List Br := (List.range k).map (lg deep)
theorem lgL_len (deep : Bool) (k : Nat) : (lgL deep k).length = k := by unfold lgL; simp
theorem lgL_snoc (deep : Bool) (k : Nat) : lgL deep (k + 1) = lgL deep k ++ [lg deep k] := by unfold lgL; rw [List.range_succ, List.map_append]; rfl
theorem lgL_mem {deep : Bool} {k : Nat} {e : Br} : e ∈ lgL deep k ↔ ∃ j < k, e = lg deep j := by
  unfold lgL; rw [List.mem_map]
  constructor
  · rintro ⟨j, hj, rfl⟩; exact ⟨j, List.mem_range.1 hj, rfl⟩
  · rintro ⟨j, hj, rfl⟩; exact ⟨j, List.mem_range.2 hj, rfl⟩
theorem lgL_ris (deep : Bool) : ∀ k, (lgL deep k).Pairwise blt
  | 0 => List.Pairwise.nil
  | k + 1 => by
    rw [lgL_snoc, List.pairwise_append]
    refine ⟨lgL_ris deep k, List.pairwise_singleton _ _, fun a ha b hb => ?_⟩
    obtain ⟨j, hj, rfl⟩ := lgL_mem.1 ha
    rw [List.mem_singleton] at hb; subst hb
    unfold blt lg
    cases deep <;> simp <;> omega
theorem lgL_reach (deep : Bool) (k : Nat) : ∀ j, j < k → Rch (lgL deep k) 0 ((j : Int) + 1) := by
  intro j
  induction j with
  | zero =>
    intro h
    refine Rch.refl.step (x := 0) (lgL_mem.2 ⟨0, h, ?_⟩)
    unfold lg; cases deep <;> simp
  | succ j ih =>
    intro h
    cases deep with
    | true =>
      refine (ih (by omega)).step (lgL_mem.2 ⟨j + 1, h, ?_⟩)
      unfold lg; simp
    | false =>
      refine Rch.refl.step (x := 0) (lgL_mem.2 ⟨j + 1, h, ?_⟩)
      unfold lg; simp
theorem lgL_good (deep : Bool) {k : Nat} (hk : k < 256) : Gd 0 (lgL deep k) where
  root e he := by
    obtain ⟨j, _, rfl⟩ := lgL_mem.1 he
    unfold lg; simp only; omega
  ends := by
    unfold lgL
    rw [List.map_map, List.nodup_iff_pairwise_ne, List.pairwise_map]
    refine List.nodup_range.imp fun {a b} h e => h ?_
    simp only [Function.comp, lg] at e
    omega
  all e he := by
    obtain ⟨j, hj, rfl⟩ := lgL_mem.1 he
    exact lgL_reach deep k j hj
  ris := lgL_ris deep k
  few := by rw [lgL_len]; exact hk
theorem lgL_depth (deep : Bool) {k : Nat} (h0 : 1 ≤ k) (hk : k < 256) : DepthIs (lgL deep k) 0 (if deep then k else 1) := by
  have g := lgL_good deep hk
  obtain ⟨p, hp⟩ := (lgL_reach deep k (k - 1) (by omega)).pth
  have ek : ((k - 1 : Nat) : Int) + 1 = k := by omega
  rw [ek] at hp
  cases deep with
  | true =>
    have hf : ∀ {x : Int} {p : List Int}, Pth (lgL true k) 0 x p → p.length = x.toNat + 1 := fun h => h.len_fun (fun x => x.toNat + 1) (by decide) fun e he => by
      obtain ⟨j, _, rfl⟩ := lgL_mem.1 he
      simp only [lg, if_true]; omega
    refine ⟨fun x q hq => ?_, _, _, hp, by rw [hf hp]; simp⟩
    have := hq.len g.toGd0
    rw [lgL_len] at this
    simpa using this
  | false =>
    have hf : ∀ {x : Int} {p : List Int}, Pth (lgL false k) 0 x p → p.length = if x = 0 then 1 else 2 := fun h => h.len_fun (fun x => if x = 0 then 1 else 2) (by decide) fun e he => by
      obtain ⟨j, _, rfl⟩ := lgL_mem.1 he
      show (if (lg false j).2 = 0 then 1 else 2) = (if (lg false j).1 = 0 then 1 else 2) + 1
      have q2 : (lg false j).2 ≠ 0 := by unfold lg; simp only; omega
      rw [if_neg q2, if_pos (show (lg false j).1 = 0 from rfl)]
    refine ⟨fun x q hq => ?_, _, _, hp, ?_⟩
    · rw [hf hq]; split <;> simp
    · rw [hf hp, if_neg (by omega)]; simp
theorem treeLong_ok {n : Int} {deep : Bool} {Q : Bool → Prop} (hn : 0 ≤ n ∧ n < 256) (h : Q true) : law32_TreeLong_W n deep Q := by
  obtain ⟨m, rfl⟩ := Int.eq_ofNat_of_zero_le hn.1
  have e1 : ((m : Int).tmod 10) = ((m % 10 : Nat) : Int) := by rw [Int.tmod_eq_emod_of_nonneg (by omega)]; rfl
  have e2 : ((u8w ((m : Int).tmod 10)).toNat : Int) = ((m % 10 : Nat) : Int) := by rw [e1]; exact u8w_nat (by omega)
  have hd : m % 10 < 10 := Nat.mod_lt _ (by decide)
  unfold law32_TreeLong_W law32_TreeLong_l2
  simp only [e2]
  generalize hd' : m % 10 = d at *
  refine ⟨by rw [e1]; omega, by unfold I64; omega, by unfold I64; omega, ?_⟩
  refine ⟨fun s => ∃ i : Nat, 1 ≤ i ∧ i ≤ 250 + d ∧ s.2 = (i : Int) ∧ s.1 = lgL deep (i - 1), fun s => (260 - s.2).toNat, ⟨1, by omega, by omega, rfl, rfl⟩, ?_⟩
  rintro ⟨l, _⟩ ⟨i, hi1, hi2, rfl, hl⟩
  simp only at hl ⊢
  have hll : l.length = i - 1 := by rw [hl, lgL_len]
  refine ⟨fun c => ?_, fun c => ?_⟩
  · have step : ∀ b : Int, b = (if deep then (i : Int) - 1 else 0) → law32_TreeLong_j1 l (i : Int) (fun l_1 i_1 => (∃ i' : Nat, 1 ≤ i' ∧ i' ≤ 250 + d ∧ i_1 = (i' : Int) ∧ l_1 = lgL deep (i' - 1)) ∧ (260 - i_1).toNat < (260 - (i : Int)).toNat) b := by
      intro b hb
      refine ⟨by rw [hll]; simp only [List.length_cons, List.length_nil]; omega, by unfold I64; omega, ⟨i + 1, by omega, by omega, by omega, ?_⟩, by omega⟩
      rw [hl, hb, show i + 1 - 1 = (i - 1) + 1 by omega, lgL_snoc]
      congr 2
      unfold lg
      rw [show ((i - 1 : Nat) : Int) = (i : Int) - 1 by omega]
      cases deep <;> simp
    exact ⟨fun cd => ⟨by unfold I64; omega, step _ (by rw [cd]; rfl)⟩, fun cd => step _ (by rw [cd]; rfl)⟩
  · have hi : i = 250 + d := by omega
    subst hi
    by_cases hk : 256 < 250 + d
    · refine ⟨fun _ => ⟨fun _ => ⟨fun _ => ⟨fun _ => lives_ok h, fun c => absurd rfl c⟩, fun c => absurd rfl c⟩, fun c => by omega⟩, fun c => by omega⟩
    · refine of_ok (by omega) fun L' hp hs => ?_
      have hL : L' = lgL deep (250 + d - 1) := sorted_uniq (hl ▸ hp) hs (blt_weak (lgL_ris _ _))
      subst hL
      have g := lgL_good deep (k := 250 + d - 1) (by omega)
      refine ⟨fun _ => ⟨fun c => by omega, fun _ => ?_⟩, fun ng => absurd g ng⟩
      have fin : ∀ w : Int, w = (((if deep then 250 + d - 1 else 1 : Nat)) : Int) → law32_TreeLong_j3 (m : Int) Q 0 (lgL deep (250 + d - 1)) 0 w := by
        intro w hw
        unfold law32_TreeLong_j3
        rw [e2]
        refine ⟨fun _ => nodesT_ok (by rw [lgL_len]; omega) fun nd _ hnd => ⟨fun _ => depth_ok (by rw [lgL_len]; omega) g.toGd0 fun dd _ hdd => ?_, fun c => ?_⟩, fun c => absurd rfl c⟩
        · obtain rfl := hdd.uniq (lgL_depth deep (by omega) (by omega))
          exact ⟨fun _ => lives_ok h, fun c => absurd hw.symm c⟩
        · have := g.toGd0.len hnd
          rw [lgL_len] at this; omega
      exact ⟨fun cd => ⟨by unfold I64; omega, fin _ (by rw [cd]; simp; omega)⟩, fun cd => fin _ (by rw [cd]; simp)⟩
end Go.Wk
