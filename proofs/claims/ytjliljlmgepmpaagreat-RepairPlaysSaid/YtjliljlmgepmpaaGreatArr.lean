/- Arrays of bytes: values, boxes that hold them, what they are equal to; slices of bytes and texts. -/
import Derived.Test.YtjliljlmgepmpaaGreatRo
import Derived.Laws.BytesArg
import Derived.Laws.IdiomStrings
import Derived.ChangeKeysEq
set_option linter.unusedSimpArgs false
set_option linter.unusedVariables false
set_option linter.unusedSectionVars false
namespace Go.Wk
open Go.HL
variable [DM]
section
variable {P : Program} {n : Nat} {ops : Array Oper} {C : Heap → Prop} {cs : Conds} {listed : Array Bool} {Q : Slots → Heap → Prop} {f : Slots} {h : Heap} {k fuel : Nat}
theorem _root_.Go.HL.HA.node {ι : Type} {C1 : ι → Heap → Prop} {cs1 : ι → Conds} {fuel1 : Nat} {listed1 : Array Bool} (M : ι → Slots → Heap → Prop)
    (mid : ∀ i f h, M i f h → HA P n ops (C1 i) (cs1 i) fuel1 listed1 Q f h) (now : (∀ i f h, M i f h → HA P n ops (C1 i) (cs1 i) fuel1 listed1 Q f h) → HA P n ops C cs fuel listed Q f h) : HA P n ops C cs fuel listed Q f h := now mid
theorem _root_.Go.HL.HA.fr (l : List (Nat × Value)) (hl : Go.HL.Holds f l) (H : HA P n ops C cs fuel listed Q (updL f l) h) : HA P n ops C cs fuel listed Q f h := by
  rw [updL_self l hl] at H; exact H
end
def selG (os : List Ow) (idx : List Nat) (n : Nat) : List Ow := idx.filterMap (fun i => os[i]?) ++ os.drop n
theorem filterMap_get {α : Type} {l : List α} : ∀ (idx : List Nat), (∀ i ∈ idx, i < l.length) → ∀ j : Nat, (idx.filterMap (fun i : Nat => l[i]?))[j]? = (idx[j]?).bind fun i : Nat => l[i]?
  | [], _, j => by simp
  | i :: idx, h, j => by
    have hi : i < l.length := h i (by simp)
    rw [List.filterMap_cons, List.getElem?_eq_getElem hi]
    cases j with
    | zero => simp [List.getElem?_eq_getElem hi]
    | succ j => simpa using filterMap_get idx (fun k hk => h k (by simp [hk])) j
theorem St.perm2 {F : Fz} {os os' : List Ow} {h : Heap} (hS : St F os h) (idx : List Nat) (n : Nat) (hB : (selB idx n && Nat.ble n os.length) = true) (hf : os' = selG os idx n) : St F os' h := by
  subst hf
  simp only [selB, Bool.and_eq_true, List.all_eq_true, decide_eq_true_eq, Nat.ble_eq, Nat.blt_eq] at hB
  obtain ⟨⟨h1, h2⟩, h3⟩ := hB
  have hlt : ∀ i ∈ idx, i < os.length := fun i hi => Nat.lt_of_lt_of_le (h1 i hi) h3
  have hlen : (idx.filterMap (fun i => os[i]?)).length = idx.length := by
    have key : ∀ idx : List Nat, (∀ i ∈ idx, i < os.length) → (idx.filterMap (fun i => os[i]?)).length = idx.length := by
      intro idx
      induction idx with
      | nil => intro _; rfl
      | cons i idx ih =>
        intro h
        rw [List.filterMap_cons, List.getElem?_eq_getElem (h i (by simp))]
        simp only [List.length_cons]; rw [ih fun k hk => h k (by simp [hk])]
    exact key idx hlt
  refine hS.sel n idx _ ?_ h2
  intro j q hq
  unfold selG at hq
  rcases Nat.lt_or_ge j idx.length with hj | hj
  · rw [List.getElem?_append_left (by omega), filterMap_get idx hlt, List.getElem?_eq_getElem hj] at hq
    exact .inl ⟨idx[j], List.getElem?_eq_getElem hj, h1 _ (List.getElem_mem hj), hq⟩
  · rw [List.getElem?_append_right (by omega), hlen, List.getElem?_drop] at hq
    exact .inr ⟨hj, hq⟩
abbrev Ba (n : Nat) := {l : List UInt8 // l.length = n}
instance instBa (n : Nat) : Inhabited (Ba n) := ⟨⟨List.replicate n 0, by simp⟩⟩
section
variable {P : Program} {f : Slots} {h : Heap} {ty : TypeId} {n E T : Nat}
theorem fold_set (off : Nat) : ∀ (vc : List Value) (k : Nat) (cs : Array Value), off + k + vc.length ≤ cs.size →
    (vc.zipIdx k).foldl (fun cs (x : Value × Nat) => cs.setIfInBounds (off + x.2) x.1) cs = (cs.toList.take (off + k) ++ vc ++ cs.toList.drop (off + k + vc.length)).toArray
  | [], k, cs, h => by simp
  | v :: vc, k, cs, h => by
    simp only [List.length_cons] at h
    rw [List.zipIdx_cons, List.foldl_cons, fold_set off vc (k + 1) _ (by simp; omega)]
    apply congrArg List.toArray
    simp only [Array.toList_setIfInBounds, List.length_cons]
    have hl : off + k < cs.toList.length := by rw [Array.length_toList]; omega
    have e1 : (cs.toList.set (off + k) v).take (off + (k + 1)) = cs.toList.take (off + k) ++ [v] := by
      rw [List.set_eq_take_append_cons_drop, if_pos hl, List.take_append, List.length_take, Nat.min_eq_left (by omega), List.take_of_length_le (by rw [List.length_take]; omega), show off + (k + 1) - (off + k) = 1 by omega]
      rfl
    have e2 : (cs.toList.set (off + k) v).drop (off + (k + 1) + vc.length) = cs.toList.drop (off + k + (vc.length + 1)) := by
      rw [List.drop_set, if_pos (by omega)]; congr 1; omega
    rw [e1, e2]; simp
theorem fill_cons {pl : Nat → Option (Nat × Nat)} {cs cs' r : Array Value} {i off size : Nat} {v : Value} {rest : List (Nat × Value)} {vc : Array Value} (hp : pl i = some (off, size)) (hv : v.cells = vc) (hs : vc.size = size) (hle : off + size ≤ cs.size)
    (hc : (cs.toList.take off ++ vc.toList ++ cs.toList.drop (off + size)).toArray = cs') (hr : Instr.fill pl cs' rest = some r) : Instr.fill pl cs ((i, v) :: rest) = some r := by
  subst hv; subst hs
  unfold Instr.fill
  rw [hp]
  simp only [ne_eq, not_true_eq_false, gt_iff_lt, Nat.not_lt.2 hle, decide_false, Bool.or_false, Bool.false_eq_true, if_false]
  rw [← hr, ← hc]
  congr 1
  rw [← Array.foldl_toList, Array.toList_zipIdx]
  have := fold_set off v.cells.toList 0 cs (by simpa using hle)
  simpa using this
def enc8 (u : UInt8) : List Value := [.int .u8 (u.toNat : Int)]
end
end Go.Wk
