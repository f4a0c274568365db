/- ajt of bytes: values, boxes that hold them, what they are equal to; slices of bytes and texts. -/
import Derived.Test.YtmbkoonblmfdpaaGreatRo
import Derived.Laws.BytesArg
import Derived.Laws.IdiomStrings
import Derived.ChangeKeysEq
set_option linter.unusedSimpArgs false
set_option linter.unusedVariables false
set_option linter.unusedSectionVars false
namespace Go.Wk
open Go.HL
variable [DM]
section
variable {P : Program} {n : Nat} {ops : Array Oper} {C : Heap -> Prop} {cs : Dy} {listed : Array Bool} {Q : kT -> Heap -> Prop} {f : kT} {h : Heap} {k fuel : Nat}
theorem _root_.Go.HL.HA.fr (l : List (Nat × Value)) (hl : Go.HL.Holds f l) (H : HA P n ops C cs fuel listed Q (abB f l) h) : HA P n ops C cs fuel listed Q f h := by
  rw [Rh l hl] at H; exact H
end
def ag5 (os : List Ow) (idx : List Nat) (n : Nat) : List Ow := idx.filterMap (fun i => os[i]?) ++ os.drop n
theorem PX {α : Type} {l : List α} : ∀ (idx : List Nat), (∀ i ∈ idx, i < l.length) -> ∀ j : Nat, (idx.filterMap (fun i : Nat => l[i]?))[j]? = (idx[j]?).bind fun i : Nat => l[i]?
  | [], _, j => by simp
  | i :: idx, h, j => by
    have hi : i < l.length := h i (by simp)
    rw [List.filterMap_cons, List.getElem?_eq_getElem hi]
    cases j with
    | zero => simp [List.getElem?_eq_getElem hi]
    | succ j => simpa using PX idx (fun k hk => h k (by simp [hk])) j
theorem St.bQ {F : Fz} {os os' : List Ow} {h : Heap} (hS : St F os h) (idx : List Nat) (n : Nat) (hB : (adS idx n && Nat.ble n os.length) = true) (hf : os' = ag5 os idx n) : St F os' h := by
  subst hf
  simp only [adS, Bool.and_eq_true, List.all_eq_true, decide_eq_true_eq, Nat.ble_eq, Nat.blt_eq] at hB
  obtain ⟨⟨h1, h2⟩, h3⟩ := hB
  have hlt : ∀ i ∈ idx, i < os.length := fun i hi => Nat.lt_of_lt_of_le (h1 i hi) h3
  have hlen : (idx.filterMap (fun i => os[i]?)).length = idx.length := by
    have key : ∀ idx : List Nat, (∀ i ∈ idx, i < os.length) -> (idx.filterMap (fun i => os[i]?)).length = idx.length := by
      intro idx
      induction idx with
      | nil => intro _; rfl
      | cons i idx ih =>
        intro h
        rw [List.filterMap_cons, List.getElem?_eq_getElem (h i (by simp))]
        simp only [List.length_cons]; rw [ih fun k hk => h k (by simp [hk])]
    exact key idx hlt
  refine hS.Ou n idx _ ?_ h2
  intro j q hq
  unfold ag5 at hq
  rcases Nat.lt_or_ge j idx.length with hj | hj
  · rw [List.getElem?_append_left (by omega), PX idx hlt, List.getElem?_eq_getElem hj] at hq
    exact .inl ⟨idx[j], List.getElem?_eq_getElem hj, h1 _ (List.getElem_mem hj), hq⟩
  · rw [List.getElem?_append_right (by omega), hlen, List.getElem?_drop] at hq
    exact .inr ⟨hj, hq⟩
abbrev Ba (n : Nat) := {l : List UInt8 // l.length = n}
instance aiL (n : Nat) : Inhabited (Ba n) := ⟨⟨List.replicate n 0, by simp⟩⟩
def b8 {n : Nat} (x : Ba n) (i : Int) : Int := ((gi x.1 i).toNat : Int)
theorem Qj {n : Nat} (x : Ba n) (i : Int) : 0 <= b8 x i /\ b8 x i < 256 := by
  unfold b8; have := (gi x.1 i).toNat_lt; omega
def NK (n : Nat) (l : List Int) : Ba n := ⟨(List.range n).map fun i => UInt8.ofNat (l.getD i 0).toNat, by simp⟩
def og {n : Nat} (x : Ba n) : List Value := (List.range n).map fun i => Value.int .u8 (b8 x (i : Nat))
theorem Q4 {n : Nat} (x : Ba n) : (og x).length = n := by simp [og]
def rng : List Int -> Prop
  | [] => True
  | t :: l => (0 <= t /\ t < 256) /\ rng l
theorem Z9 : ∀ {l : List Int} (h : rng l) {i : Nat} (hi : i < l.length), 0 <= l[i] /\ l[i] < 256
  | _ :: _, h, 0, _ => h.1
  | _ :: _, h, i + 1, hi => Z9 h.2 (by simpa using hi)
theorem agR {t : Int} (h : 0 <= t /\ t < 256) : ((UInt8.ofNat t.toNat).toNat : Int) = t := by
  rw [UInt8.toNat_ofNat']; have : t.toNat < 2 ^ 8 := by omega
  rw [Nat.mod_eq_of_lt this]; omega
theorem ah3 {n : Nat} {l : List Int} {i : Nat} (hi : i < n) (hl : i < l.length) (h : 0 <= l[i] /\ l[i] < 256) : b8 (NK n l) (i : Int) = l[i] := by
  unfold b8 NK
  rw [qB (by simpa using hi), List.getElem_map, List.getElem_range, List.getD_eq_getElem?_getD, List.getElem?_eq_getElem hl]
  exact agR h
theorem Wu {n : Nat} {l : List Int} (hl : l.length = n) (hr : rng l) : l.map (Value.int .u8) = og (NK n l) := by
  apply List.ext_getElem
  · simp [og, hl]
  · intro i h1 h2
    simp only [List.length_map] at h1
    simp only [og, List.getElem_map, List.getElem_range]
    rw [ah3 (by omega) h1 (Z9 hr h1)]
theorem Xi {n : Nat} {l : List Int} (hl : l.length = n) (hr : rng l) : Value.agg (l.map (Value.int .u8)).toArray = Value.agg (og (NK n l)).toArray := by rw [Wu hl hr]
theorem Ba.ajc {n : Nat} {x y : Ba n} (h : ∀ i : Nat, i < n -> b8 x (i : Int) = b8 y (i : Int)) : x = y := by
  apply Subtype.ext
  apply List.ext_getElem (by rw [x.2, y.2])
  intro i h1 h2
  have := h i (by rw [← x.2]; exact h1)
  unfold b8 at this
  rw [qB h1, qB h2] at this
  exact UInt8.toNat_inj.1 (by omega)
structure abt (P : Program) (T n E : Nat) : Prop where
  und : P.underlying T = some (.array n E)
  one : Ji P E
  u8 : P.underlying E = some (.int .u8)
  info : ∃ i, P.info? E = some i
  cells : P.cellsOf E = 1
section
variable {P : Program} {f : kT} {h : Heap} {ty : TypeId} {n E T : Nat}
theorem Vw {T n E : Nat} (hT : abt P T n E) (d : Nat) (a b : Ba n) (w : World) : ∀ (is : List Nat), (∀ i ∈ is, i < n) ->
    (Op.eqItems (d + 1) E 1 (og a).toArray (og b).toArray is).run P w = .ok (decide (∀ i ∈ is, b8 a (i : Nat) = b8 b (i : Nat))) w
  | [], _ => by simp [Op.eqItems]
  | i :: is, hi => by
    have h0 : i < n := hi i (by simp)
    have hp : ∀ x : Ba n, (part E (og x).toArray (i * 1)).run P w = .ok (.int .u8 (b8 x (i : Nat))) w := by
      intro x
      have : (og x).toArray[i * 1]? = some (.int .u8 (b8 x (i : Nat))) := by
        rw [List.getElem?_toArray, Nat.mul_one, List.getElem?_eq_getElem (by rw [Q4]; exact h0)]; simp [og]
      unfold part
      simp only [Sem.run_bind, hT.one.agg w, Result.andThen_ok, this]
      rfl
    have ih := Vw hT d a b w is fun j hj => hi j (by simp [hj])
    unfold Op.eqItems
    simp only [Sem.run_bind, hp, Result.andThen_ok, run_equalIn_int w d E .u8 .u8 _ _ hT.u8]
    by_cases e : b8 a (i : Nat) = b8 b (i : Nat)
    · simp only [e, beq_self_eq_true, Bool.not_true, Bool.false_eq_true, if_false, ih]
      congr 1; rw [Bool.eq_iff_iff]; simp [e]
    · have : (b8 a (i : Nat) == b8 b (i : Nat)) = false := by simpa using e
      simp only [this, Bool.not_false, if_true]
      simp [e]
theorem afe {T n E : Nat} (hT : abt P T n E) (d : Nat) (a b : Ba n) (w : World) : (Op.equalIn (d + 2) T (.agg (og a).toArray) (.agg (og b).toArray)).run P w = .ok (decide (a = b)) w := by
  obtain ⟨i, hi⟩ := hT.info
  rw [show d + 2 = (d + 1) + 1 from rfl, run_equalIn_array w (d + 1) _ _ hT.und hi, hT.cells, Vw hT d a b w (List.range n) (by simp)]
  congr 1; rw [Bool.eq_iff_iff]; simp only [decide_eq_true_eq]
  exact ⟨fun h => Ba.ajc fun i hi => h i (by simpa using hi), fun h => by subst h; simp⟩
structure Ya (P : Program) (t : Nat) (zc : Array Value) : Prop where
  run : ∀ (parts : Array (Nat × Value)) (cells : Array Value) (w : World), Instr.fill (fun i => some (i * 1, 1)) zc parts.toList = some cells -> (Instr.build t parts).run P w = .ok (.agg cells) w
theorem adN {t n E : Nat} {z : Value} {zc : Array Value} (hT : abt P t n E) (hz : ∀ w, (zeroValue t).run P w = .ok z w) (hzc : z.cells = zc) : Ya P t zc := by
  subst hzc
  refine ⟨fun parts cells w hf => ?_⟩
  unfold Instr.build
  simp only [Sem.run_bind, hz w, run_underlying hT.und, Result.andThen_ok, hT.one.size w, hf]
  rfl
theorem UL {t : Nat} {zc : Array Value} {lp : List (Nat × Operand)} {cells : Array Value} (hp : Ya P t zc)
    (hf : Instr.fill (fun i => some (i * 1, 1)) zc (lp.map fun x => (x.1, ev f x.2)) = some cells) : QV P (.build t lp.toArray) ty f h (.agg cells) := by
  intro dst pos after guard w _
  have : (lp.toArray.map fun x => (x.1, ev f x.2)) = (lp.map fun x => (x.1, ev f x.2)).toArray := by simp
  simp only [execOp]
  rw [show (fun (x : Nat × Operand) => match x with | (i, x) => (i, ev f x)) = fun x => (x.1, ev f x.2) from rfl, this]
  rw [Sem.run_bind, hp.run _ cells w (by simpa using hf)]
  rfl
theorem vC {x y : Operand} {b o : Nat} {kk : IntKind} {t : Int} (hT : abt P T n E) (hx : ev f x = .pointer (some ⟨b, o, none⟩)) (hy : ev f y = .int kk t) (hb : 0 <= t /\ t < (n : Int)) :
    QV P (.indexAddr T x y) ty f h (.pointer (some ⟨b, o + t.toNat, none⟩)) := by
  intro dst pos after guard w _
  simp [execOp, hx, hy, Instr.indexAt, asIntOf, run_underlying hT.und, Instr.sureAddr, hT.one.size w, hb, Dx, go_sem]
theorem seg_cell {b o : Nat} {c : Array Value} {TT : TypeId} {x : Ba n} {t : Int} (hB : dW h b (.cells c TT (0, 0))) (hs : (c.toList.drop o).take n = og x) (ht : 0 <= t /\ t < (n : Int)) : hcell h b (o + t.toNat) = some (.int .u8 (b8 x t)) := by
  have hl : t.toNat < (og x).length := by rw [Q4]; omega
  have := dW.cells (k := n) (cs := og x) hB hs t.toNat hl
  rw [this]; simp only [og, List.getElem_map, List.getElem_range]
  rw [show ((t.toNat : Nat) : Int) = t by omega]
theorem QA {x : Operand} {T' : TypeId} {b o : Nat} {c : Array Value} {TT : TypeId} {X : Ba n} {t : Int} (hT : Ji P T') (hx : ev f x = .pointer (some ⟨b, o + t.toNat, none⟩)) (hB : dW h b (.cells c TT (0, 0))) (hs : (c.toList.drop o).take n = og X) (ht : 0 <= t /\ t < (n : Int)) :
    QV P (.load T' x) ty f h (.int .u8 (b8 X t)) := bU hT hx (seg_cell hB hs ht)
theorem YW (off : Nat) : ∀ (vc : List Value) (k : Nat) (cs : Array Value), off + k + vc.length <= cs.size ->
    (vc.zipIdx k).foldl (fun cs (x : Value × Nat) => cs.setIfInBounds (off + x.2) x.1) cs = (cs.toList.take (off + k) ++ vc ++ cs.toList.drop (off + k + vc.length)).toArray
  | [], k, cs, h => by simp
  | v :: vc, k, cs, h => by
    simp only [List.length_cons] at h
    rw [List.zipIdx_cons, List.foldl_cons, YW off vc (k + 1) _ (by simp; omega)]
    apply congrArg List.toArray
    simp only [Array.toList_setIfInBounds, List.length_cons]
    have hl : off + k < cs.toList.length := by rw [Array.length_toList]; omega
    have e1 : (cs.toList.set (off + k) v).take (off + (k + 1)) = cs.toList.take (off + k) ++ [v] := by
      rw [List.set_eq_take_append_cons_drop, if_pos hl, List.take_append, List.length_take, Nat.min_eq_left (by omega), List.take_of_length_le (by rw [List.length_take]; omega), show off + (k + 1) - (off + k) = 1 by omega]
      rfl
    have e2 : (cs.toList.set (off + k) v).drop (off + (k + 1) + vc.length) = cs.toList.drop (off + k + (vc.length + 1)) := by
      rw [List.drop_set, if_pos (by omega)]; congr 1; omega
    rw [e1, e2]; simp
theorem iq {pl : Nat -> Option (Nat × Nat)} {cs cs' r : Array Value} {i off size : Nat} {v : Value} {rest : List (Nat × Value)} {vc : Array Value} (hp : pl i = some (off, size)) (hv : v.cells = vc) (hs : vc.size = size) (hle : off + size <= cs.size)
    (hc : (cs.toList.take off ++ vc.toList ++ cs.toList.drop (off + size)).toArray = cs') (hr : Instr.fill pl cs' rest = some r) : Instr.fill pl cs ((i, v) :: rest) = some r := by
  subst hv; subst hs
  unfold Instr.fill
  rw [hp]
  simp only [ne_eq, not_true_eq_false, gt_iff_lt, Nat.not_lt.2 hle, decide_false, Bool.or_false, Bool.false_eq_true, if_false]
  rw [← hr, ← hc]
  congr 1
  rw [← Array.foldl_toList, Array.toList_zipIdx]
  have := YW off v.cells.toList 0 cs (by simpa using hle)
  simpa using this
def Lu (u : UInt8) : List Value := [.int .u8 (u.toNat : Int)]
def X5 (b o n : Nat) (lo hi : Int) : Value := .slice (some ⟨b, if n = lo.toNat then o else o + lo.toNat, none⟩) (hi.toNat - lo.toNat) (n - lo.toNat)
theorem adv {b o : Nat} {c : Array Value} {TT : TypeId} {X : Ba n} {lo hi : Int} (hB : dW h b (.cells c TT (0, 0))) (hs : (c.toList.drop o).take n = og X) (hb : 0 <= lo /\ lo <= hi /\ hi <= (n : Int)) (hn : n <= 9223372036854775807) : gY h 1 Lu (X5 b o n lo hi) (cut X.1 lo hi) := by
  have hx := X.2
  have hl : (cut X.1 lo hi).length = hi.toNat - lo.toNat := by unfold cut; rw [List.length_drop, List.length_take]; omega
  refine ⟨⟨_, n - lo.toNat, by rw [hl]; rfl, by omega, by omega, ?_⟩, fun _ _ => rfl⟩
  by_cases he : cut X.1 lo hi = []
  · exact .inl he
  · right
    have hp : 0 < (cut X.1 lo hi).length := List.length_pos_iff.2 he
    refine ⟨b, o + lo.toNat, by rw [if_neg (by omega)], hB.lt, ?_⟩
    intro i hi' j hj
    have hj0 : j = 0 := by simp [Lu] at hj; exact hj
    subst hj0
    have := seg_cell (o := o) hB hs (t := ((lo.toNat + i : Nat) : Int)) ⟨by omega, by omega⟩
    rw [Int.toNat_natCast] at this
    rw [Nat.mul_one, Nat.add_zero, Nat.add_assoc, this]
    have h1 : lo.toNat + i < X.1.length := by omega
    have h2 : (cut X.1 lo hi)[i] = X.1[lo.toNat + i] := by simp only [cut, List.getElem_drop, List.getElem_take]
    simp only [Lu, h2, List.getElem_cons_zero, Option.some.injEq, Value.int.injEq, true_and]
    unfold b8; rw [qB h1]
theorem UG {x : Operand} {y z : Option Operand} {b o : Nat} {lo hi : Int} {kl kh : IntKind} (hT : abt P T n E) (hx : ev f x = .pointer (some ⟨b, o, none⟩)) (hy : (y = none /\ lo = 0) ∨ ∃ y', y = some y' /\ ev f y' = .int kl lo) (hz : (z = none /\ hi = (n : Int)) ∨ ∃ z', z = some z' /\ ev f z' = .int kh hi)
    (hb : 0 <= lo /\ lo <= hi /\ hi <= (n : Int)) : QV P (.slice T x y z none) ty f h (X5 b o n lo hi) := by
  intro dst pos after guard w _
  have h1 : lo <= ((hi.toNat : Nat) : Int) := by omega
  have h0 : 0 <= hi := by omega
  have h2 : lo <= max hi 0 := by omega
  rcases hy with ⟨rfl, rfl⟩ | ⟨y', rfl, hy⟩ <;> rcases hz with ⟨rfl, rfl⟩ | ⟨z', rfl, hz⟩
  · simp [execOp, hx, Instr.sliceAt, run_underlying hT.und, Instr.sureAddr, Instr.sliceBounds, hT.one.size w, X5, Dx, go_sem]
    all_goals (try (by_cases e : n = lo.toNat <;> simp_all))
  · simp [execOp, hx, hz, Instr.sliceAt, run_underlying hT.und, Instr.sureAddr, Instr.sliceBounds, Instr.sliceBound, asIntOf, hT.one.size w, X5, Dx, hb, go_sem]
    all_goals (try (by_cases e : n = lo.toNat <;> simp_all))
  · simp [execOp, hx, hy, Instr.sliceAt, run_underlying hT.und, Instr.sureAddr, Instr.sliceBounds, Instr.sliceBound, asIntOf, hT.one.size w, X5, Dx, hb, go_sem]
    all_goals (try (by_cases e : n = lo.toNat <;> simp_all))
  · simp [execOp, hx, hy, hz, Instr.sliceAt, run_underlying hT.und, Instr.sureAddr, Instr.sliceBounds, Instr.sliceBound, asIntOf, hT.one.size w, X5, Dx, hb, h0, h1, h2, go_sem]
    all_goals (try (by_cases e : n = lo.toNat <;> simp_all))
theorem Na {src dst E : TypeId} {x : Operand} {v : Value} {l : Str} (hT : Ed P src E 1) (he : P.underlying E = some (.int .u8)) (hd : P.underlying dst = some .string) (hS : gY h 1 Lu v l) (hx : ev f x = v) :
    QV P (.convert src dst x) ty f h (.string (bs l)) := by
  intro dd pos after guard w hw
  obtain ⟨⟨a, cap, rfl, hc1, hc2, h3⟩, h4⟩ := hS
  simp only [execOp, hx]
  have key : (convert src dst (.slice a l.length cap)).run P w = .ok (.string (bs l)) w := by
    cases a with
    | none =>
      have hl : l = [] := by
        rcases h3 with h3 | ⟨b, off, h, _⟩
        · exact h3
        · cases h
      subst hl
      exact run_convert_bytes_nil w src E hT.und he 0 cap dst hd
    | some a =>
      refine (run_convert_bytes_back w src dst E a cap l hT.und he hd ?_).trans ?_
      · intro j hj
        rcases h3 with h3 | ⟨b, off, ha, hb, hr⟩
        · subst h3; simp at hj
        · cases ha
          have := hr j hj 0 (by simp [Lu])
          rw [Dx, Pj, hw]
          simpa [Lu] using this
      · rfl
  rw [Sem.run_bind, key]; rfl
end
end Go.Wk
