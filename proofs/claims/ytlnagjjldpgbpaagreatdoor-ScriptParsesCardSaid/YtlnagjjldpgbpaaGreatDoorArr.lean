/- bjd of bytes: values, boxes that hold them, what they are equal to; slices of bytes and texts. -/
import Derived.Test.YtlnagjjldpgbpaaGreatDoorRo
import Derived.Laws.BytesArg
import Derived.Laws.IdiomStrings
import Derived.ChangeKeysEq
set_option linter.unusedSimpArgs false
set_option linter.unusedVariables false
set_option linter.unusedSectionVars false
namespace Go.Wk
open Go.HL
variable [DM]
section
variable {P : Program} {n : Nat} {ops : Array Oper} {C : Heap -> Prop} {cs : aoo} {listed : Array Bool} {Q : xh -> Heap -> Prop} {f : xh} {h : Heap} {k fuel : Nat}
theorem _root_.Go.HL.HA.fr (l : List (Nat × Value)) (hl : Go.HL.Holds f l) (H : HA P n ops C cs fuel listed Q (a6n f l) h) : HA P n ops C cs fuel listed Q f h := by
  rw [atx l hl] at H; exact H
end
def bfb (os : List Ow) (idx : List Nat) (n : Nat) : List Ow := idx.filterMap (fun i => os[i]?) ++ os.drop n
theorem ash {α : Type} {l : List α} : ∀ (idx : List Nat), (∀ i ∈ idx, i < l.length) -> ∀ j : Nat, (idx.filterMap (fun i : Nat => l[i]?))[j]? = (idx[j]?).bind fun i : Nat => l[i]?
  | [], _, j => by simp
  | i :: idx, h, j => by
    have hi : i < l.length := h i (by simp)
    rw [List.filterMap_cons, List.getElem?_eq_getElem hi]
    cases j with
    | zero => simp [List.getElem?_eq_getElem hi]
    | succ j => simpa using ash idx (fun k hk => h k (by simp [hk])) j
theorem St.jd {F : Fz} {os os' : List Ow} {h : Heap} (hS : St F os h) (idx : List Nat) (n : Nat) (hB : (bfc idx n && Nat.ble n os.length) = true) (hf : os' = bfb os idx n) : St F os' h := by
  subst hf
  simp only [bfc, Bool.and_eq_true, List.all_eq_true, decide_eq_true_eq, Nat.ble_eq, Nat.blt_eq] at hB
  obtain ⟨⟨h1, h2⟩, h3⟩ := hB
  have hlt : ∀ i ∈ idx, i < os.length := fun i hi => Nat.lt_of_lt_of_le (h1 i hi) h3
  have hlen : (idx.filterMap (fun i => os[i]?)).length = idx.length := by
    have key : ∀ idx : List Nat, (∀ i ∈ idx, i < os.length) -> (idx.filterMap (fun i => os[i]?)).length = idx.length := by
      intro idx
      induction idx with
      | nil => intro _; rfl
      | cons i idx ih =>
        intro h
        rw [List.filterMap_cons, List.getElem?_eq_getElem (h i (by simp))]
        simp only [List.length_cons]; rw [ih fun k hk => h k (by simp [hk])]
    exact key idx hlt
  refine hS.sel n idx _ ?_ h2
  intro j q hq
  unfold bfb at hq
  rcases Nat.lt_or_ge j idx.length with hj | hj
  · rw [List.getElem?_append_left (by omega), ash idx hlt, List.getElem?_eq_getElem hj] at hq
    exact .inl ⟨idx[j], List.getElem?_eq_getElem hj, h1 _ (List.getElem_mem hj), hq⟩
  · rw [List.getElem?_append_right (by omega), hlen, List.getElem?_drop] at hq
    exact .inr ⟨hj, hq⟩
abbrev Ba (n : Nat) := {l : List UInt8 // l.length = n}
instance bh8 (n : Nat) : Inhabited (Ba n) := ⟨⟨List.replicate n 0, by simp⟩⟩
def b8 {n : Nat} (x : Ba n) (i : Int) : Int := ((gi x.1 i).toNat : Int)
theorem azd (u : UInt8) : 0 <= ((u.toNat : Nat) : Int) /\ ((u.toNat : Nat) : Int) < 256 := by have := u.toNat_lt; omega
theorem axu {n : Nat} (x : Ba n) (i : Int) : 0 <= b8 x i /\ b8 x i < 256 := by
  unfold b8; have := (gi x.1 i).toNat_lt; omega
def mkB (n : Nat) (l : List Int) : Ba n := ⟨(List.range n).map fun i => UInt8.ofNat (l.getD i 0).toNat, by simp⟩
def setB {n : Nat} (x : Ba n) (i v : Int) : Ba n := ⟨x.1.set i.toNat (UInt8.ofNat v.toNat), by simp [x.2]⟩
def jg {n : Nat} (x : Ba n) : List Value := (List.range n).map fun i => Value.int .u8 (b8 x (i : Nat))
theorem ag2 {n : Nat} (x : Ba n) : (jg x).length = n := by simp [jg]
def rng : List Int -> Prop
  | [] => True
  | t :: l => (0 <= t /\ t < 256) /\ rng l
theorem a3j : ∀ {l : List Int} (h : rng l) {i : Nat} (hi : i < l.length), 0 <= l[i] /\ l[i] < 256
  | _ :: _, h, 0, _ => h.1
  | _ :: _, h, i + 1, hi => a3j h.2 (by simpa using hi)
theorem bbo {t : Int} (h : 0 <= t /\ t < 256) : ((UInt8.ofNat t.toNat).toNat : Int) = t := by
  rw [UInt8.toNat_ofNat']; have : t.toNat < 2 ^ 8 := by omega
  rw [Nat.mod_eq_of_lt this]; omega
theorem bhk {n : Nat} {l : List Int} {i : Nat} (hi : i < n) (hl : i < l.length) (h : 0 <= l[i] /\ l[i] < 256) : b8 (mkB n l) (i : Int) = l[i] := by
  unfold b8 mkB
  rw [y7 (by simpa using hi), List.getElem_map, List.getElem_range, List.getD_eq_getElem?_getD, List.getElem?_eq_getElem hl]
  exact bbo h
theorem a5o {n : Nat} {l : List Int} (hl : l.length = n) (hr : rng l) : l.map (Value.int .u8) = jg (mkB n l) := by
  apply List.ext_getElem
  · simp [jg, hl]
  · intro i h1 h2
    simp only [List.length_map] at h1
    simp only [jg, List.getElem_map, List.getElem_range]
    rw [bhk (by omega) h1 (a3j hr h1)]
theorem a3y {n : Nat} {l : List Int} (hl : l.length = n) (hr : rng l) : Value.agg (l.map (Value.int .u8)).toArray = Value.agg (jg (mkB n l)).toArray := by rw [a5o hl hr]
theorem bev {n : Nat} {x : Ba n} {t u : Int} (ht : 0 <= t /\ t < (n : Int)) (hu : 0 <= u /\ u < 256) (i : Nat) (hi : i < n) : b8 (setB x t u) (i : Int) = if (i : Int) = t then u else b8 x (i : Int) := by
  unfold b8 setB
  have hx := x.2
  rw [y7 (by simpa [hx] using hi), y7 (by omega), List.getElem_set]
  by_cases e : (i : Int) = t
  · rw [if_pos (by omega), if_pos e]; exact bbo hu
  · rw [if_neg (by omega), if_neg e]
theorem a1s {n : Nat} {x : Ba n} {t u : Int} (ht : 0 <= t /\ t < (n : Int)) (hu : 0 <= u /\ u < 256) : (jg x).set t.toNat (.int .u8 u) = jg (setB x t u) := by
  apply List.ext_getElem
  · simp [jg]
  · intro i h1 h2
    simp only [List.length_set, ag2] at h1
    simp only [List.getElem_set, jg, List.getElem_map, List.getElem_range]
    rw [bev ht hu i h1]
    by_cases e : (i : Int) = t
    · rw [if_pos (by omega), if_pos e]
    · rw [if_neg (by omega), if_neg e]
theorem Ba.bix {n : Nat} {x y : Ba n} (h : ∀ i : Nat, i < n -> b8 x (i : Int) = b8 y (i : Int)) : x = y := by
  apply Subtype.ext
  apply List.ext_getElem (by rw [x.2, y.2])
  intro i h1 h2
  have := h i (by rw [← x.2]; exact h1)
  unfold b8 at this
  rw [y7 h1, y7 h2] at this
  exact UInt8.toNat_inj.1 (by omega)
structure a1h (P : Program) (T n E : Nat) : Prop where
  und : P.underlying T = some (.array n E)
  one : aqz P E
  u8 : P.underlying E = some (.int .u8)
  info : ∃ i, P.info? E = some i
  cells : P.cellsOf E = 1
section
variable {P : Program} {f : xh} {h : Heap} {ty : TypeId} {n E T : Nat}
theorem axc {T n E : Nat} (hT : a1h P T n E) (d : Nat) (a b : Ba n) (w : World) : ∀ (is : List Nat), (∀ i ∈ is, i < n) ->
    (Op.eqItems (d + 1) E 1 (jg a).toArray (jg b).toArray is).run P w = .ok (decide (∀ i ∈ is, b8 a (i : Nat) = b8 b (i : Nat))) w
  | [], _ => by simp [Op.eqItems]
  | i :: is, hi => by
    have h0 : i < n := hi i (by simp)
    have hp : ∀ x : Ba n, (part E (jg x).toArray (i * 1)).run P w = .ok (.int .u8 (b8 x (i : Nat))) w := by
      intro x
      have : (jg x).toArray[i * 1]? = some (.int .u8 (b8 x (i : Nat))) := by
        rw [List.getElem?_toArray, Nat.mul_one, List.getElem?_eq_getElem (by rw [ag2]; exact h0)]; simp [jg]
      unfold part
      simp only [Sem.run_bind, hT.one.agg w, Result.andThen_ok, this]
      rfl
    have ih := axc hT d a b w is fun j hj => hi j (by simp [hj])
    unfold Op.eqItems
    simp only [Sem.run_bind, hp, Result.andThen_ok, run_equalIn_int w d E .u8 .u8 _ _ hT.u8]
    by_cases e : b8 a (i : Nat) = b8 b (i : Nat)
    · simp only [e, beq_self_eq_true, Bool.not_true, Bool.false_eq_true, if_false, ih]
      congr 1; rw [Bool.eq_iff_iff]; simp [e]
    · have : (b8 a (i : Nat) == b8 b (i : Nat)) = false := by simpa using e
      simp only [this, Bool.not_false, if_true]
      simp [e]
theorem bc5 {T n E : Nat} (hT : a1h P T n E) (d : Nat) (a b : Ba n) (w : World) : (Op.equalIn (d + 2) T (.agg (jg a).toArray) (.agg (jg b).toArray)).run P w = .ok (decide (a = b)) w := by
  obtain ⟨i, hi⟩ := hT.info
  rw [show d + 2 = (d + 1) + 1 from rfl, run_equalIn_array w (d + 1) _ _ hT.und hi, hT.cells, axc hT d a b w (List.range n) (by simp)]
  congr 1; rw [Bool.eq_iff_iff]; simp only [decide_eq_true_eq]
  exact ⟨fun h => Ba.bix fun i hi => h i (by simpa using hi), fun h => by subst h; simp⟩
structure az6 (P : Program) (t : Nat) (zc : Array Value) : Prop where
  run : ∀ (parts : Array (Nat × Value)) (cells : Array Value) (w : World), Instr.fill (fun i => some (i * 1, 1)) zc parts.toList = some cells -> (Instr.build t parts).run P w = .ok (.agg cells) w
theorem bac {t n E : Nat} {z : Value} {zc : Array Value} (hT : a1h P t n E) (hz : ∀ w, (zeroValue t).run P w = .ok z w) (hzc : z.cells = zc) : az6 P t zc := by
  subst hzc
  refine ⟨fun parts cells w hf => ?_⟩
  unfold Instr.build
  simp only [Sem.run_bind, hz w, run_underlying hT.und, Result.andThen_ok, hT.one.size w, hf]
  rfl
theorem a0p {t : Nat} {zc : Array Value} {lp : List (Nat × Operand)} {cells : Array Value} (hp : az6 P t zc)
    (hf : Instr.fill (fun i => some (i * 1, 1)) zc (lp.map fun x => (x.1, ev f x.2)) = some cells) : QV P (.build t lp.toArray) ty f h (.agg cells) := by
  intro dst pos after guard w _
  have : (lp.toArray.map fun x => (x.1, ev f x.2)) = (lp.map fun x => (x.1, ev f x.2)).toArray := by simp
  simp only [execOp]
  rw [show (fun (x : Nat × Operand) => match x with | (i, x) => (i, ev f x)) = fun x => (x.1, ev f x.2) from rfl, this]
  rw [Sem.run_bind, hp.run _ cells w (by simpa using hf)]
  rfl
theorem adb {x y : Operand} {b o : Nat} {kk : IntKind} {t : Int} (hT : a1h P T n E) (hx : ev f x = .pointer (some ⟨b, o, none⟩)) (hy : ev f y = .int kk t) (hb : 0 <= t /\ t < (n : Int)) :
    QV P (.indexAddr T x y) ty f h (.pointer (some ⟨b, o + t.toNat, none⟩)) := by
  intro dst pos after guard w _
  simp [execOp, hx, hy, Instr.indexAt, asIntOf, run_underlying hT.und, Instr.sureAddr, hT.one.size w, hb, akg, go_sem]
theorem seg_cell {b o : Nat} {c : Array Value} {TT : TypeId} {x : Ba n} {t : Int} (hB : Blk h b (.cells c TT (0, 0))) (hs : (c.toList.drop o).take n = jg x) (ht : 0 <= t /\ t < (n : Int)) : hcell h b (o + t.toNat) = some (.int .u8 (b8 x t)) := by
  have hl : t.toNat < (jg x).length := by rw [ag2]; omega
  have := Blk.cells (k := n) (cs := jg x) hB hs t.toNat hl
  rw [this]; simp only [jg, List.getElem_map, List.getElem_range]
  rw [show ((t.toNat : Nat) : Int) = t by omega]
theorem ahy {x : Operand} {T' : TypeId} {b o : Nat} {c : Array Value} {TT : TypeId} {X : Ba n} {t : Int} (hT : aqz P T') (hx : ev f x = .pointer (some ⟨b, o + t.toNat, none⟩)) (hB : Blk h b (.cells c TT (0, 0))) (hs : (c.toList.drop o).take n = jg X) (ht : 0 <= t /\ t < (n : Int)) :
    QV P (.load T' x) ty f h (.int .u8 (b8 X t)) := kz hT hx (seg_cell hB hs ht)
theorem aor {T' : TypeId} {x y : Operand} {b o : Nat} {c c' : Array Value} {E' : Nat} {F : Fz} {os : List Ow} {i : Nat} {X : Ba n} {t u : Int} (hS : St F os h) (hi : os[i]? = some (Ow.box b E' c)) (hT : aqz P T')
    (hx : ev f x = .pointer (some ⟨b, o + t.toNat, none⟩)) (hy : ev f y = .int .u8 u) (ht : 0 <= t /\ t < (n : Int)) (hu : 0 <= u /\ u < 256) (hs : (c.toList.drop o).take n = jg X) (hc : (c.toList.take o ++ jg (setB X t u) ++ c.toList.drop (o + n)).toArray = c') :
    ES P (.store T' x y) ty f h (fun h' => St F (os.set i (Ow.box b E' c')) h' /\ Kp F h F h') := by
  have hlen : o + n <= c.size := by
    have := congrArg List.length hs
    rw [ag2, List.length_take, List.length_drop, Array.length_toList] at this
    omega
  refine abb hS hi hT hx hy rfl rfl (by omega) ?_
  subst hc
  apply Array.ext'
  rw [Array.toList_setIfInBounds]
  have hc0 : c.toList = c.toList.take o ++ jg X ++ c.toList.drop (o + n) := by
    rw [← hs, ← List.drop_drop, List.append_assoc, List.take_append_drop, List.take_append_drop]
  rw [← a1s ht hu]
  conv => lhs; rw [hc0]
  have hto : (c.toList.take o).length = o := by rw [List.length_take, Array.length_toList]; omega
  rw [List.append_assoc, List.set_append_right _ _ (by rw [hto]; omega), hto, Nat.add_sub_cancel_left, List.set_append_left _ _ (by rw [ag2]; omega), List.append_assoc]
theorem a04 (off : Nat) : ∀ (vc : List Value) (k : Nat) (cs : Array Value), off + k + vc.length <= cs.size ->
    (vc.zipIdx k).foldl (fun cs (x : Value × Nat) => cs.setIfInBounds (off + x.2) x.1) cs = (cs.toList.take (off + k) ++ vc ++ cs.toList.drop (off + k + vc.length)).toArray
  | [], k, cs, h => by simp
  | v :: vc, k, cs, h => by
    simp only [List.length_cons] at h
    rw [List.zipIdx_cons, List.foldl_cons, a04 off vc (k + 1) _ (by simp; omega)]
    apply congrArg List.toArray
    simp only [Array.toList_setIfInBounds, List.length_cons]
    have hl : off + k < cs.toList.length := by rw [Array.length_toList]; omega
    have e1 : (cs.toList.set (off + k) v).take (off + (k + 1)) = cs.toList.take (off + k) ++ [v] := by
      rw [List.set_eq_take_append_cons_drop, if_pos hl, List.take_append, List.length_take, Nat.min_eq_left (by omega), List.take_of_length_le (by rw [List.length_take]; omega), show off + (k + 1) - (off + k) = 1 by omega]
      rfl
    have e2 : (cs.toList.set (off + k) v).drop (off + (k + 1) + vc.length) = cs.toList.drop (off + k + (vc.length + 1)) := by
      rw [List.drop_set, if_pos (by omega)]; congr 1; omega
    rw [e1, e2]; simp
theorem an8 {pl : Nat -> Option (Nat × Nat)} {cs cs' r : Array Value} {i off size : Nat} {v : Value} {rest : List (Nat × Value)} {vc : Array Value} (hp : pl i = some (off, size)) (hv : v.cells = vc) (hs : vc.size = size) (hle : off + size <= cs.size)
    (hc : (cs.toList.take off ++ vc.toList ++ cs.toList.drop (off + size)).toArray = cs') (hr : Instr.fill pl cs' rest = some r) : Instr.fill pl cs ((i, v) :: rest) = some r := by
  subst hv; subst hs
  unfold Instr.fill
  rw [hp]
  simp only [ne_eq, not_true_eq_false, gt_iff_lt, Nat.not_lt.2 hle, decide_false, Bool.or_false, Bool.false_eq_true, if_false]
  rw [← hr, ← hc]
  congr 1
  rw [← Array.foldl_toList, Array.toList_zipIdx]
  have := a04 off v.cells.toList 0 cs (by simpa using hle)
  simpa using this
def ah4 (u : UInt8) : List Value := [.int .u8 (u.toNat : Int)]
def arw (b o n : Nat) (lo hi : Int) : Value := .slice (some ⟨b, if n = lo.toNat then o else o + lo.toNat, none⟩) (hi.toNat - lo.toNat) (n - lo.toNat)
theorem ay8 {b o : Nat} {c : Array Value} {TT : TypeId} {X : Ba n} {lo hi : Int} (hB : Blk h b (.cells c TT (0, 0))) (hs : (c.toList.drop o).take n = jg X) (hb : 0 <= lo /\ lo <= hi /\ hi <= (n : Int)) (hn : n <= 9223372036854775807) : tu h 1 ah4 (arw b o n lo hi) (cut X.1 lo hi) := by
  have hx := X.2
  have hl : (cut X.1 lo hi).length = hi.toNat - lo.toNat := by unfold cut; rw [List.length_drop, List.length_take]; omega
  refine ⟨⟨_, n - lo.toNat, by rw [hl]; rfl, by omega, by omega, ?_⟩, fun _ _ => rfl⟩
  by_cases he : cut X.1 lo hi = []
  · exact .inl he
  · right
    have hp : 0 < (cut X.1 lo hi).length := List.length_pos_iff.2 he
    refine ⟨b, o + lo.toNat, by rw [if_neg (by omega)], hB.lt, ?_⟩
    intro i hi' j hj
    have hj0 : j = 0 := by simp [ah4] at hj; exact hj
    subst hj0
    have := seg_cell (o := o) hB hs (t := ((lo.toNat + i : Nat) : Int)) ⟨by omega, by omega⟩
    rw [Int.toNat_natCast] at this
    rw [Nat.mul_one, Nat.add_zero, Nat.add_assoc, this]
    have h1 : lo.toNat + i < X.1.length := by omega
    have h2 : (cut X.1 lo hi)[i] = X.1[lo.toNat + i] := by simp only [cut, List.getElem_drop, List.getElem_take]
    simp only [ah4, h2, List.getElem_cons_zero, Option.some.injEq, Value.int.injEq, true_and]
    unfold b8; rw [y7 h1]
theorem ard {x : Operand} {y z : Option Operand} {b o : Nat} {lo hi : Int} {kl kh : IntKind} (hT : a1h P T n E) (hx : ev f x = .pointer (some ⟨b, o, none⟩)) (hy : (y = none /\ lo = 0) ∨ ∃ y', y = some y' /\ ev f y' = .int kl lo) (hz : (z = none /\ hi = (n : Int)) ∨ ∃ z', z = some z' /\ ev f z' = .int kh hi)
    (hb : 0 <= lo /\ lo <= hi /\ hi <= (n : Int)) : QV P (.slice T x y z none) ty f h (arw b o n lo hi) := by
  intro dst pos after guard w _
  have h1 : lo <= ((hi.toNat : Nat) : Int) := by omega
  have h0 : 0 <= hi := by omega
  have h2 : lo <= max hi 0 := by omega
  rcases hy with ⟨rfl, rfl⟩ | ⟨y', rfl, hy⟩ <;> rcases hz with ⟨rfl, rfl⟩ | ⟨z', rfl, hz⟩
  · simp [execOp, hx, Instr.sliceAt, run_underlying hT.und, Instr.sureAddr, Instr.sliceBounds, hT.one.size w, arw, akg, go_sem]
    all_goals (try (by_cases e : n = lo.toNat <;> simp_all))
  · simp [execOp, hx, hz, Instr.sliceAt, run_underlying hT.und, Instr.sureAddr, Instr.sliceBounds, Instr.sliceBound, asIntOf, hT.one.size w, arw, akg, hb, go_sem]
    all_goals (try (by_cases e : n = lo.toNat <;> simp_all))
  · simp [execOp, hx, hy, Instr.sliceAt, run_underlying hT.und, Instr.sureAddr, Instr.sliceBounds, Instr.sliceBound, asIntOf, hT.one.size w, arw, akg, hb, go_sem]
    all_goals (try (by_cases e : n = lo.toNat <;> simp_all))
  · simp [execOp, hx, hy, hz, Instr.sliceAt, run_underlying hT.und, Instr.sureAddr, Instr.sliceBounds, Instr.sliceBound, asIntOf, hT.one.size w, arw, akg, hb, h0, h1, h2, go_sem]
    all_goals (try (by_cases e : n = lo.toNat <;> simp_all))
theorem al0 {src dst E : TypeId} {x : Operand} {v : Value} {l : Str} (hT : al6 P src E 1) (he : P.underlying E = some (.int .u8)) (hd : P.underlying dst = some .string) (hS : tu h 1 ah4 v l) (hx : ev f x = v) :
    QV P (.convert src dst x) ty f h (.string (bs l)) := by
  intro dd pos after guard w hw
  obtain ⟨⟨a, cap, rfl, hc1, hc2, h3⟩, h4⟩ := hS
  simp only [execOp, hx]
  have key : (convert src dst (.slice a l.length cap)).run P w = .ok (.string (bs l)) w := by
    cases a with
    | none =>
      have hl : l = [] := by
        rcases h3 with h3 | ⟨b, off, h, _⟩
        · exact h3
        · cases h
      subst hl
      exact run_convert_bytes_nil w src E hT.und he 0 cap dst hd
    | some a =>
      refine (run_convert_bytes_back w src dst E a cap l hT.und he hd ?_).trans ?_
      · intro j hj
        rcases h3 with h3 | ⟨b, off, ha, hb, hr⟩
        · subst h3; simp at hj
        · cases ha
          have := hr j hj 0 (by simp [ah4])
          rw [akg, ao4, hw]
          simpa [ah4] using this
      · rfl
  rw [Sem.run_bind, key]; rfl
end
end Go.Wk
