/- What each operation does over slots and memory. -/
import Derived.Test.YtmbkoonblmfdpaaGreatMix
set_option linter.unusedSimpArgs false
set_option linter.unusedVariables false
set_option linter.unusedSectionVars false
namespace Go.HL
variable [DM]
def hcell (h : Heap) (b o : Nat) : Option Value :=
  match h[b]? with
  | some (.cells c _ _) => c[o]?
  | _ => none
theorem Pj (w : World) (b o : Nat) : w.cell? ⟨b, o, none⟩ = hcell w.heap b o := by
  unfold World.cell? hcell
  cases w.heap[b]? with
  | none => rfl
  | some x => cases x <;> rfl
theorem QM {h : Heap} {b o : Nat} {c : Array Value} {T : TypeId} {fr : Nat × Nat} (hb : h[b]? = some (.cells c T fr)) : hcell h b o = c[o]? := by
  simp [hcell, hb]
theorem Dx (b o n : Nat) : (⟨b, o, none⟩ : Addr).add n = ⟨b, o + n, none⟩ := by
  unfold Addr.add
  split
  · rename_i e; subst e; rfl
  · rfl
structure Ext (h h' : Heap) : Prop where
  size : h.size <= h'.size
  old : ∀ b, b < h.size -> h'[b]? = h[b]?
theorem Ext.refl (h : Heap) : Ext h h := ⟨Nat.le_refl _, fun _ _ => rfl⟩
theorem Ext.trans {a b c : Heap} (h : Ext a b) (k : Ext b c) : Ext a c :=
  ⟨Nat.le_trans h.size k.size, fun i hi => (k.old i (Nat.lt_of_lt_of_le hi h.size)).trans (h.old i hi)⟩
theorem yK {h : Heap} {b : Nat} {o : Obj} (hb : h[b]? = some o) : b < h.size := (Array.getElem?_eq_some_iff.1 hb).1
theorem Ext.get {h h' : Heap} (e : Ext h h') {b : Nat} {o : Obj} (hb : h[b]? = some o) : h'[b]? = some o := (e.old b (yK hb)).trans hb
theorem Ext.cell {h h' : Heap} (e : Ext h h') {b o : Nat} {v : Value} (hb : hcell h b o = some v) : hcell h' b o = some v := by
  have hlt : b < h.size := by
    unfold hcell at hb
    cases hx : h[b]? with
    | none => rw [hx] at hb; cases hb
    | some x => exact yK hx
  unfold hcell at *
  rw [e.old b hlt]; exact hb
structure Old (B : Nat) (h h' : Heap) : Prop where
  size : h.size <= h'.size
  old : ∀ b, b < B -> h'[b]? = h[b]?
theorem Old.refl (B : Nat) (h : Heap) : Old B h h := ⟨Nat.le_refl _, fun _ _ => rfl⟩
theorem Old.ext {B : Nat} {a b c : Heap} (h : Old B a b) (hB : B <= a.size) (k : Ext b c) : Old B a c :=
  ⟨Nat.le_trans h.size k.size, fun i hi => (k.old i (Nat.lt_of_lt_of_le hi (Nat.le_trans hB h.size))).trans (h.old i hi)⟩
structure New (h : Heap) (o : Obj) (b : Nat) (h' : Heap) : Prop where
  eq : h' = h.push o
  at_ : b = h.size
theorem New.ext {h h' : Heap} {o : Obj} {b : Nat} (n : New h o b h') : Ext h h' :=
  ⟨by rw [n.eq]; simp, fun i hi => by rw [n.eq, Array.getElem?_push, if_neg (by omega)]⟩
theorem New.get {h h' : Heap} {o : Obj} {b : Nat} (n : New h o b h') : h'[b]? = some o := by rw [n.eq, n.at_]; simp
theorem New.size {h h' : Heap} {o : Obj} {b : Nat} (n : New h o b h') : h'.size = h.size + 1 := by rw [n.eq]; simp
theorem New.lt {h h' : Heap} {o : Obj} {b : Nat} (n : New h o b h') {c : Nat} {x : Obj} (hc : h[c]? = some x) : c < b := by
  have := yK hc; have := n.at_; omega
structure N9 (h : Heap) (b : Nat) (o : Obj) (h' : Heap) : Prop where
  lt : b < h.size
  eq : h' = h.setIfInBounds b o
theorem N9.size {h h' : Heap} {b : Nat} {o : Obj} (u : N9 h b o h') : h'.size = h.size := by rw [u.eq]; simp
theorem N9.get {h h' : Heap} {b : Nat} {o : Obj} (u : N9 h b o h') : h'[b]? = some o := by rw [u.eq]; simp [u.lt]
theorem N9.keep {h h' : Heap} {b : Nat} {o : Obj} (u : N9 h b o h') {c : Nat} (hne : c ≠ b) : h'[c]? = h[c]? := by
  rw [u.eq, Array.getElem?_setIfInBounds_ne (Ne.symm hne)]
theorem N9.other {h h' : Heap} {b : Nat} {o : Obj} (u : N9 h b o h') {c : Nat} {x : Obj} (hc : h[c]? = some x) (hne : c ≠ b) : h'[c]? = some x := (u.keep hne).trans hc
theorem N9.old {h h' : Heap} {b : Nat} {o : Obj} (u : N9 h b o h') {B : Nat} {h₀ : Heap} (k : Old B h₀ h) (hB : B <= b) : Old B h₀ h' :=
  ⟨by rw [u.size]; exact k.size, fun i hi => (u.keep (by omega)).trans (k.old i hi)⟩
def kN (P : Program) (s i off : Nat) : Prop := ∀ (a : Addr) (w : World), (Instr.fieldAt s (.pointer (some a)) i).run P w = .ok (.pointer (some (a.add off))) w
structure Ed (P : Program) (T E k : Nat) : Prop where
  und : P.underlying T = some (.slice E)
  size : ∀ w, (sizeOf E).run P w = .ok k w
structure Ji (P : Program) (T : Nat) : Prop where
  agg : ∀ w, (isAgg T).run P w = .ok false w
  size : ∀ w, (sizeOf T).run P w = .ok 1 w
structure KF (P : Program) (T k : Nat) : Prop where
  agg : ∀ w, (isAgg T).run P w = .ok true w
  size : ∀ w, (sizeOf T).run P w = .ok k w
def Eu (P : Program) (T : Nat) (v : Value) : Prop := ∀ w, (zeroValue T).run P w = .ok v w
section
variable {P : Program} {f : kT} {h : Heap} {ty : TypeId}
theorem bV {x : Operand} {v : Value} (hx : ev f x = v) : QV P (.move x) ty f h v := by
  intro dst pos after guard w _; simp [execOp, hx, go_sem]
theorem jw {x : Operand} {v : Value} (hx : ev f x = v) : QV P (.assign x) ty f h v := by
  intro dst pos after guard w _; simp [execOp, hx, go_sem]
theorem lU {c a b : Operand} {t : Bool} {v : Value} (hc : ev f c = .bool t) (hv : (bif t then ev f a else ev f b) = v) : QV P (.pick c a b) ty f h v := by
  intro dst pos after guard w _; subst hv; cases t <;> simp [execOp, hc, asBool, go_sem]
theorem cu {x : Operand} {a : Addr} (hx : ev f x = .pointer (some a)) : QV P (.nilCheck x) ty f h (.pointer (some a)) := by
  intro dst pos after guard w _; simp [execOp, hx, go_sem]
theorem qy {t : TypeId} {x : Operand} {b : Bool} (hx : ev f x = .bool b) : QV P (.unOp .not t x) ty f h (.bool (!b)) := by
  intro dst pos after guard w _; simp [execOp, hx, Op.unary, go_sem]
theorem pW {x : Operand} {vs : Array Value} {i : Nat} {v : Value} (hx : ev f x = .tuple vs) (hv : vs[i]? = some v) : QV P (.extract x i) ty f h v := by
  intro dst pos after guard w _; simp [execOp, hx, Instr.extract, hv, go_sem]
theorem P9 {fn : Fn} {lf lc : List Operand} {vs ws : List Value} (h1 : lf.map (ev f) = vs) (h2 : lc.map (ev f) = ws) :
    QV P (.makeFunc fn lf.toArray lc.toArray) ty f h (.func fn vs.toArray ws.toArray) := by
  intro dst pos after guard w _; subst h1; subst h2; simp [execOp, Instr.makeFunc, go_sem]
theorem FY {op : BinOp} {t t2 : TypeId} {x y : Operand} {k : IntKind} {a b : Int} (hx : ev f x = .int k a) (hy : ev f y = .int k b) (hs : op ≠ .shl /\ op ≠ .shr)
    {v : Value} (hv : ∀ w, (binOp op t (.int k a) (.int k b)).run P w = .ok v w) : QV P (.binOp op t x y t2) ty f h v := by
  intro dst pos after guard w _
  have hg : (eqGuard op t x y (.int k a) (.int k b)).run P w = .ok () w := by
    unfold eqGuard
    cases op <;> simp [go_sem]
  simp [execOp, hx, hy, hg, hv w]
theorem ahe {t t2 : TypeId} {x y : Operand} {k : IntKind} {a b : Int} (hx : ev f x = .int k a) (hy : ev f y = .int k b) :
    QV P (.binOp .add t x y t2) ty f h (.int k (k.wrap (a + b))) := FY hx hy (by simp) (fun w => by simp [binOp, Op.intArith, go_sem])
theorem ag8 {t t2 : TypeId} {x y : Operand} {k : IntKind} {a b : Int} (hx : ev f x = .int k a) (hy : ev f y = .int k b) :
    QV P (.binOp .sub t x y t2) ty f h (.int k (k.wrap (a - b))) := FY hx hy (by simp) (fun w => by simp [binOp, Op.intArith, go_sem])
theorem ahb {t t2 : TypeId} {x y : Operand} {k : IntKind} {a b : Int} (hx : ev f x = .int k a) (hy : ev f y = .int k b) :
    QV P (.binOp .mul t x y t2) ty f h (.int k (k.wrap (a * b))) := FY hx hy (by simp) (fun w => by simp [binOp, Op.intArith, go_sem])
theorem aha {t t2 : TypeId} {x y : Operand} {k : IntKind} {a b : Int} (hx : ev f x = .int k a) (hy : ev f y = .int k b) (h0 : b ≠ 0) :
    QV P (.binOp .rem t x y t2) ty f h (.int k (a.tmod b)) := FY hx hy (by simp) (fun w => by simp [binOp, Op.intDiv, h0, go_sem])
theorem qR {t t2 : TypeId} {x y : Operand} {k : IntKind} {a b : Int} (hx : ev f x = .int k a) (hy : ev f y = .int k b) :
    QV P (.binOp .lss t x y t2) ty f h (.bool (decide (a < b))) := FY hx hy (by simp) (fun w => by simp [binOp, Op.intCmp, go_sem])
theorem aad {t t2 : TypeId} {x y : Operand} {k : IntKind} {a b : Int} (hx : ev f x = .int k a) (hy : ev f y = .int k b) :
    QV P (.binOp .leq t x y t2) ty f h (.bool (decide (a <= b))) := FY hx hy (by simp) (fun w => by simp [binOp, Op.intCmp, go_sem])
theorem Gp {t t2 : TypeId} {x y : Operand} {k : IntKind} {a b : Int} (hx : ev f x = .int k a) (hy : ev f y = .int k b) :
    QV P (.binOp .gtr t x y t2) ty f h (.bool (decide (b < a))) := FY hx hy (by simp) (fun w => by simp [binOp, Op.intCmp, go_sem])
theorem NJ {t t2 : TypeId} {x y : Operand} {k : IntKind} {a b : Int} (hx : ev f x = .int k a) (hy : ev f y = .int k b) :
    QV P (.binOp .geq t x y t2) ty f h (.bool (decide (b <= a))) := FY hx hy (by simp) (fun w => by simp [binOp, Op.intCmp, go_sem])
theorem pX {t t2 : TypeId} {x y : Operand} {k : IntKind} {a b : Int} (hx : ev f x = .int k a) (hy : ev f y = .int k b) :
    QV P (.binOp .eql t x y t2) ty f h (.bool (decide (a = b))) := FY hx hy (by simp) (fun w => by simp only [binOp, Op.intCmp]; rw [if_neg (by simp)]; simp [go_sem]; rfl)
theorem aac {t t2 : TypeId} {x y : Operand} {k : IntKind} {a b : Int} (hx : ev f x = .int k a) (hy : ev f y = .int k b) :
    QV P (.binOp .neq t x y t2) ty f h (.bool (!decide (a = b))) := FY hx hy (by simp) (fun w => by simp only [binOp, Op.intCmp]; rw [if_neg (by simp)]; simp [go_sem]; rfl)
theorem adI {k : IntKind} {n : Int} (h1 : k.min <= n) (h2 : n <= k.max) : k.wrap n = n := by
  unfold IntKind.wrap IntKind.min IntKind.max at *
  cases k <;> simp [IntKind.signed, IntKind.bits] at * <;> (try split) <;> omega
theorem wrap_i64 {n : Int} (h1 : -9223372036854775808 <= n) (h2 : n <= 9223372036854775807) : IntKind.i64.wrap n = n := adI (by simpa [IntKind.min, IntKind.signed, IntKind.bits] using h1) (by simpa [IntKind.max, IntKind.signed, IntKind.bits] using h2)
theorem kV {t t2 : TypeId} {x y : Operand} {a b : Int} (c : Int) (hx : ev f x = .int .i64 a) (hy : ev f y = .int .i64 b) (hc : a + b = c) (h1 : -9223372036854775808 <= c) (h2 : c <= 9223372036854775807) :
    QV P (.binOp .add t x y t2) ty f h (.int .i64 c) := (ahe hx hy).of_eq (by rw [hc, wrap_i64 h1 h2])
theorem Rt {t t2 : TypeId} {x y : Operand} {a b : Int} (c : Int) (hx : ev f x = .int .i64 a) (hy : ev f y = .int .i64 b) (hc : a - b = c) (h1 : -9223372036854775808 <= c) (h2 : c <= 9223372036854775807) :
    QV P (.binOp .sub t x y t2) ty f h (.int .i64 c) := (ag8 hx hy).of_eq (by rw [hc, wrap_i64 h1 h2])
theorem Xd {t t2 : TypeId} {x y : Operand} {a b : Int} (c : Int) (hx : ev f x = .int .i64 a) (hy : ev f y = .int .i64 b) (hc : a * b = c) (h1 : -9223372036854775808 <= c) (h2 : c <= 9223372036854775807) :
    QV P (.binOp .mul t x y t2) ty f h (.int .i64 c) := (ahb hx hy).of_eq (by rw [hc, wrap_i64 h1 h2])
theorem Wn {s d : TypeId} {x : Operand} {k k' : IntKind} {n : Int} {m : Int} {us : TypeDesc} (hs : P.underlying s = some us) (hd : P.underlying d = some (.int k'))
    (hx : ev f x = .int k n) (hm : k'.wrap n = m) : QV P (.convert s d x) ty f h (.int k' m) := by
  intro dst pos after guard w _
  simp [execOp, hx, convert, run_underlying hs, run_underlying hd, Conv.intToInt, hm, go_sem]
theorem ahd {t : Array TypeId} {x y : Operand} {k : IntKind} {a b : Int} (hx : ev f x = .int k a) (hy : ev f y = .int k b) :
    QV P (.call ⟨.builtin .max, #[x, y], t⟩) ty f h (.int k (max a b)) := by
  intro dst pos after guard w _
  simp [execOp, resolve, invoke, builtin, hx, hy, Builtin.max_, Builtin.max2, go_sem]
  omega
theorem ahc {t : Array TypeId} {x y : Operand} {k : IntKind} {a b : Int} (hx : ev f x = .int k a) (hy : ev f y = .int k b) :
    QV P (.call ⟨.builtin .min, #[x, y], t⟩) ty f h (.int k (min a b)) := by
  intro dst pos after guard w _
  simp [execOp, resolve, invoke, builtin, hx, hy, Builtin.min_, Builtin.min2, go_sem]
  omega
theorem run_eq {op : BinOp} {t t2 : TypeId} {x y : Operand} {a b : Value} (hx : ev f x = a) (hy : ev f y = b)
    {v : Value} (hg : ∀ w, (eqGuard op t x y a b).run P w = .ok () w) (hv : ∀ w, w.heap = h -> (binOp op t a b).run P w = .ok v w) : QV P (.binOp op t x y t2) ty f h v := by
  intro dst pos after guard w hw
  simp [execOp, hx, hy, hg w, hv w hw]
theorem Uy {d t : Nat} {a b : Bool} (ht : P.underlying t = some .bool) (w : World) : (Op.equalIn (d + 1) t (.bool a) (.bool b)).run P w = .ok (a == b) w := by
  simp [Op.equalIn, run_underlying ht, go_sem]
theorem VP {d t E : Nat} {a : Option Addr} (ht : P.underlying t = some (.pointer E)) (w : World) : (Op.equalIn (d + 1) t (.pointer a) (.pointer none)).run P w = .ok a.isNone w := by
  cases a <;> simp [Op.equalIn, run_underlying ht, go_sem]
theorem Zn {t t2 : TypeId} {x y : Operand} {a b : Bool} (ht : P.underlying t = some .bool) (hx : ev f x = .bool a) (hy : ev f y = .bool b) :
    QV P (.binOp .eql t x y t2) ty f h (.bool (a == b)) :=
  run_eq hx hy (fun w => by simp [eqGuard, go_sem]) (fun w _ => by simp only [binOp]; simp [Op.equal, Op.maxDepth, Uy (d := 9999) ht])
theorem UH {t t2 : TypeId} {x y : Operand} {a b : Bool} (ht : P.underlying t = some .bool) (hx : ev f x = .bool a) (hy : ev f y = .bool b) :
    QV P (.binOp .neq t x y t2) ty f h (.bool (!(a == b))) :=
  run_eq hx hy (fun w => by simp [eqGuard, go_sem]) (fun w _ => by simp only [binOp]; simp [Op.equal, Op.maxDepth, Uy (d := 9999) ht])
theorem O4 {t t2 E : TypeId} {x y : Operand} {a : Option Addr} {r : Bool} (ht : P.underlying t = some (.pointer E)) (hx : ev f x = .pointer a) (hy : ev f y = .pointer none) (hr : a.isNone = r) :
    QV P (.binOp .eql t x y t2) ty f h (.bool r) :=
  run_eq hx hy (fun w => by simp [eqGuard, go_sem]) (fun w _ => by subst hr; simp only [binOp]; simp [Op.equal, Op.maxDepth, VP (d := 9999) ht])
theorem ag9 {op : BinOp} {t t2 : TypeId} {x y : Operand} {a b : ByteArray} {v : Value} (ho : op ≠ .shl /\ op ≠ .shr) (hx : ev f x = .string a) (hy : ev f y = .string b)
    (hv : ∀ w, (Op.stringOp op a b).run P w = .ok v w) : QV P (.binOp op t x y t2) ty f h v :=
  run_eq hx hy (fun w => by unfold eqGuard; cases op <;> simp [go_sem]) (fun w _ => by
    have : binOp op t (.string a) (.string b) = Op.stringOp op a b := by cases op <;> rfl
    rw [this]; exact hv w)
theorem afp {t t2 : TypeId} {x y : Operand} {a b : ByteArray} (hx : ev f x = .string a) (hy : ev f y = .string b) :
    QV P (.binOp .eql t x y t2) ty f h (.bool (a.toList == b.toList)) := ag9 (by simp) hx hy (fun w => by simp [Op.stringOp, go_sem])
theorem aj {s i off : Nat} {x : Operand} {b o o' : Nat} (hF : kN P s i off) (hx : ev f x = .pointer (some ⟨b, o, none⟩)) (ho : o + off = o') :
    QV P (.fieldAddr s x i) ty f h (.pointer (some ⟨b, o', none⟩)) := by
  intro dst pos after guard w _
  subst ho
  simp only [execOp, hx]
  have := hF ⟨b, o, none⟩ w
  rw [Dx] at this
  simp [this]
theorem bU {T : TypeId} {x : Operand} {b o : Nat} {v : Value} (hT : Ji P T) (hx : ev f x = .pointer (some ⟨b, o, none⟩)) (hc : hcell h b o = some v) :
    QV P (.load T x) ty f h v := by
  intro dst pos after guard w hw
  have hc' : w.cell? ⟨b, o, none⟩ = some v := by rw [Pj, hw]; exact hc
  simp [execOp, hx, Instr.loadAt, Instr.sureAddr, loadVar, hT.agg w, load, Sem.run, hc', go_sem]
theorem Ls {b o : Nat} : ∀ (k : Nat) (i : Nat) (acc : Array Value) (cs : List Value) (w : World), cs.length = k ->
    (∀ j (hj : j < cs.length), hcell w.heap b (o + i + j) = some cs[j]) ->
    (loadCellsFrom ⟨b, o, none⟩ i k acc).run P w = .ok (acc ++ cs.toArray) w
  | 0, i, acc, cs, w, hl, _ => by
    have : cs = [] := List.length_eq_zero_iff.1 hl
    subst this
    simp [loadCellsFrom, go_sem]
  | k + 1, i, acc, cs, w, hl, hc => by
    match cs, hl, hc with
    | c :: cs, hl, hc =>
      have h0 := hc 0 (by simp)
      simp only [Nat.add_zero, List.getElem_cons_zero] at h0
      have ih := Ls k (i + 1) (acc.push c) cs w (by simpa using hl) (fun j hj => by
        have := hc (j + 1) (by simp; omega)
        rw [show o + i + (j + 1) = o + (i + 1) + j from by omega] at this
        simpa using this)
      have h0' : w.cell? ⟨b, o + i, none⟩ = some c := by rw [Pj]; exact h0
      have hl0 : (load ((⟨b, o, none⟩ : Addr).add i)).run P w = .ok c w := by simp only [load, Sem.run, Dx, h0']
      unfold loadCellsFrom
      rw [Sem.run_bind, hl0]
      simpa using ih
theorem bK {T k : Nat} {x : Operand} {b o : Nat} {cs : List Value} (hT : KF P T k) (hx : ev f x = .pointer (some ⟨b, o, none⟩)) (hl : cs.length = k)
    (hc : ∀ j (hj : j < cs.length), hcell h b (o + j) = some cs[j]) : QV P (.load T x) ty f h (.agg cs.toArray) := by
  intro dst pos after guard w hw
  have := Ls (P := P) (b := b) (o := o) k 0 #[] cs w hl (by simpa [hw] using hc)
  simp [execOp, hx, Instr.loadAt, Instr.sureAddr, loadVar, hT.agg w, hT.size w, loadCells, this, go_sem]
end
end Go.HL
