/- The library's functions of texts and numbers, over things owned: cut, split, repeat, replace, digits, errors; bytes of a text; package variables. -/
import Derived.Test.YtlnagjjldpgbpaaGreatDoorTxt
import Derived.Test.YtlnagjjldpgbpaaGreatDoorNest
import Derived.Test.YtlnagjjldpgbpaaGreatDoorRo
import Derived.Shelf.Strings.Split
import Derived.Shelf.Strings.Cut
import Derived.Shelf.Strings.Search3
import Derived.Shelf.Strings.Repeat
import Derived.Shelf.Strings.Replace
import Derived.Shelf.Strconv.ToError
import Derived.Shelf.Strconv.ToErrorRange
import Derived.Lib.ConvBytes
import Derived.Lib.BufferWrite
import Derived.Lib.AtoiErrMem
set_option linter.unusedSimpArgs false
set_option linter.unusedVariables false
set_option linter.unusedSectionVars false
namespace Go.Wk
open Go.HL Go.Shelf Go.Proofs
variable [DM]
section
variable {P : Program} {ρ : Ren} {F F' : Fz} {h h' : Heap} {os : List Ow} {g T : Nat} {c : Array Value}
theorem fK.TU (s : fK (Ow.box g T c) F h) {w : World} (hw : w.heap = h) {j : Nat} {v : Value} (hj : c[j]? = some v) : w.cell? ⟨g, j, none⟩ = some v := by
  rw [Gy, hw]; exact fP.cell s.box hj
theorem fK.var (s : fK (Ow.box g T c) F h) {w : World} (hw : w.heap = h) {n : String} (hn : P.globalNamed n = some g) : w.var? P n = some c := by
  have : w.heap[g]? = some (.cells c T (0, 0)) := by rw [hw]; exact s.box
  simp [World.var?, hn, this]
theorem Xp (w : World) (n : Nat) : Kept w (w.drewN n) := ⟨rfl, rfl, rfl, fun _ => Nat.le_add_right _ _⟩
theorem HC.VN {K : Nat} {args : Array Value} {v : Value} (hc : ∀ w, w.heap = h -> Calls P K args w fun e w' => e = .returned v /\ ∃ n, w' = w.drewN n) : HC P K args h fun u h' => u = v /\ h' = h := by
  intro w hw
  refine (hc w hw).mono ?_
  rintro e w' ⟨rfl, n, rfl⟩
  exact ⟨Xp w n, v, rfl, rfl, hw⟩
theorem HC.QY {K : Nat} {args : Array Value} {R : Value -> Prop} (hD : DM.on = false) (hS : St F os h) (hc : ∀ w, w.heap = h -> Calls P K args w fun e w' => ∃ v, e = .returned v /\ R v /\ Go.RowKit.Below w.heap.size w w') :
    HC P K args h fun u h' => R u /\ St F os h' /\ Kp F h F h' := by
  intro w hw
  refine (hc w hw).mono ?_
  rintro e w' ⟨v, rfl, hr, hb⟩
  subst hw
  exact ⟨⟨hb.os, hb.tape, hb.output, fun q => by rw [hD] at q; cases q⟩, v, rfl, hr, hS.ext ⟨hb.size, fun b hb' => hb.block b hb'⟩⟩
theorem Vj (s : Str) : (bs s).data.toList = s := by simp [bs]
def lW (s sep : Str) : Str × Str × Bool := Lib.cut s sep
def U5 (s sub : Str) : Bool := decide (0 <= Lib.index s sub)
def dE (s sep : Str) : List Str := Lib.splitK sep 0 (Lib.count s sep) s
def Qu (s : Str) (n : Int) : Str := Lib.repeatL s n.toNat
theorem QO (L : Lays.n145 P ρ) {m : Int} (hG : fK (Ow.box (ρ.g 1) T #[.int .i64 m]) F h) (s sep : Str) (hs : (s.length : Int) < 4294967281) :
    HC P (ρ.f 145) #[.string (bs s), .string (bs sep)] h fun u h' => u = .tuple #[.string (bs (lW s sep).1), .string (bs (lW s sep).2.1), .bool (lW s sep).2.2] /\ h' = h := by
  refine HC.VN fun w hw => ?_
  have := Any.strings_Cut L (bs s) (bs sep) m w (by rw [pR]; omega) (hG.TU hw rfl)
  rw [Vj, Vj] at this
  exact this
theorem OI (L : Lays.n144 P ρ) {m : Int} (hG : fK (Ow.box (ρ.g 1) T #[.int .i64 m]) F h) (s sub : Str) (hs : (s.length : Int) < 4294967281) :
    HC P (ρ.f 144) #[.string (bs s), .string (bs sub)] h fun u h' => u = .bool (U5 s sub) /\ h' = h := by
  refine HC.VN fun w hw => ?_
  have := Any.strings_Contains L (bs s) (bs sub) m w (by rw [pR]; omega) (hG.TU hw rfl)
  refine this.mono ?_
  rintro e w' ⟨rfl, hw'⟩
  subst hw'
  refine ⟨?_, 0, rfl⟩
  unfold U5
  first | rfl | (simp only [Vj]; rfl) | (simp [Lib.contains, Vj])
theorem Tj (s sep : Str) : (Lib.splitB (bs sep) 0 (Lib.countB (bs s) (bs sep)) (bs s)).map Value.string = (dE s sep).map fun x => Value.string (bs x) := by
  have h1 := Lib.splitB_data (bs sep) 0 (Lib.countB (bs s) (bs sep)) (bs s)
  have hc : Lib.countB (bs s) (bs sep) = Lib.count s sep := by unfold Lib.countB; rw [Vj, Vj]
  rw [Vj, Vj, hc] at h1
  unfold dE
  rw [← h1, List.map_map, hc]
  refine List.map_congr_left fun x _ => ?_
  simp [bs]
theorem Uz (s sep : Str) (h1 : 1 <= sep.length) : (dE s sep).length = Lib.count s sep + 1 := by
  have hc : Lib.countB (bs s) (bs sep) = Lib.count s sep := by unfold Lib.countB; rw [Vj, Vj]
  have h2 := Lib.splitB_all (bs sep) (by rw [pR]; exact h1) 0 _ (bs s) rfl
  have h3 := congrArg List.length (Tj s sep)
  rw [List.length_map, List.length_map, h2, hc] at h3; exact h3.symm
theorem Gh (L : Lays.n146 P ρ) (hi9 : (P.info? (ρ.t 9)).map (fun i => (i.zero, i.size, i.bytes)) = some (some (.string ByteArray.empty), 1, 16)) {m : Int} (hG : fK (Ow.box (ρ.g 1) T #[.int .i64 m]) F h) (hS : St F os h) (s sep : Str) (hs : (s.length : Int) < 4294967281 /\ 1 <= (sep.length : Int)) :
    HC P (ρ.f 146) #[.string (bs s), .string (bs sep)] h fun u h' => St F (Ow.own (ρ.t 9) 1 kS u (dE s sep) :: os) h' /\ Kp F h F h' := by
  intro w hw
  have hsep : 1 <= (bs sep).size := by rw [pR]; omega
  have := Any.strings_Split L hi9 (bs s) (bs sep) m w (by rw [pR]; omega) (hG.TU hw rfl) hsep
  have hc : Lib.countB (bs s) (bs sep) = Lib.count s sep := by unfold Lib.countB; rw [Vj, Vj]
  have hle := Lib.countB_le (bs sep) hsep (bs s).size (bs s) (Nat.le_refl _)
  refine this.mono ?_
  rintro e w' ⟨rfl, rfl⟩
  subst hw
  refine ⟨⟨rfl, rfl, rfl, fun _ => Nat.le_refl _⟩, _, rfl, ?_⟩
  have hn : New w.heap (.cells ((dE s sep).map fun x => Value.string (bs x)).toArray (ρ.t 9) (0, 0)) w.heap.size (w.alloc (.cells ((Lib.splitB (bs sep) 0 (Lib.countB (bs s) (bs sep)) (bs s)).map Value.string).toArray (ρ.t 9))).heap := by
    rw [Tj]
    exact ⟨rfl, rfl⟩
  have hlen := Uz s sep (by omega)
  rw [hc] at hle ⊢
  rw [← hlen]
  refine hS.cons _ ?_ ?_ hn.ext
  · refine mM.lit hn.blk (Nat.zero_le _) ?_ (fun x _ => rfl) ?_
    · rw [hlen]; rw [pR] at hle; unfold maxLen; omega
    · simp only [kS, List.flatMap_singleton']
      first | rfl | (induction (dE s sep) with
        | nil => rfl
        | cons a l ih => rw [List.map_cons, List.flatMap_cons, ← ih]; rfl)
  · intro x hx
    have : w.heap.size = x := Option.some.inj hx
    omega
theorem RN (hD : DM.on = false) (L : Lays.n105 P ρ) (X : Builder.Extra P ρ) (hS : St F os h) (s : Str) (n : Int) (hb : 0 <= n /\ n <= 1000000 /\ (s.length : Int) <= 1000000) :
    HC P (ρ.f 105) #[.string (bs s), .int .i64 n] h fun u h' => u = .string (bs (Qu s n)) /\ St F os h' /\ Kp F h F h' := by
  obtain ⟨k, rfl⟩ : ∃ k : Nat, n = k := ⟨n.toNat, by omega⟩
  refine HC.of_below hD hS fun w hw => ?_
  have hm : s.length * k <= 1000000 * 1000000 := Nat.mul_le_mul (by omega) (by omega)
  have := Any.strings_Repeat L X (bs s) k w (by omega) (by rw [pR]; omega)
  rw [Vj] at this
  exact this
def jM (n : Int) : Str := Lib.itoa n
theorem JB (hD : DM.on = false) (L : LaysM.n171 P ρ) (hn : P.globalNamed "internal/strconv.uint64pow10" = some g) (hG : fK (Ow.box g T (Lib.pow10Tab.map fun z => Value.int .u64 z).toArray) F h) (hS : St F os h) (n : Int) (hb : I64 n) :
    HC P (ρ.f 171) #[.int .i64 n] h fun u h' => u = .string (bs (jM n)) /\ St F os h' /\ Kp F h F h' := by
  intro w hw
  refine (Any.strconv_Itoa L n hb.1 hb.2 w (hG.var hw hn)).mono ?_
  rintro e w' ⟨rfl, k, os', rfl⟩
  subst hw
  refine ⟨⟨rfl, rfl, rfl, fun q => by rw [hD] at q; cases q⟩, _, rfl, rfl, hS.ext ⟨?_, ?_⟩⟩
  · simp [Sort.grow, World.drewN]
  · intro b hb
    simp [Sort.grow, World.drewN, Array.getElem?_append, hb]
def Hw (t : TypeId) (c : Int) : Value := if c = 0 then .nilIface else .iface t (.int .i64 c)
def F9 (b : Bool) (v : Value) : Prop := if b = true then ∃ t p, v = .iface t p else v = .nilIface
structure jl (b : Bool) (v : Value) (F : Fz) (h : Heap) : Prop where
  is : F9 b v
theorem jl.kp {b : Bool} {v : Value} (s : jl b v F h) (k : Kp F h F' h') : jl b v F' h' := ⟨s.is⟩
theorem jl.nil (F : Fz) (h : Heap) : jl false .nilIface F h := ⟨by simp [F9]⟩
theorem F9.one {b : Bool} {v : Value} (s : F9 b v) : v.oneCell' = true := by
  cases b
  · simp [F9] at s; subst s; rfl
  · simp [F9] at s; obtain ⟨t, p, rfl⟩ := s; rfl
theorem F9.cells {b : Bool} {v : Value} (s : F9 b v) : v.cells = #[v] := by
  cases b
  · simp [F9] at s; subst s; rfl
  · simp [F9] at s; obtain ⟨t, p, rfl⟩ := s; rfl
theorem Td (hD : DM.on = false) (L : LaysC.n245 P ρ) {T15 T16 : Nat} {e1 e2 : Value} {q1 q2 : Bool} (hG1 : fK (Ow.box (ρ.g 15) T15 #[e1]) F h) (hG2 : fK (Ow.box (ρ.g 16) T16 #[e2]) F h) (hE1 : jl q1 e1 F h) (hE2 : jl q2 e2 F h) (hS : St F os h)
    (fn s : Str) (base bits c : Int) (hb : (s.length : Int) <= 281474976710656 /\ (c = 2 ∨ c = 1)) :
    HC P (ρ.f 245) #[.string (bs fn), .string (bs s), .int .i64 base, .int .i64 bits, Hw (ρ.t 167) c] h fun u h' => F9 true u /\ St F os h' /\ Kp F h F h' := by
  have er : ∀ {q : Bool} {e : Value}, F9 q e -> e = .nilIface ∨ ∃ te pe, e = .iface te pe := by
    intro q e he
    cases q
    · left; simpa [F9] using he
    · right; simpa [F9] using he
  refine HC.QY hD hS fun w hw => ?_
  rcases hb.2 with rfl | rfl
  · have := Any.strconv_toError_syntax L (bs fn) (bs s) base bits e1 w (by rw [pR]; omega) (hG1.TU hw rfl) (er hE1.is)
    refine this.mono ?_
    rintro e w' ⟨N, rfl, _, _, hbl⟩
    exact ⟨_, rfl, by simp [F9], hbl⟩
  · have := Any.strconv_toError_range L (bs fn) (bs s) base bits e2 w (by rw [pR]; omega) (hG2.TU hw rfl) (er hE2.is)
    refine this.mono ?_
    rintro e w' ⟨N, rfl, _, _, hbl⟩
    exact ⟨_, rfl, by simp [F9], hbl⟩
end
section
variable {P : Program} {f : jk} {h : Heap} {ty : TypeId} {F : Fz} {os : List Ow} {i : Nat}
theorem qX {xt : TypeId} {x : Operand} {v : Value} {k : IntKind} (ht : P.underlying xt = some (.int k)) (hx : ev f x = v) : QV P (.makeInterface xt x) ty f h (.iface xt v) := by
  intro dst pos after guard w _
  simp [execOp, Instr.makeInterface, hx, run_underlying ht, go_sem]
theorem UN {xt : TypeId} {x : Operand} {v : Value} (ht : P.underlying xt = some .string) (hx : ev f x = v) : QV P (.makeInterface xt x) ty f h (.iface xt v) := by
  intro dst pos after guard w _
  simp [execOp, Instr.makeInterface, hx, run_underlying ht, go_sem]
theorem PR {t : TypeId} {ms : Array (String × TypeId)} (ht : P.underlying t = some (.interface ms)) (w : World) (d : Nat) : (Op.equalIn (d + 1) t .nilIface .nilIface).run P w = .ok true w /\ ∀ a b, (Op.equalIn (d + 1) t (.iface a b) .nilIface).run P w = .ok false w := by
  constructor
  · simp [Op.equalIn, run_underlying ht]
  · intro a b; simp [Op.equalIn, run_underlying ht]
theorem Ot {op : BinOp} (hop : op = .eql ∨ op = .neq) {t t2 : TypeId} {ms : Array (String × TypeId)} {x : Operand} {v : Value} {b : Bool} (ht : P.underlying t = some (.interface ms)) (hv : F9 b v) (hx : ev f x = v) :
    QV P (.binOp op t x (.const .nilIface) t2) ty f h (.bool (if op = .eql then !b else b)) := by
  have e := fun w => PR ht w 9999
  have hy : ev f (Operand.const Value.nilIface) = Value.nilIface := rfl
  cases b
  · simp [F9] at hv; subst hv
    rcases hop with rfl | rfl <;>
      exact run_eq hx hy (fun w => by simp [eqGuard, go_sem]) (fun w _ => by simp only [binOp]; simp [Op.equal, Op.maxDepth, (e w).1])
  · simp [F9] at hv; obtain ⟨tt, p, rfl⟩ := hv
    rcases hop with rfl | rfl <;>
      exact run_eq hx hy (fun w => by simp [eqGuard, go_sem]) (fun w _ => by simp only [binOp]; simp [Op.equal, Op.maxDepth, (e w).2])
theorem PS {t T : TypeId} {ms : Array (String × TypeId)} (ht : P.underlying t = some (.interface ms)) (hT : P.underlying T = some (.int .i64)) (hc : (P.info? T).map (·.comparable) = some true) (w : World) (d : Nat) (a n : Int) :
    (Op.equalIn (d + 2) t (.iface T (.int .i64 a)) (.iface T (.int .i64 n))).run P w = .ok (decide (a = n)) w := by
  obtain ⟨i, hi, hc⟩ := Option.map_eq_some_iff.1 hc
  have e : (Op.equalIn (d + 1) T (.int .i64 a) (.int .i64 n)).run P w = .ok (decide (a = n)) w := by
    simp [Op.equalIn, run_underlying hT]; rfl
  rw [Op.equalIn]
  simp only [Sem.run_bind, run_underlying ht, Result.andThen_ok]
  simp [typeInfo, hi, hc, e]
theorem Ob {t : TypeId} {ms : Array (String × TypeId)} (ht : P.underlying t = some (.interface ms)) (w : World) (d : Nat) (a : TypeId) (b : Value) : (Op.equalIn (d + 1) t .nilIface (.iface a b)).run P w = .ok false w := by
  simp [Op.equalIn, run_underlying ht]
theorem ZZ {op : BinOp} (hop : op = .eql ∨ op = .neq) {t t2 T : TypeId} {ms : Array (String × TypeId)} {x y : Operand} {c n : Int} (ht : P.underlying t = some (.interface ms)) (hT : P.underlying T = some (.int .i64)) (hc : (P.info? T).map (·.comparable) = some true) (hn : n ≠ 0) (hx : ev f x = Hw T c) (hy : ev f y = .iface T (.int .i64 n)) :
    QV P (.binOp op t x y t2) ty f h (.bool (if op = .eql then decide (c = n) else !decide (c = n))) := by
  have e : ∀ w : World, (Op.equalIn 10000 t (Hw T c) (.iface T (.int .i64 n))).run P w = .ok (decide (c = n)) w := by
    intro w
    unfold Hw
    split
    · rename_i h0; subst h0
      rw [Ob ht w 9999, decide_eq_false (Ne.symm hn)]
    · exact PS ht hT hc w 9998 c n
  rcases hop with rfl | rfl <;>
    exact run_eq hx hy (fun w => by simp [eqGuard, go_sem]) (fun w _ => by simp only [binOp]; simp [Op.equal, Op.maxDepth, e w])
theorem SC (t : TypeId) (c : Int) : F9 (!decide (c = 0)) (Hw t c) := by
  unfold F9 Hw
  by_cases hc : c = 0 <;> simp [hc]
theorem Ny {src dst E : TypeId} {x : Operand} {s : Str} {u : TypeDesc} (hS : St F os h) (hs : P.underlying src = some u) (hd : P.underlying dst = some (.slice E)) (he : P.underlying E = some (.int .u8)) (hx : ev f x = .string (bs s)) (hl : (s.length : Int) <= 1000000) :
    EV P (.convert src dst x) ty f h (fun v h' => ∃ F', St F' os h' /\ Kp F h F' h' /\ bC F' h' 1 yw v s) := by
  intro dst' pos after guard w hw
  subst hw
  have hrun := Lib.run_convert_string_bytes w src dst E (bs s) hs hd he
  have hsz := Lib.bytesWorld_size w E (bs s)
  have aff : Ext w.heap (Lib.bytesWorld w E (bs s)).heap := ⟨by omega, fun b hb => Lib.bytesWorld_at_old w E (bs s) b hb⟩
  have h1 := hS.ext aff
  refine ⟨.slice (some ⟨w.heap.size, 0, none⟩) (bs s).size (grownCap w (bs s).size 0 E), Lib.bytesWorld w E (bs s), ?_, ⟨rfl, rfl, rfl, fun _ => Nat.le_succ _⟩, fun b => F b ∨ b = w.heap.size, ⟨?_, h1.1.inv, ?_, h1.1.apart⟩, ?_, ?_⟩
  · simp only [execOp, hx, Sem.run_bind, hrun, Result.andThen_ok]; rfl
  · rintro b (hb | rfl)
    · exact h1.1.fz b hb
    · omega
  · rintro j q hq b hb (hf | rfl)
    · exact h1.1.off j q hq b hb hf
    · have := q.lt _ _ (hS.inv j q hq) hb; omega
  · exact ⟨h1.2.size, fun b hb => .inl hb, h1.2.old⟩
  · refine ⟨⟨⟨some ⟨w.heap.size, 0, none⟩, grownCap w (bs s).size 0 E, ?_, ?_, ?_, .inr ⟨w.heap.size, 0, rfl, by omega, ?_⟩⟩, fun _ _ => rfl⟩, fun _ b hb => ?_⟩
    · rw [pR]
    · have := grownCap_ge w (bs s).size 0 E
      rw [pR] at this; exact this
    · have := grownCap_le_maxLen w (bs s).size 0 E (by rw [pR]; unfold maxLen; omega)
      unfold maxLen at this; omega
    · intro j hj m hm
      have hm0 : m = 0 := by simp [yw] at hm; omega
      subst hm0
      have := Lib.bytesWorld_cell w E (bs s) j (by rw [pR]; exact hj)
      rw [Gy, Vj] at this
      simpa [yw, List.getD_eq_getElem?_getD, hj] using this
    · right; exact (Option.some.inj hb).symm
def LG {n : Nat} (x : Ba n) (s : Str) : Ba n := ⟨s.take n ++ x.1.drop (s.take n).length, by rw [List.length_append, List.length_drop, x.2, List.length_take]; omega⟩
theorem LJ {n : Nat} (x : Ba n) : bV x = x.1.map fun b => Value.int .u8 (b.toNat : Int) := by
  apply List.ext_getElem
  · rw [wV, List.length_map, x.2]
  · intro j h1 h2
    have hj : j < x.1.length := by rw [List.length_map] at h2; exact h2
    simp [bV, b8, iZ hj]
theorem RX (w : World) (dT sT ty elem : TypeId) (g o dLen dCap n : Nat) (s : Str) (cur : Array Value) (t : TypeId) (hn : n = min s.length dLen)
    (hu : P.underlying dT = some (.slice elem)) (hs : (P.info? elem).map (·.size) = some 1) (hg : w.heap[g]? = some (.cells cur t (0, 0))) (hfit : o + n <= cur.size) :
    (Builtin.copy_ #[dT, sT] ty #[.slice (some ⟨g, o, none⟩) dLen dCap, .string (bs s)]).run P w =
      .ok (goInt n) (w.setRow g (cur.toList.take o ++ Lib.byteCells (s.take n) ++ cur.toList.drop (o + n)).toArray) := by
  have hlen : (Lib.byteCells (s.take n)).length = n := by rw [Lib.byteCells_length, List.length_take]; omega
  have hst := run_storeCells_at P g o t (Lib.byteCells (s.take n)) 0 cur w hg (by rw [hlen]; simpa using hfit) (Lib.byteCells_one _)
  rw [hlen] at hst
  simp only [Nat.add_zero] at hst
  have hmin : Nat.min (bs s).size dLen = n := by rw [pR]; exact hn.symm
  have htk : List.take n (List.map (fun b : UInt8 => Value.int IntKind.u8 (b.toNat : Int)) s) = Lib.byteCells (s.take n) := by
    rw [← List.map_take]; rfl
  cases hq : P.info? elem with
  | none => simp [hq] at hs
  | some i =>
    simp [Builtin.copy_, run_underlying hu, Builtin.lenOf, Builtin.firstCells, sizeOf, typeInfo, hq, hmin]
    rw [Vj, htk, hst]
    simp [Result.andThen]
theorem Yb {n : Nat} {T elem : TypeId} {x y : Operand} {ts : Array TypeId} {sT : TypeId} {b o E' : Nat} {c c' : Array Value} {X : Ba n} {s : Str} (hS : St F os h) (hi : os[i]? = some (Ow.box b E' c)) (hT : Df P T elem 1)
    (hx : ev f x = JK b o n 0 (n : Int)) (hy : ev f y = .string (bs s)) (ht : ts = #[T, sT]) (hs : (c.toList.drop o).take n = bV X) (hc : (c.toList.take o ++ bV (LG X s) ++ c.toList.drop (o + n)).toArray = c') (hp : 0 < n) :
    EV P (.call ⟨.builtin .copy, #[x, y], ts⟩) ty f h (fun v h' => v = .int .i64 (min (s.length : Int) (n : Int)) /\ St F (os.set i (Ow.box b E' c')) h' /\ Kp F h F h') := by
  intro dst pos after guard w hw
  subst hw
  have hB : w.heap[b]? = some (.cells c E' (0, 0)) := hS.box i hi
  have hlen : o + n <= c.size := by
    have := congrArg List.length hs
    rw [wV, List.length_take, List.length_drop, Array.length_toList] at this
    omega
  have hz : (P.info? elem).map (·.size) = some 1 := by
    have := hT.size w
    cases hq : P.info? elem with
    | none => simp [sizeOf, typeInfo, hq] at this
    | some j => simpa [sizeOf, typeInfo, hq] using this
  have hrun := RX (P := P) w T sT ty elem b o n n (min s.length n) s c E' rfl hT.und hz hB (by omega)
  have hv : JK b o n 0 (n : Int) = .slice (some ⟨b, o, none⟩) n n := by
    unfold JK
    simp
  have hcc : (c.toList.take o ++ Lib.byteCells (s.take (min s.length n)) ++ c.toList.drop (o + min s.length n)).toArray = c' := by
    rw [← hc]
    congr 1
    have h1 : s.take (min s.length n) = s.take n := by
      rcases Nat.le_total s.length n with q | q
      · rw [Nat.min_eq_left q, List.take_of_length_le (Nat.le_refl _), List.take_of_length_le q]
      · rw [Nat.min_eq_right q]
    have h2 : c.toList.drop (o + min s.length n) = (bV X).drop (min s.length n) ++ c.toList.drop (o + n) := by
      rw [← hs, List.drop_take, List.drop_drop]
      have e3 : c.toList.drop (o + n) = (c.toList.drop (o + min s.length n)).drop (n - min s.length n) := by rw [List.drop_drop]; congr 1; omega
      rw [e3, List.take_append_drop]
    have h3 : bV (LG X s) = Lib.byteCells (s.take n) ++ (bV X).drop (min s.length n) := by
      rw [LJ, LJ]
      unfold LG
      rw [List.map_append, List.map_drop, List.length_take, Nat.min_comm]; rfl
    rw [h1, h2, h3]
    simp only [List.append_assoc]
  rw [hcc] at hrun
  have hheap : (w.setRow b c').heap = w.heap.setIfInBounds b (.cells c' E' (0, 0)) := by
    have hlt := zN hB
    have hbe : w.heap[b] = .cells c E' (0, 0) := by have := hB; rw [Array.getElem?_eq_getElem hlt] at this; injection this
    unfold World.setRow
    apply Array.ext
    · simp
    · intro i h1 h2
      simp only [Array.size_modify] at h1
      rw [Array.getElem_modify, Array.getElem_setIfInBounds]
      by_cases e : b = i
      · subst e; simp only [if_true]; rw [hbe]
      · simp only [e, if_false]
      · exact h1
  have hu : Qq w.heap b (.cells c' E' (0, 0)) (w.setRow b c').heap := ⟨zN hB, hheap⟩
  refine ⟨.int .i64 (min (s.length : Int) (n : Int)), w.setRow b c', ?_, ⟨rfl, rfl, rfl, fun _ => Nat.le_refl _⟩, rfl, hS.turn i hi (Ow.box b E' c') hu.get (fun b hb => .inl hb) (Nat.le_of_eq hu.size.symm) (fun b' hb hne => hu.keep hne)⟩
  have hargs : (#[x, y].map (ev f)) = #[.slice (some ⟨b, o, none⟩) n n, .string (bs s)] := by simp [hx, hy, hv]
  have hg : goInt (min s.length n : Nat) = .int .i64 (min (s.length : Int) (n : Int)) := by
    show Value.int .i64 ((min s.length n : Nat) : Int) = _
    congr 1; omega
  rw [← hg]
  simp only [execOp, resolve, invoke, builtin, hargs, ht, Sem.run_bind, pure, Sem.run, Result.andThen_ok]
  simp only [hrun, Result.andThen_ok]
theorem Ya {T E k bytes : Nat} {α : Type} {enc : α -> List Value} {x y : Operand} {kx ky : IntKind} {a : Int} {zv : Value} (n : Nat) (hS : St F os h) (hT : Kt P T E k bytes) (hz : EO P E zv) (hx : ev f x = .int kx 0) (hy : ev f y = .int ky a)
    (h0 : a = (n : Int)) (hb : bytes * n <= 281474976710656) (h63 : n <= 9223372036854775807) :
    EV P (.makeSlice T x y) ty f h (fun v h' => ∃ b, v = .slice (some ⟨b, 0, none⟩) 0 n /\ St F (Ow.own E k enc (.slice (some ⟨b, 0, none⟩) 0 n) ([] : List α) :: os) h' /\ Kp F h F h') := by
  intro dst pos after guard w hw
  subst hw
  obtain ⟨j, z, hi, hzi, hik, hib, hzk⟩ := hT.info
  have hzz : z = zv := by
    have h1 : (zeroValue E).run P w = .ok z w := by simp [zeroValue, typeInfo, hi, hzi]
    have := hz w; rw [h1] at this; injection this
  subst hzz; subst hib; subst h0
  have hr := run_make (P := P) w T E j z hT.und hi hzi kx ky 0 n (by omega) (by omega) (by have := hb; omega) (by omega)
  simp only [Int.toNat_natCast, Int.toNat_zero] at hr
  have hn : New w.heap (.cells (madeCells z.cells (n * j.size)) E (0, 0)) w.heap.size (w.alloc (.cells (madeCells z.cells (n * j.size)) E)).heap := ⟨rfl, rfl⟩
  refine ⟨_, w.alloc (.cells (madeCells z.cells (n * j.size)) E), ?_, ⟨rfl, rfl, rfl, fun _ => Nat.le_refl _⟩, w.heap.size, rfl, ?_⟩
  · simp only [execOp, hx, hy]
    rw [Sem.run_bind, hr]; rfl
  · subst hik
    refine hS.cons _ ?_ ?_ hn.ext
    · refine ⟨⟨by simp, .inr ⟨w.heap.size, n, madeCells z.cells (n * j.size), by simp, Nat.zero_le _, hn.blk, by simp, by simpa [maxLen] using h63, by simp [madeCells], by simp⟩⟩, by simp⟩
    · intro x hx
      have : w.heap.size = x := Option.some.inj hx
      omega
end
def kZ (t : Int) : UInt8 := UInt8.ofNat (t % 256).toNat
theorem lQ (t : Int) : ((kZ t).toNat : Int) = t % 256 := by
  unfold kZ
  have h0 : 0 <= t % 256 := Int.emod_nonneg _ (by decide)
  have h1 : t % 256 < 256 := Int.emod_lt_of_pos _ (by decide)
  rw [UInt8.toNat_ofNat']
  have : (t % 256).toNat % 2 ^ 8 = (t % 256).toNat := Nat.mod_eq_of_lt (by omega)
  omega
theorem XT (t : Int) : IntKind.u8.wrap t = ((kZ t).toNat : Int) := by rw [lQ]; exact IntKind.wrap_u8 t
theorem FM (t : Int) : Value.int .u8 (IntKind.u8.wrap t) = .int .u8 ((kZ t).toNat : Int) := by rw [XT]
theorem QH {t : Int} (h : 0 <= t /\ t < 256) : Value.int .u8 t = .int .u8 ((kZ t).toNat : Int) := by
  rw [lQ, Int.emod_eq_of_lt h.1 h.2]
end Go.Wk
