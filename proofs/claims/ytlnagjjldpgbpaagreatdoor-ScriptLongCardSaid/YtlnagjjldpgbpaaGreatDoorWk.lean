/- Steps over integers as they come, and regions whose class of memories turns on the way. -/
import Derived.Test.YtlnagjjldpgbpaaGreatDoorSt
import Derived.Laws.StructEq
set_option linter.unusedSimpArgs false
set_option linter.unusedVariables false
set_option linter.unusedSectionVars false
namespace Go.Wk
open Go.HL
variable [DM]
abbrev I64 (n : Int) : Prop := -9223372036854775808 <= n /\ n <= 9223372036854775807
def gi {α : Type} [Inhabited α] (l : List α) (i : Int) : α := l.getD i.toNat default
def cut {α : Type} (l : List α) (a b : Int) : List α := (l.take b.toNat).drop a.toNat
abbrev Str := List UInt8
def bs (s : Str) : ByteArray := ⟨s.toArray⟩
def kR (s : Str) : List Value := [.string (bs s)]
def kG {S : Type} (B : (S -> Prop) -> S -> Prop) (s : S) : Prop := ∃ (I : S -> Prop) (m : S -> Nat), I s /\ ∀ s, I s -> B (fun s' => I s' /\ m s' < m s) s
theorem iP {α : Type} [Inhabited α] {l : List α} {i : Nat} (h : i < l.length) : gi l (i : Int) = l[i] := by
  unfold gi; rw [Int.toNat_natCast, List.getD_eq_getElem?_getD, List.getElem?_eq_getElem h]; rfl
theorem Pg {α : Type} [Inhabited α] {l : List α} {t : Int} (h0 : 0 <= t) (h1 : t < (l.length : Int)) : gi l t = l[t.toNat]'(by omega) := by
  unfold gi; rw [List.getD_eq_getElem?_getD, List.getElem?_eq_getElem (by omega)]; rfl
theorem Dx (a : Str) : (bs a).toList = a := by
  unfold bs
  have key : ∀ (n i : Nat) (r : List UInt8), n + i = a.length -> ByteArray.toList.loop ⟨a.toArray⟩ i r = r.reverse ++ a.drop i := by
    intro n
    induction n with
    | zero =>
      intro i r hi
      rw [ByteArray.toList.loop]
      have : (ByteArray.mk a.toArray).size = a.length := by simp [ByteArray.size]
      rw [if_neg (by omega)]
      simp [show i = a.length by omega]
    | succ n ih =>
      intro i r hi
      rw [ByteArray.toList.loop]
      have : (ByteArray.mk a.toArray).size = a.length := by simp [ByteArray.size]
      rw [if_pos (by omega), ih (i + 1) _ (by omega)]
      have hlt : i < a.length := by omega
      have hg : (ByteArray.mk a.toArray).get! i = a[i] := by
        show a.toArray[i]! = _
        rw [getElem!_pos a.toArray i (by simpa using hlt)]; simp
      rw [hg, List.drop_eq_getElem_cons hlt]
      simp
  have := key a.length 0 [] (by omega)
  simpa [ByteArray.toList] using this
theorem nV (a : Str) : (bs a).size = a.length := by simp [bs, ByteArray.size]
theorem Vx (a b : Str) : bs a ++ bs b = bs (a ++ b) := by
  apply ByteArray.ext
  rw [ByteArray.data_append]
  simp [bs]
def EE (k : IntKind) (n : Int) : List Value := [.int k n]
theorem mf {p : Prop} [Decidable p] (h : (!decide p) = true) : ¬ p := by simpa using h
theorem jW {p : Prop} [Decidable p] (h : (!decide p) = false) : p := by simpa using h
def cutV (k : Nat) (v : Value) (lo hi : Nat) : Value :=
  match v with
  | .slice a _ cap => sliced a lo hi cap k
  | _ => undef
theorem Rj (k : Nat) (v : Value) (lo hi : Nat) : ja (cutV k v lo hi) = ja v := by
  cases v with
  | slice a n c =>
    cases a with
    | none => simp only [cutV, sliced]; split <;> rfl
    | some a =>
      simp only [cutV, sliced]
      split
      · rfl
      · simp only [Option.map_some, ja]; unfold Addr.add; split <;> rfl
  | _ => rfl
def Shp (v : Value) (n : Nat) : Prop := ∃ a cap, v = .slice a n cap
theorem Shp.cells {v : Value} {n : Nat} (s : Shp v n) : v.cells = #[v] := by obtain ⟨a, cap, rfl⟩ := s; rfl
theorem Shp.one {v : Value} {n : Nat} (s : Shp v n) : v.oneCell' = true := by obtain ⟨a, cap, rfl⟩ := s; rfl
section
variable {P : Program} {f : iF} {h : Heap} {ty : TypeId} {α : Type} [Inhabited α] {E k T : Nat} {enc : α -> List Value} {v : Value} {l : List α} {F F' : Fz}
theorem BC (s : fQ h k enc v l) : Shp v l.length := by obtain ⟨⟨a, cap, hv, _⟩, _⟩ := s; exact ⟨a, cap, hv⟩
theorem KX (s : fQ h k enc v l) (lo hi : Int) (h0 : 0 <= lo) (h1 : lo <= hi) (h2 : hi <= (l.length : Int)) : fQ h k enc (cutV k v lo.toNat hi.toNat) (cut l lo hi) := by
  obtain ⟨⟨a, cap, hv, hc1, hc2, h3⟩, h4⟩ := s
  unfold cut
  have hlen : ((l.take hi.toNat).drop lo.toNat).length = hi.toNat - lo.toNat := by rw [List.length_drop, List.length_take]; omega
  refine ⟨?_, fun x hx => h4 x (List.mem_of_mem_take (List.mem_of_mem_drop hx))⟩
  subst hv
  refine ⟨if cap = lo.toNat then a else a.map (·.add (lo.toNat * k)), cap - lo.toNat, ?_, by omega, by omega, ?_⟩
  · simp only [cutV, sliced, hlen]
  · by_cases hnil : (l.take hi.toNat).drop lo.toNat = []
    · exact .inl hnil
    · right
      have hp : 0 < ((l.take hi.toNat).drop lo.toNat).length := List.length_pos_iff.2 hnil
      rcases h3 with h3 | ⟨b, off, rfl, hb, hr⟩
      · subst h3; simp at hp
      · refine ⟨b, off + lo.toNat * k, ?_, hb, ?_⟩
        · rw [if_neg (by omega)]; simp only [Option.map_some, yS]
        · intro i hi' j hj
          have e : ((l.take hi.toNat).drop lo.toNat)[i] = l[lo.toNat + i]'(by omega) := by
            rw [List.getElem_drop, List.getElem_take]
          have := hr (lo.toNat + i) (by omega) j (by rw [← e]; exact hj)
          rw [show off + lo.toNat * k + i * k + j = off + (lo.toNat + i) * k + j from by rw [Nat.add_mul]; omega]
          rw [this]; simp only [e]
theorem acn (s : bF F h k enc v l) (lo hi : Int) (h0 : 0 <= lo) (h1 : lo <= hi) (h2 : hi <= (l.length : Int)) : bF F h k enc (cutV k v lo.toNat hi.toNat) (cut l lo hi) :=
  ⟨KX s.is lo hi h0 h1 h2, fun hl b hb => s.fz (fun e => hl (by unfold cut; rw [e]; simp)) b (by rw [Rj] at hb; exact hb)⟩
theorem q_len {E k' : Nat} {ts : Array TypeId} {x : Operand} {n : Nat} (hT : Ah P T E k') (hS : Shp v n) (hx : ev f x = v) (ht : ts[0]? = some T) :
    QV P (.call ⟨.builtin .len, #[x], ts⟩) ty f h (.int .i64 (n : Int)) := by
  obtain ⟨a, cap, rfl⟩ := hS
  intro dst pos after guard w _
  simp [execOp, resolve, invoke, builtin, hx, Builtin.len_, ht, run_underlying hT.und, goInt, go_sem]
theorem nZ {x y : Operand} {kk : IntKind} {t : Int} (hT : Ah P T E k) (hS : fQ h k enc v l) (hx : ev f x = v) (hy : ev f y = .int kk t) (hb : 0 <= t /\ t < (l.length : Int)) :
    QV P (.indexAddr T x y) ty f h (fV k v t.toNat) :=
  QH hT hS hx (by rw [hy]; congr 1; omega) (by omega)
theorem lW {T : TypeId} {x : Operand} {u : Value} {t : Int} (hT : Gv P T) (hS : fQ h k enc v l) (hx : ev f x = fV k v t.toNat) (hb : 0 <= t /\ t < (l.length : Int)) (hu : enc (gi l t) = [u]) :
    QV P (.load T x) ty f h u := by
  rw [Pg hb.1 hb.2] at hu
  exact RY hT hS hx (by omega) hu
theorem l7 {T : TypeId} {x : Operand} {t : Int} {cs : List Value} (hT : Oj P T k) (hS : fQ h k enc v l) (hx : ev f x = fV k v t.toNat) (hb : 0 <= t /\ t < (l.length : Int)) (hu : enc (gi l t) = cs) :
    QV P (.load T x) ty f h (.agg cs.toArray) := by
  rw [Pg hb.1 hb.2] at hu; subst hu
  exact Oz hT hS hx (by omega)
theorem UX {s i off : Nat} {x : Operand} {t : Int} (hF : rC P s i off) (hS : fQ h k enc v l) (hx : ev f x = fV k v t.toNat) (hb : 0 <= t /\ t < (l.length : Int)) : QV P (.fieldAddr s x i) ty f h (uX k v t.toNat off) :=
  QI hF (hS.shape (List.ne_nil_of_length_pos (by omega))) hx
theorem UW {T' : TypeId} {x : Operand} {u : Value} {t : Int} {j : Nat} (hT : Gv P T') (hS : fQ h k enc v l) (hx : ev f x = uX k v t.toNat j) (hb : 0 <= t /\ t < (l.length : Int)) (hj : j < k) (hu : (enc (gi l t))[j]? = some u) :
    QV P (.load T' x) ty f h u := by
  rw [Pg hb.1 hb.2] at hu
  exact QG hT hS hx (by omega) hj hu
theorem YT {kh : _} {x z : Operand} {hi : Int} (hT : Ah P T E k) (hS : fQ h k enc v l) (hx : ev f x = v) (hz : ev f z = .int kh hi) (hb : 0 <= hi /\ hi <= (l.length : Int)) :
    QV P (.slice T x none (some z) none) ty f h (cutV k v (0 : Int).toNat hi.toNat) := by
  obtain ⟨⟨a, cap, hv, hc1, hc2, h3⟩, h4⟩ := hS
  subst hv
  intro dst pos after guard w _
  have hel : P.elem T = E := by simp [Program.elem, hT.und]
  have hu : P.underlying T = some (.slice (P.elem T)) := by rw [hel]; exact hT.und
  have hs := hT.size w; rw [← hel] at hs
  simp only [execOp, hx, Option.map_some, Option.map_none, hz]
  rw [Sem.run_bind, run_sliceAt_slice (P := P) (w := w) T _ _ _ _ hu, run_slice_h (P := P) (w := w) T a l.length cap hu kh hi (by omega) (by omega), hs]
  rfl
theorem Wj {kl : _} {x y : Operand} {lo : Int} (hT : Ah P T E k) (hS : fQ h k enc v l) (hx : ev f x = v) (hy : ev f y = .int kl lo) (hb : 0 <= lo /\ lo <= (l.length : Int)) :
    QV P (.slice T x (some y) none none) ty f h (cutV k v lo.toNat ((l.length : Nat) : Int).toNat) := by
  obtain ⟨⟨a, cap, hv, hc1, hc2, h3⟩, h4⟩ := hS
  subst hv
  intro dst pos after guard w _
  have hel : P.elem T = E := by simp [Program.elem, hT.und]
  have hu : P.underlying T = some (.slice (P.elem T)) := by rw [hel]; exact hT.und
  have hs := hT.size w; rw [← hel] at hs
  simp only [execOp, hx, Option.map_some, Option.map_none, hy]
  rw [Sem.run_bind, run_sliceAt_slice (P := P) (w := w) T _ _ _ _ hu, run_slice_l (P := P) (w := w) T a l.length cap hu kl lo (by omega) (by omega), hs]
  rfl
end
section
variable {P : Program} {f : iF} {h : Heap} {ty : TypeId}
theorem zH {t t2 : TypeId} {x y : Operand} {a b : Str} (hx : ev f x = .string (bs a)) (hy : ev f y = .string (bs b)) :
    QV P (.binOp .eql t x y t2) ty f h (.bool (decide (a = b))) := (ZK hx hy).of_eq (by rw [Dx, Dx]; congr 1; rw [Bool.eq_iff_iff]; simp)
theorem Ha {t t2 : TypeId} {x y : Operand} {a b : Str} (hx : ev f x = .string (bs a)) (hy : ev f y = .string (bs b)) :
    QV P (.binOp .neq t x y t2) ty f h (.bool (!decide (a = b))) := (ZJ hx hy).of_eq (by rw [Dx, Dx]; congr 2; rw [Bool.eq_iff_iff]; simp)
theorem nT {T : Nat} {ts : Array TypeId} {x : Operand} {s : Str} (hT : P.underlying T = some .string) (hx : ev f x = .string (bs s)) (ht : ts[0]? = some T) :
    QV P (.call ⟨.builtin .len, #[x], ts⟩) ty f h (.int .i64 (s.length : Int)) := (Wp hT hx ht).of_eq (by rw [nV])
theorem jL {T : Nat} {x y : Operand} {s : Str} {kk : IntKind} {t : Int} (hT : P.underlying T = some .string) (hx : ev f x = .string (bs s)) (hy : ev f y = .int kk t) (hb : 0 <= t /\ t < (s.length : Int)) :
    QV P (.index T x y) ty f h (.int .u8 ((gi s t).toNat : Int)) := by
  refine RZ (i := t.toNat) hT hx (by rw [hy]; congr 1; omega) ?_
  have hlt : t.toNat < s.length := by omega
  rw [Pg hb.1 hb.2]
  show (bs s)[t.toNat]? = _
  rw [getElem?_pos (bs s) t.toNat (by rw [nV]; exact hlt)]; rfl
end
section
variable {P : Program} {f : iF} {h : Heap} {ty : TypeId}
theorem iW {t t2 : TypeId} {x y : Operand} {a b : Str} (hx : ev f x = .string (bs a)) (hy : ev f y = .string (bs b)) (hl : (a.length : Int) + b.length <= 9223372036854775807) :
    QV P (.binOp .add t x y t2) ty f h (.string (bs (a ++ b))) := Wi (by simp) hx hy (fun w => by simp [Op.stringOp, go_sem, ← Vx, nV]; omega)
theorem eqT (w : World) (d t : Nat) (a b : Str) (h : P.underlying t = some .string) : (Op.equalIn (d + 1) t (.string (bs a)) (.string (bs b))).run P w = .ok (decide (a = b)) w := by
  rw [run_equalIn_string w d t _ _ h, Dx, Dx]; congr 1; rw [Bool.eq_iff_iff]; simp
theorem Uo (w : World) {d : Nat} {xs ys : Array Value} : (Op.eqFields d xs ys []).run P w = .ok true w := by simp [Op.eqFields]
theorem BK (w : World) {d : Nat} {xs ys : Array Value} {f : Field} {fs : List Field} {a b : Value} {r R : Bool} (hn : f.name ≠ "_") (h1 : (part f.type xs f.offset).run P w = .ok a w) (h2 : (part f.type ys f.offset).run P w = .ok b w)
    (h3 : (Op.equalIn d f.type a b).run P w = .ok r w) (h4 : (Op.eqFields d xs ys fs).run P w = .ok R w) : (Op.eqFields d xs ys (f :: fs)).run P w = .ok (r && R) w := by
  simp only [Op.eqFields, if_pos hn, Sem.run_bind, h1, h2, h3, Result.andThen_ok]
  cases r
  · simp
  · simp [h4]
theorem eqs (w : World) (d t : Nat) (xs ys : Array Value) {fs : Array Field} {R : Bool} (ht : P.underlying t = some (.struct fs)) (hp : P.stoodInHeld t = false) (h : (Op.eqFields d xs ys fs.toList).run P w = .ok R w) :
    (Op.equalIn (d + 1) t (.agg xs) (.agg ys)).run P w = .ok R w := by
  have hf : P.fieldsOf t = fs := by simp [Program.fieldsOf, ht]
  rw [run_equalIn_struct w d t xs ys (by rw [hf]; exact ht) hp, hf]; exact h
theorem EO {α : Type} [DecidableEq α] {t t2 : TypeId} {x y : Operand} {xs ys : Array Value} {a b : α} {E : α -> Value} (H : ∀ a b w, (Op.equalIn 10000 t (E a) (E b)).run P w = .ok (decide (a = b)) w) (hm : P.eqGuardType P.depth t = false)
    (hx : ev f x = .agg xs) (hy : ev f y = .agg ys) (ha : E a = .agg xs) (hb : E b = .agg ys) : QV P (.binOp .eql t x y t2) ty f h (.bool (decide (a = b))) :=
  run_eq hx hy (fun w => run_eqGuard_agg w _ _ _ _ _ _ hm) (fun w _ => by rw [run_eql_struct, ← ha, ← hb, H a b w]; rfl)
theorem QF {α : Type} [DecidableEq α] {t t2 : TypeId} {x y : Operand} {xs ys : Array Value} {a b : α} {E : α -> Value} (H : ∀ a b w, (Op.equalIn 10000 t (E a) (E b)).run P w = .ok (decide (a = b)) w) (hm : P.eqGuardType P.depth t = false)
    (hx : ev f x = .agg xs) (hy : ev f y = .agg ys) (ha : E a = .agg xs) (hb : E b = .agg ys) : QV P (.binOp .neq t x y t2) ty f h (.bool (!decide (a = b))) :=
  run_eq hx hy (fun w => run_eqGuard_agg w _ _ _ _ _ _ hm) (fun w _ => by rw [run_neq_struct, ← ha, ← hb, H a b w]; rfl)
theorem res0 {fn : Func} (hr : fn.results = #[]) : ∀ a w, sl a = f -> w.heap = h -> (results fn a.tmps).run P w = .ok (.tuple #[]) w := V7 hr
theorem Lh {fn : Func} {r s q : ResultVar} (hr : fn.results = #[r, s, q]) {v x y : Value} (h1 : KZ P r f h v) (h2 : KZ P s f h x) (h3 : KZ P q f h y) : ∀ a w, sl a = f -> w.heap = h -> (results fn a.tmps).run P w = .ok (.tuple #[v, x, y]) w := by
  intro a w ha hw
  have e1 := h1 a w ha hw
  have e2 := h2 a w ha hw
  have e3 := h3 a w ha hw
  rw [IL, hr]
  simp [Sem.run_bind, e1, e2, e3, pure, Sem.run]
end
section
variable {P : Program} {n : Nat} {ops : Array Oper} {C C' : Heap -> Prop} {cs cs' : DZ} {listed : Array Bool} {fuel : Nat} {Q : iF -> Heap -> Prop} {f : iF} {h : Heap} {k : Nat}
  {dst : Option Nat} {op : Op} {ty : TypeId} {pos : String} {after : Array Edge} {guard : Option (Nat × Bool)}
def Ge (listed L : Array Bool) : Prop := ∀ j, listed.getD j false = true -> L.getD j false = true
theorem Ge.set {L : Array Bool} (g : Ge listed L) (i : Nat) : Ge listed (L.setIfInBounds i true) := by
  intro j hj
  exact getD_set_true (g j hj)
theorem at_nil (listed : Array Bool) (h : Heap) : DZ.at_ [] listed h := fun _ hc => by cases hc
end
end Go.Wk
namespace Go.Wk
open Go.HL
variable [DM]
end Go.Wk
