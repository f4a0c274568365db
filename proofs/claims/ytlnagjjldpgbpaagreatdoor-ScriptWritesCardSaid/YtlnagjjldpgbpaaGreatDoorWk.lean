/- Steps over integers as they come, and regions whose class of memories turns on the way. -/
import Derived.Test.YtlnagjjldpgbpaaGreatDoorSt
import Derived.Laws.StructEq
set_option linter.unusedSimpArgs false
set_option linter.unusedVariables false
set_option linter.unusedSectionVars false
namespace Go.Wk
open Go.HL
variable [DM]
abbrev I64 (n : Int) : Prop := -9223372036854775808 <= n /\ n <= 9223372036854775807
def gi {α : Type} [Inhabited α] (l : List α) (i : Int) : α := l.getD i.toNat default
def cut {α : Type} (l : List α) (a b : Int) : List α := (l.take b.toNat).drop a.toNat
abbrev Str := List UInt8
def bs (s : Str) : ByteArray := ⟨s.toArray⟩
def kS (s : Str) : List Value := [.string (bs s)]
def lu {S : Type} (B : (S -> Prop) -> S -> Prop) (s : S) : Prop := ∃ (I : S -> Prop) (m : S -> Nat), I s /\ ∀ s, I s -> B (fun s' => I s' /\ m s' < m s) s
theorem iZ {α : Type} [Inhabited α] {l : List α} {i : Nat} (h : i < l.length) : gi l (i : Int) = l[i] := by
  unfold gi; rw [Int.toNat_natCast, List.getD_eq_getElem?_getD, List.getElem?_eq_getElem h]; rfl
theorem Rh {α : Type} [Inhabited α] {l : List α} {t : Int} (h0 : 0 <= t) (h1 : t < (l.length : Int)) : gi l t = l[t.toNat]'(by omega) := by
  unfold gi; rw [List.getD_eq_getElem?_getD, List.getElem?_eq_getElem (by omega)]; rfl
theorem FK (a : Str) : (bs a).toList = a := by
  unfold bs
  have key : ∀ (n i : Nat) (r : List UInt8), n + i = a.length -> ByteArray.toList.loop ⟨a.toArray⟩ i r = r.reverse ++ a.drop i := by
    intro n
    induction n with
    | zero =>
      intro i r hi
      rw [ByteArray.toList.loop]
      have : (ByteArray.mk a.toArray).size = a.length := by simp [ByteArray.size]
      rw [if_neg (by omega)]
      simp [show i = a.length by omega]
    | succ n ih =>
      intro i r hi
      rw [ByteArray.toList.loop]
      have : (ByteArray.mk a.toArray).size = a.length := by simp [ByteArray.size]
      rw [if_pos (by omega), ih (i + 1) _ (by omega)]
      have hlt : i < a.length := by omega
      have hg : (ByteArray.mk a.toArray).get! i = a[i] := by
        show a.toArray[i]! = _
        rw [getElem!_pos a.toArray i (by simpa using hlt)]; simp
      rw [hg, List.drop_eq_getElem_cons hlt]
      simp
  have := key a.length 0 [] (by omega)
  simpa [ByteArray.toList] using this
theorem pR (a : Str) : (bs a).size = a.length := by simp [bs, ByteArray.size]
theorem XE (a b : Str) : bs a ++ bs b = bs (a ++ b) := by
  apply ByteArray.ext
  rw [ByteArray.data_append]
  simp [bs]
def Fh (k : IntKind) (n : Int) : List Value := [.int k n]
theorem mD {p : Prop} [Decidable p] (h : (!decide p) = true) : ¬ p := by simpa using h
theorem kM {p : Prop} [Decidable p] (h : (!decide p) = false) : p := by simpa using h
def cutV (k : Nat) (v : Value) (lo hi : Nat) : Value :=
  match v with
  | .slice a _ cap => sliced a lo hi cap k
  | _ => undef
theorem Ui (k : Nat) (v : Value) (lo hi : Nat) : jF (cutV k v lo hi) = jF v := by
  cases v with
  | slice a n c =>
    cases a with
    | none => simp only [cutV, sliced]; split <;> rfl
    | some a =>
      simp only [cutV, sliced]
      split
      · rfl
      · simp only [Option.map_some, jF]; unfold Addr.add; split <;> rfl
  | _ => rfl
def Shp (v : Value) (n : Nat) : Prop := ∃ a cap, v = .slice a n cap
theorem Shp.cells {v : Value} {n : Nat} (s : Shp v n) : v.cells = #[v] := by obtain ⟨a, cap, rfl⟩ := s; rfl
theorem Shp.one {v : Value} {n : Nat} (s : Shp v n) : v.oneCell' = true := by obtain ⟨a, cap, rfl⟩ := s; rfl
section
variable {P : Program} {f : jk} {h : Heap} {ty : TypeId} {α : Type} [Inhabited α] {E k T : Nat} {enc : α -> List Value} {v : Value} {l : List α} {F F' : Fz}
theorem yB (s : gI h k enc v l) : Shp v l.length := by obtain ⟨⟨a, cap, hv, _⟩, _⟩ := s; exact ⟨a, cap, hv⟩
theorem NI (s : gI h k enc v l) (lo hi : Int) (h0 : 0 <= lo) (h1 : lo <= hi) (h2 : hi <= (l.length : Int)) : gI h k enc (cutV k v lo.toNat hi.toNat) (cut l lo hi) := by
  obtain ⟨⟨a, cap, hv, hc1, hc2, h3⟩, h4⟩ := s
  unfold cut
  have hlen : ((l.take hi.toNat).drop lo.toNat).length = hi.toNat - lo.toNat := by rw [List.length_drop, List.length_take]; omega
  refine ⟨?_, fun x hx => h4 x (List.mem_of_mem_take (List.mem_of_mem_drop hx))⟩
  subst hv
  refine ⟨if cap = lo.toNat then a else a.map (·.add (lo.toNat * k)), cap - lo.toNat, ?_, by omega, by omega, ?_⟩
  · simp only [cutV, sliced, hlen]
  · by_cases hnil : (l.take hi.toNat).drop lo.toNat = []
    · exact .inl hnil
    · right
      have hp : 0 < ((l.take hi.toNat).drop lo.toNat).length := List.length_pos_iff.2 hnil
      rcases h3 with h3 | ⟨b, off, rfl, hb, hr⟩
      · subst h3; simp at hp
      · refine ⟨b, off + lo.toNat * k, ?_, hb, ?_⟩
        · rw [if_neg (by omega)]; simp only [Option.map_some, Bv]
        · intro i hi' j hj
          have e : ((l.take hi.toNat).drop lo.toNat)[i] = l[lo.toNat + i]'(by omega) := by
            rw [List.getElem_drop, List.getElem_take]
          have := hr (lo.toNat + i) (by omega) j (by rw [← e]; exact hj)
          rw [show off + lo.toNat * k + i * k + j = off + (lo.toNat + i) * k + j from by rw [Nat.add_mul]; omega]
          rw [this]; simp only [e]
theorem aez (s : bC F h k enc v l) (lo hi : Int) (h0 : 0 <= lo) (h1 : lo <= hi) (h2 : hi <= (l.length : Int)) : bC F h k enc (cutV k v lo.toNat hi.toNat) (cut l lo hi) :=
  ⟨NI s.is lo hi h0 h1 h2, fun hl b hb => s.fz (fun e => hl (by unfold cut; rw [e]; simp)) b (by rw [Ui] at hb; exact hb)⟩
theorem q_len {E k' : Nat} {ts : Array TypeId} {x : Operand} {n : Nat} (hT : Df P T E k') (hS : Shp v n) (hx : ev f x = v) (ht : ts[0]? = some T) :
    QV P (.call ⟨.builtin .len, #[x], ts⟩) ty f h (.int .i64 (n : Int)) := by
  obtain ⟨a, cap, rfl⟩ := hS
  intro dst pos after guard w _
  simp [execOp, resolve, invoke, builtin, hx, Builtin.len_, ht, run_underlying hT.und, goInt, go_sem]
theorem nN {x y : Operand} {kk : IntKind} {t : Int} (hT : Df P T E k) (hS : gI h k enc v l) (hx : ev f x = v) (hy : ev f y = .int kk t) (hb : 0 <= t /\ t < (l.length : Int)) :
    QV P (.indexAddr T x y) ty f h (fV k v t.toNat) :=
  TB hT hS hx (by rw [hy]; congr 1; omega) (by omega)
theorem nM {T : TypeId} {x : Operand} {u : Value} {t : Int} (hT : Jb P T) (hS : gI h k enc v l) (hx : ev f x = fV k v t.toNat) (hb : 0 <= t /\ t < (l.length : Int)) (hu : enc (gi l t) = [u]) :
    QV P (.load T x) ty f h u := by
  rw [Rh hb.1 hb.2] at hu
  exact UQ hT hS hx (by omega) hu
theorem jK {T : TypeId} {x : Operand} {t : Int} {cs : List Value} (hT : Qm P T k) (hS : gI h k enc v l) (hx : ev f x = fV k v t.toNat) (hb : 0 <= t /\ t < (l.length : Int)) (hu : enc (gi l t) = cs) :
    QV P (.load T x) ty f h (.agg cs.toArray) := by
  rw [Rh hb.1 hb.2] at hu; subst hu
  exact Qw hT hS hx (by omega)
theorem WZ {s i off : Nat} {x : Operand} {t : Int} (hF : uw P s i off) (hS : gI h k enc v l) (hx : ev f x = fV k v t.toNat) (hb : 0 <= t /\ t < (l.length : Int)) : QV P (.fieldAddr s x i) ty f h (xE k v t.toNat off) :=
  TC hF (hS.shape (List.ne_nil_of_length_pos (by omega))) hx
theorem WY {T' : TypeId} {x : Operand} {u : Value} {t : Int} {j : Nat} (hT : Jb P T') (hS : gI h k enc v l) (hx : ev f x = xE k v t.toNat j) (hb : 0 <= t /\ t < (l.length : Int)) (hj : j < k) (hu : (enc (gi l t))[j]? = some u) :
    QV P (.load T' x) ty f h u := by
  rw [Rh hb.1 hb.2] at hu
  exact TA hT hS hx (by omega) hj hu
theorem aaP {kh : _} {x z : Operand} {hi : Int} (hT : Df P T E k) (hS : gI h k enc v l) (hx : ev f x = v) (hz : ev f z = .int kh hi) (hb : 0 <= hi /\ hi <= (l.length : Int)) :
    QV P (.slice T x none (some z) none) ty f h (cutV k v (0 : Int).toNat hi.toNat) := by
  obtain ⟨⟨a, cap, hv, hc1, hc2, h3⟩, h4⟩ := hS
  subst hv
  intro dst pos after guard w _
  have hel : P.elem T = E := by simp [Program.elem, hT.und]
  have hu : P.underlying T = some (.slice (P.elem T)) := by rw [hel]; exact hT.und
  have hs := hT.size w; rw [← hel] at hs
  simp only [execOp, hx, Option.map_some, Option.map_none, hz]
  rw [Sem.run_bind, run_sliceAt_slice (P := P) (w := w) T _ _ _ _ hu, run_slice_h (P := P) (w := w) T a l.length cap hu kh hi (by omega) (by omega), hs]
  rfl
theorem Yw {kl : _} {x y : Operand} {lo : Int} (hT : Df P T E k) (hS : gI h k enc v l) (hx : ev f x = v) (hy : ev f y = .int kl lo) (hb : 0 <= lo /\ lo <= (l.length : Int)) :
    QV P (.slice T x (some y) none none) ty f h (cutV k v lo.toNat ((l.length : Nat) : Int).toNat) := by
  obtain ⟨⟨a, cap, hv, hc1, hc2, h3⟩, h4⟩ := hS
  subst hv
  intro dst pos after guard w _
  have hel : P.elem T = E := by simp [Program.elem, hT.und]
  have hu : P.underlying T = some (.slice (P.elem T)) := by rw [hel]; exact hT.und
  have hs := hT.size w; rw [← hel] at hs
  simp only [execOp, hx, Option.map_some, Option.map_none, hy]
  rw [Sem.run_bind, run_sliceAt_slice (P := P) (w := w) T _ _ _ _ hu, run_slice_l (P := P) (w := w) T a l.length cap hu kl lo (by omega) (by omega), hs]
  rfl
end
section
variable {P : Program} {f : jk} {h : Heap} {ty : TypeId}
theorem yP {t t2 : TypeId} {x y : Operand} {a b : Str} (hx : ev f x = .string (bs a)) (hy : ev f y = .string (bs b)) :
    QV P (.binOp .eql t x y t2) ty f h (.bool (decide (a = b))) := (abN hx hy).of_eq (by rw [FK, FK]; congr 1; rw [Bool.eq_iff_iff]; simp)
theorem Ik {t t2 : TypeId} {x y : Operand} {a b : Str} (hx : ev f x = .string (bs a)) (hy : ev f y = .string (bs b)) :
    QV P (.binOp .neq t x y t2) ty f h (.bool (!decide (a = b))) := (abM hx hy).of_eq (by rw [FK, FK]; congr 2; rw [Bool.eq_iff_iff]; simp)
theorem pU {T : Nat} {ts : Array TypeId} {x : Operand} {s : Str} (hT : P.underlying T = some .string) (hx : ev f x = .string (bs s)) (ht : ts[0]? = some T) :
    QV P (.call ⟨.builtin .len, #[x], ts⟩) ty f h (.int .i64 (s.length : Int)) := (Yz hT hx ht).of_eq (by rw [pR])
theorem kV {T : Nat} {x y : Operand} {s : Str} {kk : IntKind} {t : Int} (hT : P.underlying T = some .string) (hx : ev f x = .string (bs s)) (hy : ev f y = .int kk t) (hb : 0 <= t /\ t < (s.length : Int)) :
    QV P (.index T x y) ty f h (.int .u8 ((gi s t).toNat : Int)) := by
  refine UR (i := t.toNat) hT hx (by rw [hy]; congr 1; omega) ?_
  have hlt : t.toNat < s.length := by omega
  rw [Rh hb.1 hb.2]
  show (bs s)[t.toNat]? = _
  rw [getElem?_pos (bs s) t.toNat (by rw [pR]; exact hlt)]; rfl
end
section
variable {P : Program} {f : jk} {h : Heap} {ty : TypeId}
theorem jw {t t2 : TypeId} {x y : Operand} {a b : Str} (hx : ev f x = .string (bs a)) (hy : ev f y = .string (bs b)) (hl : (a.length : Int) + b.length <= 9223372036854775807) :
    QV P (.binOp .add t x y t2) ty f h (.string (bs (a ++ b))) := Yv (by simp) hx hy (fun w => by simp [Op.stringOp, go_sem, ← XE, pR]; omega)
theorem eqT (w : World) (d t : Nat) (a b : Str) (h : P.underlying t = some .string) : (Op.equalIn (d + 1) t (.string (bs a)) (.string (bs b))).run P w = .ok (decide (a = b)) w := by
  rw [run_equalIn_string w d t _ _ h, FK, FK]; congr 1; rw [Bool.eq_iff_iff]; simp
theorem Wi (w : World) {d : Nat} {xs ys : Array Value} : (Op.eqFields d xs ys []).run P w = .ok true w := by simp [Op.eqFields]
theorem Eh (w : World) {d : Nat} {xs ys : Array Value} {f : Field} {fs : List Field} {a b : Value} {r R : Bool} (hn : f.name ≠ "_") (h1 : (part f.type xs f.offset).run P w = .ok a w) (h2 : (part f.type ys f.offset).run P w = .ok b w)
    (h3 : (Op.equalIn d f.type a b).run P w = .ok r w) (h4 : (Op.eqFields d xs ys fs).run P w = .ok R w) : (Op.eqFields d xs ys (f :: fs)).run P w = .ok (r && R) w := by
  simp only [Op.eqFields, if_pos hn, Sem.run_bind, h1, h2, h3, Result.andThen_ok]
  cases r
  · simp
  · simp [h4]
theorem eqs (w : World) (d t : Nat) (xs ys : Array Value) {fs : Array Field} {R : Bool} (ht : P.underlying t = some (.struct fs)) (hp : P.stoodInHeld t = false) (h : (Op.eqFields d xs ys fs.toList).run P w = .ok R w) :
    (Op.equalIn (d + 1) t (.agg xs) (.agg ys)).run P w = .ok R w := by
  have hf : P.fieldsOf t = fs := by simp [Program.fieldsOf, ht]
  rw [run_equalIn_struct w d t xs ys (by rw [hf]; exact ht) hp, hf]; exact h
theorem Cf {α : Type} [DecidableEq α] {t t2 : TypeId} {x y : Operand} {xs ys : Array Value} {a b : α} {E : α -> Value} (H : ∀ a b w, (Op.equalIn 10000 t (E a) (E b)).run P w = .ok (decide (a = b)) w) (hm : P.eqGuardType P.depth t = false)
    (hx : ev f x = .agg xs) (hy : ev f y = .agg ys) (ha : E a = .agg xs) (hb : E b = .agg ys) : QV P (.binOp .eql t x y t2) ty f h (.bool (decide (a = b))) :=
  run_eq hx hy (fun w => run_eqGuard_agg w _ _ _ _ _ _ hm) (fun w _ => by rw [run_eql_struct, ← ha, ← hb, H a b w]; rfl)
theorem Tz {α : Type} [DecidableEq α] {t t2 : TypeId} {x y : Operand} {xs ys : Array Value} {a b : α} {E : α -> Value} (H : ∀ a b w, (Op.equalIn 10000 t (E a) (E b)).run P w = .ok (decide (a = b)) w) (hm : P.eqGuardType P.depth t = false)
    (hx : ev f x = .agg xs) (hy : ev f y = .agg ys) (ha : E a = .agg xs) (hb : E b = .agg ys) : QV P (.binOp .neq t x y t2) ty f h (.bool (!decide (a = b))) :=
  run_eq hx hy (fun w => run_eqGuard_agg w _ _ _ _ _ _ hm) (fun w _ => by rw [run_neq_struct, ← ha, ← hb, H a b w]; rfl)
theorem res0 {fn : Func} (hr : fn.results = #[]) : ∀ a w, sl a = f -> w.heap = h -> (results fn a.tmps).run P w = .ok (.tuple #[]) w := Yg hr
theorem NR {fn : Func} {r s q : ResultVar} (hr : fn.results = #[r, s, q]) {v x y : Value} (h1 : NK P r f h v) (h2 : NK P s f h x) (h3 : NK P q f h y) : ∀ a w, sl a = f -> w.heap = h -> (results fn a.tmps).run P w = .ok (.tuple #[v, x, y]) w := by
  intro a w ha hw
  have e1 := h1 a w ha hw
  have e2 := h2 a w ha hw
  have e3 := h3 a w ha hw
  rw [KA, hr]
  simp [Sem.run_bind, e1, e2, e3, pure, Sem.run]
end
section
variable {P : Program} {n : Nat} {ops : Array Oper} {C C' : Heap -> Prop} {cs cs' : wC} {listed : Array Bool} {fuel : Nat} {Q : jk -> Heap -> Prop} {f : jk} {h : Heap} {k : Nat}
  {dst : Option Nat} {op : Op} {ty : TypeId} {pos : String} {after : Array Edge} {guard : Option (Nat × Bool)}
def Ge (listed L : Array Bool) : Prop := ∀ j, listed.getD j false = true -> L.getD j false = true
theorem Ge.set {L : Array Bool} (g : Ge listed L) (i : Nat) : Ge listed (L.setIfInBounds i true) := by
  intro j hj
  exact getD_set_true (g j hj)
theorem QG {md : Region.Mode} {D D' : Array Bool -> World -> Prop} {Q : Exit -> Act -> World -> Prop} (hc : ∀ L w, Ge listed L -> D' L w -> D L w) : ∀ (fuel : Nat) (L : Array Bool) (a : Act) (w : World), Ge listed L -> GI P md ops D' Q fuel L a w -> GI P md ops D Q fuel L a w
  | 0, L, a, w, g, H => ⟨hc L w g H.1, H.2⟩
  | fuel + 1, L, a, w, g, H => ⟨hc L w g H.1, H.2.1, fun i hi => wpOp_mono (fun a w H => QG hc fuel _ a w (g.set i) H) (H.2.2 i hi)⟩
theorem HA.re (C' : Heap -> Prop) (cs' : wC) (hc : ∀ L h, Ge listed L -> C' h -> cs'.at_ L h -> C h /\ cs.at_ L h) (H : HA P n ops C' cs' fuel listed Q f h) : HA P n ops C cs fuel listed Q f h := by
  intro w₀ a w hcl hs hd hf hk hh
  exact QG (fun L w g q => ⟨q.1, hc L w.heap g q.2.1 q.2.2⟩) _ _ _ _ (fun _ h => h) (H w₀ a w hcl hs hd hf hk hh)
theorem at_nil (listed : Array Bool) (h : Heap) : wC.at_ [] listed h := fun _ hc => by cases hc
theorem WH {L : Array Bool} {e : Nat} {S : Heap -> Prop} (g : Ge listed L) (hd : listed.getD e false = true) (r : wC.at_ cs L h) : wC.at_ ((e, S) :: cs) L h := by
  intro x hx hl
  rcases List.mem_cons.1 hx with rfl | hx
  · rw [g e hd] at hl; cases hl
  · exact r x hx hl
theorem aaz {L : Array Bool} {e : Nat} {S S' : Heap -> Prop} (i : Nat) (he : cs'[i]? = some (e, S')) (hs : wC.at_ cs' L h) (imp : S' h -> S h) (r : wC.at_ cs L h) : wC.at_ ((e, S) :: cs) L h := by
  intro x hx hl
  rcases List.mem_cons.1 hx with rfl | hx
  · exact imp (hs _ (List.mem_of_getElem? he) hl)
  · exact r x hx hl
theorem Nh {L : Array Bool} {e : Nat} {S : Heap -> Prop} (s : S h) (r : wC.at_ cs L h) : wC.at_ ((e, S) :: cs) L h := by
  intro x hx hl
  rcases List.mem_cons.1 hx with rfl | hx
  · exact s
  · exact r x hx hl
theorem WI {L : Array Bool} {e : Nat} {S : Heap -> Prop} (hd : L.getD e false = true) (r : wC.at_ cs L h) : wC.at_ ((e, S) :: cs) L h := WH (listed := L) (fun _ h => h) hd r
def RD (ops : Array Oper) : Nat -> Nat -> Nat -> Bool
  | 0, _, _ => false
  | n + 1, e, k => match ops[e]? with
    | some o => o.after.any fun x => Region.binds .any x && (Nat.beq x.on k || RD ops n x.on k)
    | none => false
theorem Jf {ops : Array Oper} {listed : Array Bool} (hcl : Closed .any ops listed) : ∀ (n e k : Nat), RD ops n e k = true -> listed.getD k true = false -> listed.getD e false = false
  | 0, _, _, hw, _ => by cases hw
  | n + 1, e, k, hw, hk => by
    unfold RD at hw
    cases he : ops[e]? with
    | none => rw [he] at hw; cases hw
    | some o =>
      rw [he] at hw
      obtain ⟨x, hx, hb⟩ := Array.any_eq_true'.1 hw
      simp only [Bool.and_eq_true, Bool.or_eq_true] at hb
      cases hl : listed.getD e false with
      | false => rfl
      | true =>
        have hl' : listed.getD e true = true := by
          rcases Nat.lt_or_ge e listed.size with h' | h'
          · simp [h'] at hl ⊢; exact hl
          · simp [Array.getElem?_eq_none h'] at hl
        have h1 := hcl e o he hl' x hx hb.1
        rcases hb.2 with h2 | h2
        · rw [Nat.eq_of_beq_eq_true h2] at h1
          rcases Nat.lt_or_ge k listed.size with h' | h'
          · simp [h'] at hk h1; rw [hk] at h1; cases h1
          · simp [Array.getElem?_eq_none h'] at hk
        · have := Jf hcl n x.on k h2 hk
          rw [this] at h1; cases h1
theorem HA.ZM {v : Value} (i e : Nat) (S : Heap -> Prop) (hni : NC cs k = true) (hk : ops[k]? = some (Oper.mk dst op ty pos after guard)) (hsel : Region.noSelect ops = true)
    (hB : ((Region.ready .any ops listed).contains k && Region.free .any ops listed k) = true) (hw : Want ops guard f) (hd : vZ n dst = true)
    (he : cs[i]? = some (e, S)) (hwt : RD ops 40 e k = true) (hr : ∀ h', C h' -> S h' -> QV P op ty f h' v) (K : HA P n ops C cs fuel (listed.setIfInBounds k true) Q (Ee f dst v) h) : HA P n ops C cs (fuel + 1) listed Q f h :=
  Go.HL.HA.quiet hni hk hsel hB hd (fun w₀ a hf => .inl ⟨sQ hw a hf, fun listed w' hcl hp hw' => by rw [eval_eq, hf]; exact hr _ hw'.2.1 (hw'.2.2 _ (List.mem_of_getElem? he) (Jf hcl _ _ _ hwt hp)) _ _ _ _ w' rfl⟩) K
end
end Go.Wk
namespace Go.Wk
open Go.HL
variable [DM]
end Go.Wk
