/- Steps over integers as they come, and regions whose class of memories turns on the way. -/
import Derived.Test.YtmbkoonblmfdpaaGreatSt
import Derived.Laws.StructEq
set_option linter.unusedSimpArgs false
set_option linter.unusedVariables false
set_option linter.unusedSectionVars false
namespace Go.Wk
open Go.HL
variable [DM]
abbrev I64 (n : Int) : Prop := -9223372036854775808 <= n /\ n <= 9223372036854775807
def gi {α : Type} [Inhabited α] (l : List α) (i : Int) : α := l.getD i.toNat default
def cut {α : Type} (l : List α) (a b : Int) : List α := (l.take b.toNat).drop a.toNat
abbrev Str := List UInt8
def bs (s : Str) : ByteArray := ⟨s.toArray⟩
def Ah (s : Str) : List Value := [.string (bs s)]
def uH {S : Type} (B : (S -> Prop) -> S -> Prop) (s : S) : Prop := ∃ (I : S -> Prop) (m : S -> Nat), I s /\ ∀ s, I s -> B (fun s' => I s' /\ m s' < m s) s
theorem qB {α : Type} [Inhabited α] {l : List α} {i : Nat} (h : i < l.length) : gi l (i : Int) = l[i] := by
  unfold gi; rw [Int.toNat_natCast, List.getD_eq_getElem?_getD, List.getElem?_eq_getElem h]; rfl
theorem SY {α : Type} [Inhabited α] {l : List α} {t : Int} (h0 : 0 <= t) (h1 : t < (l.length : Int)) : gi l t = l[t.toNat]'(by omega) := by
  unfold gi; rw [List.getD_eq_getElem?_getD, List.getElem?_eq_getElem (by omega)]; rfl
theorem WI (a : Str) : (bs a).toList = a := by
  unfold bs
  have key : ∀ (n i : Nat) (r : List UInt8), n + i = a.length -> ByteArray.toList.loop ⟨a.toArray⟩ i r = r.reverse ++ a.drop i := by
    intro n
    induction n with
    | zero =>
      intro i r hi
      rw [ByteArray.toList.loop]
      have : (ByteArray.mk a.toArray).size = a.length := by simp [ByteArray.size]
      rw [if_neg (by omega)]
      simp [show i = a.length by omega]
    | succ n ih =>
      intro i r hi
      rw [ByteArray.toList.loop]
      have : (ByteArray.mk a.toArray).size = a.length := by simp [ByteArray.size]
      rw [if_pos (by omega), ih (i + 1) _ (by omega)]
      have hlt : i < a.length := by omega
      have hg : (ByteArray.mk a.toArray).get! i = a[i] := by
        show a.toArray[i]! = _
        rw [getElem!_pos a.toArray i (by simpa using hlt)]; simp
      rw [hg, List.drop_eq_getElem_cons hlt]
      simp
  have := key a.length 0 [] (by omega)
  simpa [ByteArray.toList] using this
theorem aaL (a : Str) : (bs a).size = a.length := by simp [bs, ByteArray.size]
def Ai (k : IntKind) (n : Int) : List Value := [.int k n]
theorem O6 {p : Prop} [Decidable p] (h : (!decide p) = true) : ¬ p := by simpa using h
theorem L9 {p : Prop} [Decidable p] (h : (!decide p) = false) : p := by simpa using h
def D8 {κ ν : Type} [DecidableEq κ] [Inhabited ν] (m : List (κ × ν)) (k : κ) : ν := (qU m k).getD default
def cutV (k : Nat) (v : Value) (lo hi : Nat) : Value :=
  match v with
  | .slice a _ cap => sliced a lo hi cap k
  | _ => undef
theorem Tc (k : Nat) (v : Value) (lo hi : Nat) : lC (cutV k v lo hi) = lC v := by
  cases v with
  | slice a n c =>
    cases a with
    | none => simp only [cutV, sliced]; split <;> rfl
    | some a =>
      simp only [cutV, sliced]
      split
      · rfl
      · simp only [Option.map_some, lC]; unfold Addr.add; split <;> rfl
  | _ => rfl
def Shp (v : Value) (n : Nat) : Prop := ∃ a cap, v = .slice a n cap
theorem Shp.cells {v : Value} {n : Nat} (s : Shp v n) : v.cells = #[v] := by obtain ⟨a, cap, rfl⟩ := s; rfl
theorem Shp.one {v : Value} {n : Nat} (s : Shp v n) : v.oneCell' = true := by obtain ⟨a, cap, rfl⟩ := s; rfl
section
variable {P : Program} {f : kT} {h : Heap} {ty : TypeId} {α : Type} [Inhabited α] {E k T : Nat} {enc : α -> List Value} {v : Value} {l : List α} {F F' : Fz}
theorem oh (s : gY h k enc v l) : Shp v l.length := by obtain ⟨⟨a, cap, hv, _⟩, _⟩ := s; exact ⟨a, cap, hv⟩
theorem FC (s : gY h k enc v l) (lo hi : Int) (h0 : 0 <= lo) (h1 : lo <= hi) (h2 : hi <= (l.length : Int)) : gY h k enc (cutV k v lo.toNat hi.toNat) (cut l lo hi) := by
  obtain ⟨⟨a, cap, hv, hc1, hc2, h3⟩, h4⟩ := s
  unfold cut
  have hlen : ((l.take hi.toNat).drop lo.toNat).length = hi.toNat - lo.toNat := by rw [List.length_drop, List.length_take]; omega
  refine ⟨?_, fun x hx => h4 x (List.mem_of_mem_take (List.mem_of_mem_drop hx))⟩
  subst hv
  refine ⟨if cap = lo.toNat then a else a.map (·.add (lo.toNat * k)), cap - lo.toNat, ?_, by omega, by omega, ?_⟩
  · simp only [cutV, sliced, hlen]
  · by_cases hnil : (l.take hi.toNat).drop lo.toNat = []
    · exact .inl hnil
    · right
      have hp : 0 < ((l.take hi.toNat).drop lo.toNat).length := List.length_pos_iff.2 hnil
      rcases h3 with h3 | ⟨b, off, rfl, hb, hr⟩
      · subst h3; simp at hp
      · refine ⟨b, off + lo.toNat * k, ?_, hb, ?_⟩
        · rw [if_neg (by omega)]; simp only [Option.map_some, Dx]
        · intro i hi' j hj
          have e : ((l.take hi.toNat).drop lo.toNat)[i] = l[lo.toNat + i]'(by omega) := by
            rw [List.getElem_drop, List.getElem_take]
          have := hr (lo.toNat + i) (by omega) j (by rw [← e]; exact hj)
          rw [show off + lo.toNat * k + i * k + j = off + (lo.toNat + i) * k + j from by rw [Nat.add_mul]; omega]
          rw [this]; simp only [e]
theorem aeo (s : az F h k enc v l) (lo hi : Int) (h0 : 0 <= lo) (h1 : lo <= hi) (h2 : hi <= (l.length : Int)) : az F h k enc (cutV k v lo.toNat hi.toNat) (cut l lo hi) :=
  ⟨FC s.is lo hi h0 h1 h2, fun hl b hb => s.fz (fun e => hl (by unfold cut; rw [e]; simp)) b (by rw [Tc] at hb; exact hb)⟩
theorem q_len {E k' : Nat} {ts : Array TypeId} {x : Operand} {n : Nat} (hT : Ed P T E k') (hS : Shp v n) (hx : ev f x = v) (ht : ts[0]? = some T) :
    QV P (.call ⟨.builtin .len, #[x], ts⟩) ty f h (.int .i64 (n : Int)) := by
  obtain ⟨a, cap, rfl⟩ := hS
  intro dst pos after guard w _
  simp [execOp, resolve, invoke, builtin, hx, Builtin.len_, ht, run_underlying hT.und, goInt, go_sem]
theorem nZ {x y : Operand} {kk : IntKind} {t : Int} (hT : Ed P T E k) (hS : gY h k enc v l) (hx : ev f x = v) (hy : ev f y = .int kk t) (hb : 0 <= t /\ t < (l.length : Int)) :
    QV P (.indexAddr T x y) ty f h (iE k v t.toNat) :=
  Ym hT hS hx (by rw [hy]; congr 1; omega) (by omega)
theorem jc {T : TypeId} {x : Operand} {t : Int} {cs : List Value} (hT : KF P T k) (hS : gY h k enc v l) (hx : ev f x = iE k v t.toNat) (hb : 0 <= t /\ t < (l.length : Int)) (hu : enc (gi l t) = cs) :
    QV P (.load T x) ty f h (.agg cs.toArray) := by
  rw [SY hb.1 hb.2] at hu; subst hu
  exact VR hT hS hx (by omega)
theorem pV {s i off : Nat} {x : Operand} {t : Int} (hF : kN P s i off) (hS : gY h k enc v l) (hx : ev f x = iE k v t.toNat) (hb : 0 <= t /\ t < (l.length : Int)) : QV P (.fieldAddr s x i) ty f h (nD k v t.toNat off) :=
  Yn hF (hS.shape (List.ne_nil_of_length_pos (by omega))) hx
theorem wH {T' : TypeId} {x : Operand} {u : Value} {t : Int} {j : Nat} (hT : Ji P T') (hS : gY h k enc v l) (hx : ev f x = nD k v t.toNat j) (hb : 0 <= t /\ t < (l.length : Int)) (hj : j < k) (hu : (enc (gi l t))[j]? = some u) :
    QV P (.load T' x) ty f h u := by
  rw [SY hb.1 hb.2] at hu
  exact Yl hT hS hx (by omega) hj hu
theorem aab {kh : _} {x z : Operand} {hi : Int} (hT : Ed P T E k) (hS : gY h k enc v l) (hx : ev f x = v) (hz : ev f z = .int kh hi) (hb : 0 <= hi /\ hi <= (l.length : Int)) :
    QV P (.slice T x none (some z) none) ty f h (cutV k v (0 : Int).toNat hi.toNat) := by
  obtain ⟨⟨a, cap, hv, hc1, hc2, h3⟩, h4⟩ := hS
  subst hv
  intro dst pos after guard w _
  have hel : P.elem T = E := by simp [Program.elem, hT.und]
  have hu : P.underlying T = some (.slice (P.elem T)) := by rw [hel]; exact hT.und
  have hs := hT.size w; rw [← hel] at hs
  simp only [execOp, hx, Option.map_some, Option.map_none, hz]
  rw [Sem.run_bind, run_sliceAt_slice (P := P) (w := w) T _ _ _ _ hu, run_slice_h (P := P) (w := w) T a l.length cap hu kh hi (by omega) (by omega), hs]
  rfl
theorem Qz {kl : _} {x y : Operand} {lo : Int} (hT : Ed P T E k) (hS : gY h k enc v l) (hx : ev f x = v) (hy : ev f y = .int kl lo) (hb : 0 <= lo /\ lo <= (l.length : Int)) :
    QV P (.slice T x (some y) none none) ty f h (cutV k v lo.toNat ((l.length : Nat) : Int).toNat) := by
  obtain ⟨⟨a, cap, hv, hc1, hc2, h3⟩, h4⟩ := hS
  subst hv
  intro dst pos after guard w _
  have hel : P.elem T = E := by simp [Program.elem, hT.und]
  have hu : P.underlying T = some (.slice (P.elem T)) := by rw [hel]; exact hT.und
  have hs := hT.size w; rw [← hel] at hs
  simp only [execOp, hx, Option.map_some, Option.map_none, hy]
  rw [Sem.run_bind, run_sliceAt_slice (P := P) (w := w) T _ _ _ _ hu, run_slice_l (P := P) (w := w) T a l.length cap hu kl lo (by omega) (by omega), hs]
  rfl
end
section
variable {P : Program} {f : kT} {h : Heap} {ty : TypeId}
theorem afo {t t2 : TypeId} {x y : Operand} {a b : Str} (hx : ev f x = .string (bs a)) (hy : ev f y = .string (bs b)) :
    QV P (.binOp .eql t x y t2) ty f h (.bool (decide (a = b))) := (afp hx hy).of_eq (by rw [WI, WI]; congr 1; rw [Bool.eq_iff_iff]; simp)
theorem Zm {T : Nat} {ts : Array TypeId} {x : Operand} {s : Str} (hT : P.underlying T = some .string) (hx : ev f x = .string (bs s)) (ht : ts[0]? = some T) :
    QV P (.call ⟨.builtin .len, #[x], ts⟩) ty f h (.int .i64 (s.length : Int)) := (abX hT hx ht).of_eq (by rw [aaL])
end
section
variable {P : Program} {f : kT} {h : Heap} {ty : TypeId}
theorem aen (w : World) {d : Nat} {xs ys : Array Value} : (Op.eqFields d xs ys []).run P w = .ok true w := by simp [Op.eqFields]
theorem Y3 (w : World) {d : Nat} {xs ys : Array Value} {f : Field} {fs : List Field} {a b : Value} {r R : Bool} (hn : f.name ≠ "_") (h1 : (part f.type xs f.offset).run P w = .ok a w) (h2 : (part f.type ys f.offset).run P w = .ok b w)
    (h3 : (Op.equalIn d f.type a b).run P w = .ok r w) (h4 : (Op.eqFields d xs ys fs).run P w = .ok R w) : (Op.eqFields d xs ys (f :: fs)).run P w = .ok (r && R) w := by
  simp only [Op.eqFields, if_pos hn, Sem.run_bind, h1, h2, h3, Result.andThen_ok]
  cases r
  · simp
  · simp [h4]
theorem eqs (w : World) (d t : Nat) (xs ys : Array Value) {fs : Array Field} {R : Bool} (ht : P.underlying t = some (.struct fs)) (hp : P.stoodInHeld t = false) (h : (Op.eqFields d xs ys fs.toList).run P w = .ok R w) :
    (Op.equalIn (d + 1) t (.agg xs) (.agg ys)).run P w = .ok R w := by
  have hf : P.fieldsOf t = fs := by simp [Program.fieldsOf, ht]
  rw [run_equalIn_struct w d t xs ys (by rw [hf]; exact ht) hp, hf]; exact h
theorem J7 {α : Type} [DecidableEq α] {t t2 : TypeId} {x y : Operand} {xs ys : Array Value} {a b : α} {E : α -> Value} (H : ∀ a b w, (Op.equalIn 10000 t (E a) (E b)).run P w = .ok (decide (a = b)) w) (hm : P.eqGuardType P.depth t = false)
    (hx : ev f x = .agg xs) (hy : ev f y = .agg ys) (ha : E a = .agg xs) (hb : E b = .agg ys) : QV P (.binOp .eql t x y t2) ty f h (.bool (decide (a = b))) :=
  run_eq hx hy (fun w => run_eqGuard_agg w _ _ _ _ _ _ hm) (fun w _ => by rw [run_eql_struct, ← ha, ← hb, H a b w]; rfl)
theorem UI {α : Type} [DecidableEq α] {t t2 : TypeId} {x y : Operand} {xs ys : Array Value} {a b : α} {E : α -> Value} (H : ∀ a b w, (Op.equalIn 10000 t (E a) (E b)).run P w = .ok (decide (a = b)) w) (hm : P.eqGuardType P.depth t = false)
    (hx : ev f x = .agg xs) (hy : ev f y = .agg ys) (ha : E a = .agg xs) (hb : E b = .agg ys) : QV P (.binOp .neq t x y t2) ty f h (.bool (!decide (a = b))) :=
  run_eq hx hy (fun w => run_eqGuard_agg w _ _ _ _ _ _ hm) (fun w _ => by rw [run_neq_struct, ← ha, ← hb, H a b w]; rfl)
theorem res0 {fn : Func} (hr : fn.results = #[]) : ∀ a w, sl a = f -> w.heap = h -> (results fn a.tmps).run P w = .ok (.tuple #[]) w := abU hr
end
section
variable {P : Program} {n : Nat} {ops : Array Oper} {C C' : Heap -> Prop} {cs cs' : Dy} {listed : Array Bool} {fuel : Nat} {Q : kT -> Heap -> Prop} {f : kT} {h : Heap} {k : Nat}
  {dst : Option Nat} {op : Op} {ty : TypeId} {pos : String} {after : Array Edge} {guard : Option (Nat × Bool)}
def Ge (listed L : Array Bool) : Prop := ∀ j, listed.getD j false = true -> L.getD j false = true
theorem Ge.set {L : Array Bool} (g : Ge listed L) (i : Nat) : Ge listed (L.setIfInBounds i true) := by
  intro j hj
  exact getD_set_true (g j hj)
theorem V8 {md : Region.Mode} {D D' : Array Bool -> World -> Prop} {Q : Exit -> Act -> World -> Prop} (hc : ∀ L w, Ge listed L -> D' L w -> D L w) : ∀ (fuel : Nat) (L : Array Bool) (a : Act) (w : World), Ge listed L -> Lc P md ops D' Q fuel L a w -> Lc P md ops D Q fuel L a w
  | 0, L, a, w, g, H => ⟨hc L w g H.1, H.2⟩
  | fuel + 1, L, a, w, g, H => ⟨hc L w g H.1, H.2.1, fun i hi => wpOp_mono (fun a w H => V8 hc fuel _ a w (g.set i) H) (H.2.2 i hi)⟩
theorem HA.re (C' : Heap -> Prop) (cs' : Dy) (hc : ∀ L h, Ge listed L -> C' h -> cs'.at_ L h -> C h /\ cs.at_ L h) (H : HA P n ops C' cs' fuel listed Q f h) : HA P n ops C cs fuel listed Q f h := by
  intro w₀ a w hcl hs hd hf hk hh
  exact V8 (fun L w g q => ⟨q.1, hc L w.heap g q.2.1 q.2.2⟩) _ _ _ _ (fun _ h => h) (H w₀ a w hcl hs hd hf hk hh)
theorem at_nil (listed : Array Bool) (h : Heap) : Dy.at_ [] listed h := fun _ hc => by cases hc
theorem aer {L : Array Bool} {e : Nat} {S : Heap -> Prop} (g : Ge listed L) (hd : listed.getD e false = true) (r : Dy.at_ cs L h) : Dy.at_ ((e, S) :: cs) L h := by
  intro x hx hl
  rcases List.mem_cons.1 hx with rfl | hx
  · rw [g e hd] at hl; cases hl
  · exact r x hx hl
theorem oL {L : Array Bool} {e : Nat} {S : Heap -> Prop} (s : S h) (r : Dy.at_ cs L h) : Dy.at_ ((e, S) :: cs) L h := by
  intro x hx hl
  rcases List.mem_cons.1 hx with rfl | hx
  · exact s
  · exact r x hx hl
theorem yz {L : Array Bool} {e : Nat} {S : Heap -> Prop} (hd : L.getD e false = true) (r : Dy.at_ cs L h) : Dy.at_ ((e, S) :: cs) L h := aer (listed := L) (fun _ h => h) hd r
def WR (ops : Array Oper) : Nat -> Nat -> Nat -> Bool
  | 0, _, _ => false
  | n + 1, e, k => match ops[e]? with
    | some o => o.after.any fun x => Region.binds .any x && (Nat.beq x.on k || WR ops n x.on k)
    | none => false
theorem Oh {ops : Array Oper} {listed : Array Bool} (hcl : Closed .any ops listed) : ∀ (n e k : Nat), WR ops n e k = true -> listed.getD k true = false -> listed.getD e false = false
  | 0, _, _, hw, _ => by cases hw
  | n + 1, e, k, hw, hk => by
    unfold WR at hw
    cases he : ops[e]? with
    | none => rw [he] at hw; cases hw
    | some o =>
      rw [he] at hw
      obtain ⟨x, hx, hb⟩ := Array.any_eq_true'.1 hw
      simp only [Bool.and_eq_true, Bool.or_eq_true] at hb
      cases hl : listed.getD e false with
      | false => rfl
      | true =>
        have hl' : listed.getD e true = true := by
          rcases Nat.lt_or_ge e listed.size with h' | h'
          · simp [h'] at hl ⊢; exact hl
          · simp [Array.getElem?_eq_none h'] at hl
        have h1 := hcl e o he hl' x hx hb.1
        rcases hb.2 with h2 | h2
        · rw [Nat.eq_of_beq_eq_true h2] at h1
          rcases Nat.lt_or_ge k listed.size with h' | h'
          · simp [h'] at hk h1; rw [hk] at h1; cases h1
          · simp [Array.getElem?_eq_none h'] at hk
        · have := Oh hcl n x.on k h2 hk
          rw [this] at h1; cases h1
theorem HA.Ld {v : Value} (i e : Nat) (S : Heap -> Prop) (hni : SI cs k = true) (hk : ops[k]? = some (Oper.mk dst op ty pos after guard)) (hsel : Region.noSelect ops = true)
    (hB : ((Region.ready .any ops listed).contains k && Region.free .any ops listed k) = true) (hw : Want ops guard f) (hd : yc n dst = true)
    (he : cs[i]? = some (e, S)) (hwt : WR ops 40 e k = true) (hr : ∀ h', C h' -> S h' -> QV P op ty f h' v) (K : HA P n ops C cs fuel (listed.setIfInBounds k true) Q (FM f dst v) h) : HA P n ops C cs (fuel + 1) listed Q f h :=
  Go.HL.HA.quiet hni hk hsel hB hd (fun w₀ a hf => .inl ⟨tK hw a hf, fun listed w' hcl hp hw' => by rw [eval_eq, hf]; exact hr _ hw'.2.1 (hw'.2.2 _ (List.mem_of_getElem? he) (Oh hcl _ _ _ hwt hp)) _ _ _ _ w' rfl⟩) K
end
end Go.Wk
namespace Go.Wk
open Go.HL
variable [DM]
def isNil : Value -> Bool
  | .slice none _ _ => true
  | _ => false
section
variable {P : Program} {f : kT} {h : Heap} {ty : TypeId} {α : Type} {E k T : Nat} {enc : α -> List Value} {v : Value} {l : List α} {F : Fz} {os : List Ow} {i : Nat}
theorem aba (s : gY h k enc v l) (hn : isNil v = true) : l = [] := by
  obtain ⟨⟨a, cap, hv, h1, h2, h3⟩, h4⟩ := s
  rcases h3 with h3 | ⟨b, off, rfl, _⟩
  · exact h3
  · subst hv; cases hn
theorem VO {d t E n c : Nat} {a : Option Addr} (ht : P.underlying t = some (.slice E)) (w : World) : (Op.equalIn (d + 1) t (.slice a n c) (.slice none 0 0)).run P w = .ok a.isNone w := by
  cases a <;> simp [Op.equalIn, run_underlying ht, go_sem]
theorem aa1 {t t2 E : TypeId} {x y : Operand} {n : Nat} (ht : P.underlying t = some (.slice E)) (hs : Shp v n) (hx : ev f x = v) (hy : ev f y = .slice none 0 0) : QV P (.binOp .eql t x y t2) ty f h (.bool (isNil v)) := by
  obtain ⟨a, cap, rfl⟩ := hs
  exact run_eq hx hy (fun w => by simp [eqGuard, go_sem]) (fun w _ => by simp only [binOp]; simp [Op.equal, Op.maxDepth, VO (d := 9999) ht]; cases a <;> rfl)
theorem shrink (o : kL h 0 E k enc v l) (hi : Int) (h0 : 0 <= hi) (h1 : hi <= (l.length : Int)) : kL h 0 E k enc (cutV k v (0 : Int).toNat hi.toNat) (cut l 0 hi) := by
  have hl : (cut l 0 hi) = l.take hi.toNat := by unfold cut; simp
  have hln : (l.take hi.toNat).length = hi.toNat := by rw [List.length_take]; omega
  rw [hl]
  refine ⟨⟨?_, ?_⟩, fun x hx => o.yx x (List.mem_of_mem_take hx)⟩
  · exact x9 enc k _ (fun x hx => o.yx x (List.mem_of_mem_take hx))
  · rcases o.row.2 with ⟨rfl, e2⟩ | ⟨g, cap, cur, rfl, e2, e3, e4, e5, e6, e7⟩
    · have : hi.toNat = 0 := by omega
      left; exact ⟨by simp [cutV, sliced, this], by rw [hln]; exact this⟩
    · right
      have hz : (l.take hi.toNat).flatMap enc = (l.flatMap enc).take (hi.toNat * k) := by
        have hsplit : l.flatMap enc = (l.take hi.toNat).flatMap enc ++ (l.drop hi.toNat).flatMap enc := by rw [← List.flatMap_append, List.take_append_drop]
        have hlen := x9 enc k (l.take hi.toNat) (fun x hx => o.yx x (List.mem_of_mem_take hx))
        rw [hln] at hlen
        calc _ = ((l.take hi.toNat).flatMap enc ++ (l.drop hi.toNat).flatMap enc).take (hi.toNat * k) := by
                rw [List.take_append_of_le_length (by rw [hlen]; exact Nat.le_refl _)]
                exact (List.take_of_length_le (by rw [hlen]; exact Nat.le_refl _)).symm
          _ = _ := by rw [← hsplit]
      refine ⟨g, cap, cur, ?_, e2, e3, by rw [hln]; omega, e5, e6, ?_⟩
      · simp only [cutV, sliced, hln, Int.toNat_zero, Nat.sub_zero]
        by_cases hc : cap = 0
        · subst hc; simp
        · rw [if_neg hc]; simp [Addr.add]
      · rw [hln, hz, ← e7, List.take_take]
        congr 1
        have : hi.toNat * k <= l.length * k := Nat.mul_le_mul_right _ (by omega)
        omega
theorem St.shrink (hS : St F os h) (i : Nat) (hi : os[i]? = some (Ow.own E k enc v l)) (n : Int) (h0 : 0 <= n) (h1 : n <= (l.length : Int)) : St F (os.set i (Ow.own E k enc (cutV k v (0 : Int).toNat n.toNat) (cut l 0 n))) h :=
  (hS.turn i hi (Ow.own E k enc (cutV k v (0 : Int).toNat n.toNat) (cut l 0 n)) (Go.Wk.shrink (hS.own i hi) n h0 h1) (fun b hb => by
    left; have hb' : lC (cutV k v (0 : Int).toNat n.toNat) = some b := hb
    rw [Tc] at hb'; exact hb') (Nat.le_refl _) (fun _ _ _ => rfl)).1
end
end Go.Wk
