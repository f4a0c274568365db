/- A range over a function: its rounds, calls of yield, and what an iterator promises. -/
import Derived.Test.YtmbkoonblmfdpaaGreatBag
import Derived.Test.YtmbkoonblmfdpaaGreatArr
import Derived.RangeFuncGives
set_option linter.unusedSimpArgs false
set_option linter.unusedVariables false
set_option linter.unusedSectionVars false
namespace Go.Wk
open Go.HL
variable [DM]
structure Wd (G : Fence) : Prop where
  fn : ∀ f, G.fn f
  depth : G.depth = none
theorem KG : Wd Fence.wide := ⟨fun _ => trivial, rfl⟩
theorem JU (l : Nat) : Wd (Fence.wide.inRound l) := ⟨fun _ => trivial, rfl⟩
def LQ (G : Fence) (d : List Deferred) (P : Program) (n : Nat) (ops : Array Oper) (l : List Oper) (Q : kT -> Heap -> Prop) (f : kT) (h : Heap) : Prop :=
  ∀ w0 a w, Kept w0 w -> a.tmps.size = n -> a.defers = d -> sl a = f -> w.heap = h ->
    wpListIn G 0 P ops (fun e a' w' => e = .normal /\ a'.tmps.size = n /\ a'.defers = d /\ Kept w0 w' /\ Q (sl a') w'.heap) l a w
section
variable {G : Fence} {d : List Deferred} {P : Program} {n : Nat} {ops : Array Oper} {rest : List Oper} {Q : kT -> Heap -> Prop} {f : kT} {h : Heap}
  {dst : Option Nat} {op : Op} {ty : TypeId} {pos : String} {after : Array Edge} {guard : Option (Nat × Bool)}
theorem O0 {o : Oper} (ho : ∀ c, o.op ≠ .defer c) (r : Option Nat) (ρ : Operand -> Value) : o.semAt r ρ = execOp ρ o := by
  cases r with
  | none => rw [Oper.semAt_none]
  | some l => exact Oper.semAt_some l ρ o ho
theorem LQ.nil (H : Q f h) : LQ G d P n ops [] Q f h := fun w0 a w hk hs hd hf hh => ⟨rfl, hs, hd, hk, by rw [hf, hh]; exact H⟩
theorem LQ.val {v : Value} (hG : Wd G) (ho : ∀ c, op ≠ .defer c) (hw : Want ops guard f) (hd : yc n dst = true) (hr : QV P op ty f h v) (K : LQ G d P n ops rest Q (FM f dst v) h) :
    LQ G d P n ops (Oper.mk dst op ty pos after guard :: rest) Q f h := by
  intro w0 a w hk hs hd' hf hh
  unfold wpListIn
  rw [if_pos (tK hw a hf)]
  refine ⟨fun _ _ => hG.fn _, ?_⟩
  rw [O0 ho, eval_eq, hf, hr _ _ _ _ w hh]
  exact K w0 _ w hk (by rw [size_put]; exact hs) (by rw [qp]; exact hd') (by rw [xg a n dst v hs hd, hf]) hh
theorem LQ.eff {R : Value -> Heap -> Prop} (hG : Wd G) (ho : ∀ c, op ≠ .defer c) (hw : Want ops guard f) (hd : yc n dst = true) (hr : EV P op ty f h R)
    (K : ∀ v h', R v h' -> LQ G d P n ops rest Q (FM f dst v) h') : LQ G d P n ops (Oper.mk dst op ty pos after guard :: rest) Q f h := by
  intro w0 a w hk hs hd' hf hh
  unfold wpListIn
  rw [if_pos (tK hw a hf)]
  refine ⟨fun _ _ => hG.fn _, ?_⟩
  obtain ⟨v, w', hrun, hk', hR⟩ := hr dst pos after guard w hh
  rw [O0 ho, eval_eq, hf, hrun]
  exact K _ _ hR w0 _ w' (hk.trans hk') (by rw [size_put]; exact hs) (by rw [qp]; exact hd') (by rw [xg a n dst v hs hd, hf]) rfl
theorem LQ.wF {R : Heap -> Prop} (hG : Wd G) (ho : ∀ c, op ≠ .defer c) (hw : Want ops guard f) (hd : yc n dst = true) (hr : ES P op ty f h R)
    (K : ∀ h', R h' -> LQ G d P n ops rest Q (FM f dst undef) h') : LQ G d P n ops (Oper.mk dst op ty pos after guard :: rest) Q f h := by
  intro w0 a w hk hs hd' hf hh
  unfold wpListIn
  rw [if_pos (tK hw a hf)]
  refine ⟨fun _ _ => hG.fn _, ?_⟩
  obtain ⟨w', hrun, hk', hR⟩ := hr dst pos after guard w hh
  rw [O0 ho, eval_eq, hf, hrun]
  exact K _ hR w0 _ w' (hk.trans hk') (by rw [size_put]; exact hs) (by rw [qp]; exact hd') (by rw [xg a n dst undef hs hd, hf]) rfl
def EY (P : Program) (op : Op) (ty : TypeId) (f : kT) (l : Nat) (args : Array Value) : Prop :=
  ∀ dst pos after guard w, (execOp (ev f) (Oper.mk dst op ty pos after guard)).run P w = (Instr.yield l args).run P w
theorem ey {l : Nat} {fo : Operand} {la : List Operand} {tys : Array TypeId} {vs : List Value} (hf : ev f fo = .func (.yield l) #[] #[]) (hl : la.map (ev f) = vs) : EY P (.call ⟨.value fo, la.toArray, tys⟩) ty f l vs.toArray := by
  intro dst pos after guard w
  subst hl
  simp only [execOp, resolve, Deferred.ofValue, hf]
  rw [Sem.run_bind]
  simp only [pure, Sem.run, Result.andThen_ok, invoke]
  simp
def HY (P : Program) (l : Nat) (args : Array Value) (h : Heap) (R : Value -> Heap -> Prop) : Prop :=
  ∀ w, w.heap = h -> YieldAt Fence.wide 0 P l args w fun e w' => Kept w w' /\ ∃ v, e = .returned v /\ R v w'.heap
theorem LQ.yield {l : Nat} {args : Array Value} {R : Value -> Heap -> Prop} (ho : ∀ c, op ≠ .defer c) (hw : Want ops guard f) (hd : yc n dst = true) (hy : EY P op ty f l args)
    (hc : HY P l args h R) (K : ∀ v h', R v h' -> LQ Fence.wide d P n ops rest Q (FM f dst v) h') : LQ Fence.wide d P n ops (Oper.mk dst op ty pos after guard :: rest) Q f h := by
  intro w0 a w hk hs hd' hf hh
  unfold wpListIn
  rw [if_pos (tK hw a hf)]
  refine ⟨fun _ _ => trivial, ?_⟩
  obtain ⟨fn, tmps, asg, body, hrun, afx⟩ := hc w hh
  rw [O0 ho, eval_eq, hf, hy, hrun]
  refine ⟨(fun q => by cases q), afx.mono ?_⟩
  rintro e w' ⟨hk', v, rfl, hR⟩
  exact K _ _ hR w0 _ w' (hk.trans hk') (by rw [size_put]; exact hs) (by rw [qp]; exact hd') (by rw [xg a n dst v hs hd, hf]) rfl
theorem HW.adV {id : Nat} {l : List Oper} {Q : Post} (H : LQ Fence.wide [] P n l.toArray l (fun f h => Q .normal f h) f h) : HW P n (.region id l.toArray false) Q f h := by
  intro a w hs hd hf hh
  refine wp_mono (wpIn_wide.1 (wpIn_region_lit (n := 0) (H w a w (Kept.refl w) hs hd hf hh))) ?_
  rintro e a' w' ⟨rfl, h1, h2, h3, h4⟩
  exact ⟨h1, h2, h3, h4⟩
end
def Rl (r : Loop) (args : Array Value) : kT := fun t => ((r.params.zip args).foldl (fun tmps (t, a) => tmps.setIfInBounds t a) r.tmps).getD t undef
theorem HY.of {P : Program} {l n : Nat} {h : Heap} {r : Loop} {args : Array Value} {la lb : List Oper} {ia bb ib : Nat} {R : Value -> Heap -> Prop}
    (hl : h[l]? = some (.loop r)) (hr : r.state = .ready) (hz : args.size = r.params.size) (hn : ((r.params.zip args).foldl (fun tmps (t, a) => tmps.setIfInBounds t a) r.tmps).size = n)
    (ha : r.assign = .region ia la.toArray false) (hb : r.body = .block bb (.region ib lb.toArray false))
    (H : LQ (Fence.wide.inRound l) [] P n la.toArray la (fun f1 h1 => ∃ r1 : Loop, h1[l]? = some (.loop r1) /\ r1.state = .ready /\
      LQ (Fence.wide.inRound l) [] P n lb.toArray lb (fun _ h2 => ∃ r2 : Loop, h2[l]? = some (.loop r2) /\ R (.bool true) (h2.setIfInBounds l (.loop { r2 with state := .ready, pending := none })))
        f1 (h1.setIfInBounds l (.loop { r1 with state := .busy }))) (Rl r args) h) : HY P l args h R := by
  intro w hw
  subst hw
  refine ⟨r.fn, _, r.assign, r.body, run_yield (P := P) hl hz, roundIn_of_wpIn trivial ?_⟩
  rw [ha, hb]
  refine wpIn_mono (wpIn_region_lit (H w _ w (Kept.refl w) hn rfl rfl rfl)) ?_
  rintro e a1 w1 ⟨rfl, s1, d1, k1, r1, hl1, hr1, H1⟩
  refine ⟨_, run_beginRound (P := P) hl1 hr1, wpIn_block ?_⟩
  refine wpIn_mono (wpIn_region_lit (H1 w a1 _ (k1.trans ⟨rfl, rfl, rfl, fun _ => Nat.le_refl _⟩) s1 d1 rfl rfl)) ?_
  rintro e a2 w2 ⟨rfl, s2, d2, k2, r2, hl2, hR⟩
  exact ⟨_, _, run_endRound (P := P) none hl2, k2.trans ⟨rfl, rfl, rfl, fun _ => Nat.le_refl _⟩, _, rfl, hR⟩
structure IW (B : Nat) (h h' : Heap) : Prop where
  size : h.size <= h'.size
  same : ∀ b, b < h.size -> h'[b]? = h[b]? ∨ (B <= b /\ ∃ o : Obj, h[b]? = some o /\ o.isWalk = true)
structure RW (B : Nat) (h h' : Heap) : Prop where
  size : h.size <= h'.size
  old : ∀ b, b < B -> h'[b]? = h[b]?
  walk : ∀ (b : Nat) (o : Obj), h[b]? = some o -> o.isWalk = true -> h'[b]? = some o
theorem IW.ext {B : Nat} {h h' : Heap} (e : Ext h h') : IW B h h' := ⟨e.size, fun b hb => .inl (e.old b hb)⟩
theorem IW.refl (B : Nat) (h : Heap) : IW B h h := IW.ext (Ext.refl h)
theorem IW.at {B b : Nat} {h h' : Heap} {o : Obj} (i : IW B h h') (hb : h[b]? = some o) (ho : o.isWalk = false) : h'[b]? = some o := by
  rcases i.same b (yK hb) with e | ⟨_, o', e, he⟩
  · exact e.trans hb
  · rw [hb] at e; cases e; rw [ho] at he; cases he
def Gives {α : Type} (P : Program) (g : Nat) (caps : Array Value) (va : α -> Value) (S : List α -> Prop) (N : Nat) (h0 : Heap) : Prop :=
  ∀ (l : Nat) (J : List α -> Heap -> Prop) (h : Heap), h0.size <= h.size -> (∀ b, b < h0.size -> h[b]? = h0[b]?) ->
    (∀ xs h h', J xs h -> IW h0.size h h' -> J xs h') ->
    (∀ xs x h, J xs h -> xs.length < N -> HY P l #[va x] h fun v h' => v = .bool true /\ J (xs ++ [x]) h' /\ RW h0.size h h') ->
    J [] h -> HC P g (#[.func (.yield l) #[] #[]] ++ caps) h fun _ h' => ∃ xs, S xs /\ J xs h'
def apA (E : Nat) : List Oper := [{ dst := some 5, op := .alloc E, type := 0, pos := "iter.go:51", after := #[], guard := none }, { dst := none, op := .store E (.tmp 5) (.tmp 7), type := 0, pos := "iter.go:51", after := #[{ on := 0, ground := .data }, { on := 0, ground := .phase }], guard := none }]
def apB (T E : Nat) : List Oper := [{ dst := some 8, op := .load T (.tmp 2), type := T, pos := "iter.go:52", after := #[], guard := none }, { dst := some 9, op := .load E (.tmp 5), type := E, pos := "iter.go:52", after := #[], guard := none }, { dst := some 10, op := .buildSlice T 1 #[(0, .tmp 9)], type := T, pos := "iter.go:52", after := #[{ on := 1, ground := .data }], guard := none }, { dst := some 11, op := .call { callee := .builtin .append, args := #[.tmp 8, .tmp 10], argTypes := #[T, T] }, type := T, pos := "iter.go:52", after := #[{ on := 0, ground := .data }, { on := 2, ground := .data }], guard := none }, { dst := none, op := .store T (.tmp 2) (.tmp 11), type := 0, pos := "iter.go:52", after := #[{ on := 3, ground := .data }, { on := 3, ground := .chain }, { on := 0, ground := .phase }, { on := 1, ground := .phase }, { on := 2, ground := .phase }, { on := 3, ground := .phase }], guard := none }]
def agA (T : Nat) : List Oper := [{ dst := some 2, op := .box T (.tmp 0), type := 0, pos := "iter.go:50", after := #[], guard := none }, { dst := some 4, op := .assign (.const (.slice none 0 0)), type := T, pos := "iter.go:50", after := #[], guard := none }]
def agz (S : Nat) : List Oper := [{ dst := some 6, op := .move (.tmp 1), type := S, pos := "iter.go:51", after := #[], guard := none }]
def agy (T : Nat) : List Oper := [{ dst := some 12, op := .load T (.tmp 2), type := T, pos := "iter.go:54", after := #[], guard := none }, { dst := some 4, op := .assign (.tmp 12), type := T, pos := "iter.go:54", after := #[{ on := 0, ground := .data }, { on := 0, ground := .phase }], guard := none }]
def adw (T E S : Nat) : Code :=
  .seq (.region 0 (agA T).toArray false) (.seq (.seq (.region 1 (agz S).toArray false) (.block 0 (.rangeFunc (.tmp 6) #[7] (.region 2 (apA E).toArray false) (.block 1 (.region 3 (apB T E).toArray false)))))
    (.seq (.region 4 (agy T).toArray false) .ret))
def apRec (T E : Nat) (fn : FuncId) (sv : Value) (B : Nat) : Loop :=
  { state := .ready, pending := none, fn, tmps := #[.slice none 0 0, sv, .pointer (some ⟨B, 0, none⟩), undef, .slice none 0 0, undef, sv, undef, undef, undef, undef, undef, undef], params := #[7], assign := .region 2 (apA E).toArray false, body := .block 1 (.region 3 (apB T E).toArray false), defers := B + 1 }
section
variable {α : Type} {enc : α -> List Value} {P : Program} {T E k bytes : Nat}
structure ApJ (T E k : Nat) (enc : α -> List Value) (fn : FuncId) (sv : Value) (h0 : Heap) (xs : List α) (h : Heap) : Prop where
  size : h0.size + 3 <= h.size
  old : ∀ b, b < h0.size -> h[b]? = h0[b]?
  box : ∃ v, dW h h0.size (.cells #[v] T (0, 0)) /\ kL h (h0.size + 3) E k enc v xs
  rcd : h[h0.size + 2]? = some (.loop (apRec T E fn sv h0.size))
  dfr : h[h0.size + 1]? = some (.deferred (some []))
theorem ApJ.iw {fn : FuncId} {sv : Value} {h0 h h' : Heap} {xs : List α} (j : ApJ T E k enc fn sv h0 xs h) (i : IW h0.size h h') : ApJ T E k enc fn sv h0 xs h' := by
  obtain ⟨v, hv, ho⟩ := j.box
  refine ⟨Nat.le_trans j.size i.size, fun b hb => ?_, ⟨v, i.at hv rfl, ho.keep fun b hb => ?_⟩, i.at j.rcd rfl, i.at j.dfr rfl⟩
  · rcases i.same b (by have := j.size; omega) with e | ⟨e, _⟩
    · exact e.trans (j.old b hb)
    · omega
  · rcases ho.row.2 with ⟨rfl, _⟩ | ⟨g, cap, cur, rfl, _, hc, _⟩
    · cases hb
    · simp only [lC, Option.some.injEq] at hb; subst hb
      exact (i.at hc rfl).trans hc.symm
theorem ApJ.round {fn : FuncId} {sv : Value} {h0 h : Heap} {xs : List α} {x : α} {z : Value} (hT : ML P T E k bytes) (hA : KF P E k) (hO : Ji P T) (hZ : Eu P E z) (hz : z.cells.size = k) (hk : ∀ x, (enc x).length = k) (h1 : ∀ x, ∀ u ∈ enc x, u.oneCell' = true) (hL : Ql P T E k z.cells)
    (hb : (xs.length + 1) * bytes <= 140737488355328) (h63 : xs.length + 1 <= 9223372036854775807) (ad8 : k <= 16777216) (j : ApJ T E k enc fn sv h0 xs h) :
    HY P (h0.size + 2) #[.agg (enc x).toArray] h fun v h' => v = .bool true /\ ApJ T E k enc fn sv h0 (xs ++ [x]) h' /\ RW h0.size h h' := by
  have hz0 := j.size
  have hpos := hT.pos
  obtain ⟨v, hv, ho⟩ := j.box
  refine HY.of (n := 13) (la := apA E) (lb := apB T E) j.rcd rfl rfl (by simp [apRec]) rfl rfl ?_
  have r7 : Rl (apRec T E fn sv h0.size) #[.agg (enc x).toArray] 7 = .agg (enc x).toArray := by simp [Rl, apRec]
  have r2 : Rl (apRec T E fn sv h0.size) #[.agg (enc x).toArray] 2 = .pointer (some ⟨h0.size, 0, none⟩) := by simp [Rl, apRec]
  generalize Rl (apRec T E fn sv h0.size) #[.agg (enc x).toArray] = f0 at r7 r2
  refine LQ.eff (JU _) (by intro c q; cases q) ag rfl (XJ (c := z.cells) hZ rfl) ?_
  rintro _ ha ⟨ba, rfl, na⟩
  have hba := na.at_
  refine LQ.wF (JU _) (by intro c q; cases q) ag rfl (MV (o := 0) (b := ba) (vs := (enc x).toArray) (c' := (enc x).toArray) hA na.blk rfl r7 (by simpa using hk x) (by simpa using h1 x) (by simp [hz, hk x]) ?_) ?_
  · apply Array.toList_inj.1; simp [hk x, hz]
  intro hs us
  have ahg : ∀ b, b < h.size -> hs[b]? = h[b]? := fun b hb => (us.keep (by omega)).trans (na.ext.old b hb)
  have sz1 : hs.size = h.size + 1 := by rw [us.size, na.size]
  refine LQ.nil ⟨_, (ahg _ (by omega)).trans j.rcd, rfl, ?_⟩
  generalize hh2 : hs.setIfInBounds (h0.size + 2) (.loop { apRec T E fn sv h0.size with state := .busy }) = h2
  have ad2 : ∀ b, b < h.size -> b ≠ h0.size + 2 -> h2[b]? = h[b]? := fun b hb hn => by rw [← hh2, Array.getElem?_setIfInBounds_ne (Ne.symm hn)]; exact ahg b hb
  have sz2 : h2.size = h.size + 1 := by rw [← hh2]; simp [sz1]
  have aiv : h2[h0.size + 2]? = some (.loop { apRec T E fn sv h0.size with state := .busy }) := by rw [← hh2, Array.getElem?_setIfInBounds, if_pos rfl, if_pos (by omega)]
  have hx2 : dW h2 ba (.cells (enc x).toArray E (0, 0)) := by show h2[ba]? = _; rw [← hh2, Array.getElem?_setIfInBounds_ne (by omega)]; exact us.blk rfl
  have hv2 : dW h2 h0.size (.cells #[v] T (0, 0)) := (ad2 _ (by omega) (by omega)).trans hv
  have ho2 : kL h2 (h0.size + 3) E k enc v xs := ho.keep fun b hb => ad2 b (ho.lt hb) (by have := ho.ge hb; omega)
  refine LQ.val (JU _) (by intro c q; cases q) ag rfl (bU hO r2 (hv2.cell rfl)) ?_
  refine LQ.val (JU _) (by intro c q; cases q) ag rfl (bK (b := ba) (o := 0) (cs := enc x) hA rfl (hk x) (hx2.cells (k := k) (by simp [hk x]; exact List.take_of_length_le (by simp [hk x])))) ?_
  refine LQ.eff (JU _) (by intro c q; cases q) ag rfl (ae1 (cells := (enc x).toArray) (lp := [(0, .tmp 9)]) ((Array.range (1 * k)).map (z.cells[· % z.cells.size]!)) hL (by omega) (by omega) rfl ?_) ?_
  · exact iq (cs' := (enc x).toArray) (vc := (enc x).toArray) rfl rfl (by simpa using hk x) (by simp) (by apply Array.toList_inj.1; simp) rfl
  rintro _ h3 ⟨bl, rfl, nl⟩
  have hbl := nl.at_
  have hX : kL h3 h2.size E k enc (.slice (some ⟨bl, 0, none⟩) 1 1) [x] := kL.lit (base := h2.size) (l := [x]) nl.blk (by omega) (by unfold maxLen; simp) (by intro y hy; rw [List.mem_singleton] at hy; rw [hy]; exact hk x) (by simp)
  refine LQ.eff (JU _) (by intro c q; cases q) ag rfl (Vz hT (ho2.ext nl.ext) hX.slice rfl rfl rfl (by intro a ha; exact h1 a) (by simpa using hb) (by simpa using h63) (by rw [nl.size]; omega)) ?_
  rintro v' h4 ⟨ho4, g4⟩
  have ho3 := ho2.ext nl.ext
  have ad1 : ∀ b, b < h.size -> b ≠ h0.size + 2 -> b < h0.size + 3 -> h4[b]? = h[b]? := fun b hb hn hl =>
    (g4.block b (by rw [nl.size]; omega) (ho3.acg hl)).trans ((nl.ext.old b (by omega)).trans (ad2 b hb hn))
  have aiu : h4[h0.size + 2]? = some (.loop { apRec T E fn sv h0.size with state := .busy }) := (g4.block _ (by rw [nl.size]; omega) (ho3.acg (by omega))).trans ((nl.ext.old _ (by omega)).trans aiv)
  have hv4 : dW h4 h0.size (.cells #[v] T (0, 0)) := (ad1 _ (by omega) (by omega) (by omega)).trans hv
  obtain ⟨⟨a4, c4, hv', _⟩, _⟩ := ho4.slice
  refine LQ.wF (JU _) (by intro c q; cases q) ag rfl (Xb (c' := #[v']) hO hv4 r2 rfl (by rw [hv']; rfl) (by rw [hv']; rfl) (Nat.le_refl 1) rfl) ?_
  intro h5 u5
  have sz4 := g4.size
  refine LQ.nil ⟨_, (u5.other aiu (by omega)), rfl, ?_, ?_⟩
  · refine ⟨?_, ?_, ⟨v', ?_, ?_⟩, ?_, ?_⟩
    · simp only [Array.size_setIfInBounds, u5.size]; rw [nl.size] at sz4; omega
    · intro b hb'
      rw [Array.getElem?_setIfInBounds_ne (by omega), u5.keep (by omega)]
      exact (ad1 b (by omega) (by omega) (by omega)).trans (j.old b hb')
    · show _ = _; rw [Array.getElem?_setIfInBounds_ne (by omega)]; exact u5.blk rfl
    · refine ho4.keep fun b hb' => ?_
      have := ho4.ge hb'
      rw [Array.getElem?_setIfInBounds_ne (by omega), u5.keep (by omega)]
    · rw [Array.getElem?_setIfInBounds, if_pos rfl, if_pos (by rw [u5.size]; rw [nl.size] at sz4; omega)]; rfl
    · rw [Array.getElem?_setIfInBounds_ne (by omega), u5.keep (by omega)]
      exact (ad1 _ (by omega) (by omega) (by omega)).trans j.dfr
  · refine ⟨?_, ?_, ?_⟩
    · simp only [Array.size_setIfInBounds, u5.size]; rw [nl.size] at sz4; omega
    · intro b hb'
      rw [Array.getElem?_setIfInBounds_ne (by omega), u5.keep (by omega)]
      exact ad1 b (by omega) (by omega) (by omega)
    · intro b o hbo hw
      have hlt := yK hbo
      have n2 : b ≠ h0.size + 2 := by rintro rfl; rw [j.rcd] at hbo; cases hbo; cases hw
      have n0 : b ≠ h0.size := by rintro rfl; rw [show h[h0.size]? = _ from hv] at hbo; cases hbo; cases hw
      have nv : lC v ≠ some b := by
        intro e
        rcases ho.row.2 with ⟨rfl, _⟩ | ⟨g, cap, cur, rfl, _, hc, _⟩
        · cases e
        · simp only [lC, Option.some.injEq] at e; subst e; rw [hc] at hbo; cases hbo; cases hw
      rw [Array.getElem?_setIfInBounds_ne (Ne.symm n2), u5.keep n0, g4.block b (by rw [nl.size]; omega) nv, nl.ext.old b (by omega), ad2 b hlt n2]; exact hbo
theorem adL {a : Act} {n : Nat} (hs : a.tmps.size = n) : a.tmps = ((List.range n).map (sl a)).toArray := by
  apply Array.ext
  · simp [hs]
  · intro i h1 h2
    simp [sl, h1]
theorem X6 {fn : Func} {Kap g Sq N : Nat} {caps : Array Value} {S : List α -> Prop} {h0 : Heap} {z : Value} (hf : P.funcs[Kap]? = some fn) (hb : fn.body = some (adw T E Sq)) (hn : fn.ntmps = 13) (hr : fn.results = #[.tmp 4])
    (eg : ∀ args w, (callFunc g args).run P w = .ok (.enter g args) w) (hT : ML P T E k bytes) (hA : KF P E k) (hO : Ji P T) (hZ : Eu P E z) (hz : z.cells.size = k) (hk : ∀ x, (enc x).length = k) (h1 : ∀ x, ∀ u ∈ enc x, u.oneCell' = true) (hL : Ql P T E k z.cells)
    (hN : N * bytes <= 140737488355328) (ahB : N <= 9223372036854775807) (ad8 : k <= 16777216) (hG : Gives P g caps (fun x => .agg (enc x).toArray) S N h0) :
    HC P Kap #[.slice none 0 0, .func (.func g) #[] caps] h0 fun u h' => ∃ xs, S xs /\ kL h' h0.size E k enc u xs /\ Ext h0 h' := by
  intro w hw
  subst hw
  refine callsIn_wide.1 (callsIn_of_wp_marks (n := 0) hf hb trivial ?_)
  have hsz : (#[Value.slice none 0 0, .func (.func g) #[] caps] ++ Array.replicate (fn.ntmps - (#[Value.slice none 0 0, .func (.func g) #[] caps]).size) undef).size = 13 := by simp [hn]
  generalize hsv : Value.func (.func g) #[] caps = sv at hsz
  have hsl0 : sl { tmps := #[Value.slice none 0 0, sv] ++ Array.replicate (fn.ntmps - (#[Value.slice none 0 0, sv]).size) undef, defers := [] } = fun t => (#[Value.slice none 0 0, sv]).getD t undef := by
    funext t
    simp only [sl, Array.getD_eq_getD_getElem?]
    rcases Nat.lt_or_ge t (#[Value.slice none 0 0, sv]).size with ht | ht
    · rw [Array.getElem?_append_left ht]
    · rw [Array.getElem?_append_right ht, Array.getElem?_eq_none ht, Array.getElem?_replicate]
      split <;> rfl
  have H0 : LQ Fence.wide [] P 13 (agA T).toArray (agA T) (fun f h => f = upd (upd (fun t => (#[Value.slice none 0 0, sv]).getD t undef) 2 (.pointer (some ⟨w.heap.size, 0, none⟩))) 4 (.slice none 0 0) /\ New w.heap (.cells #[.slice none 0 0] T (0, 0)) w.heap.size h) (fun t => (#[Value.slice none 0 0, sv]).getD t undef) w.heap := by
    refine LQ.eff KG (by intro c q; cases q) ag rfl (ae2 (c := #[.slice none 0 0]) (k' := 1) rfl rfl) ?_
    rintro _ h ⟨b, rfl, nb⟩
    have hb := nb.at_
    subst hb
    refine LQ.val KG (by intro c q; cases q) ag rfl (jw rfl) ?_
    exact LQ.nil ⟨rfl, nb⟩
  refine wpIn_seq (wpIn_mono (wpIn_region_lit (H0 w _ w (Kept.refl w) hsz rfl hsl0 rfl)) ?_)
  rintro e a1 w1 ⟨rfl, s1, d1, k1, f1, n1⟩
  show Code.wpIn _ _ _ _ _ _ _
  have hw1 := n1.size
  have H1 : LQ Fence.wide [] P 13 (agz Sq).toArray (agz Sq) (fun f h => f = upd (sl a1) 6 sv /\ h = w1.heap) (sl a1) w1.heap := by
    refine LQ.val KG (by intro c q; cases q) ag rfl (bV (v := sv) (by rw [f1]; rfl)) ?_
    exact LQ.nil ⟨rfl, rfl⟩
  refine wpIn_seq (wpIn_seq (wpIn_mono (wpIn_region_lit (H1 w a1 w1 k1 s1 d1 rfl rfl)) ?_))
  rintro e a2 w2 ⟨rfl, s2, d2, k2, f2, e2⟩
  show Code.wpIn _ _ _ _ _ _ _
  refine wpIn_block (wpIn_rangeFunc ?_)
  intro ZF _
  have ht2 : a2.tmps = (apRec T E ZF sv w.heap.size).tmps := by
    rw [adL s2, f2, f1]; rfl
  obtain ⟨W, hW⟩ : ∃ W, (w2.alloc (.deferred (some []))).alloc (.loop (apRec T E ZF sv w.heap.size)) = W := ⟨_, rfl⟩
  have hs2 : w2.heap.size = w.heap.size + 1 := by rw [e2, hw1]
  have hWh : W.heap = (w2.heap.push (.deferred (some []))).push (.loop (apRec T E ZF sv w.heap.size)) := by rw [← hW]; rfl
  have hold : ∀ b, b < w2.heap.size -> W.heap[b]? = w2.heap[b]? := fun b hb => by
    rw [hWh, Array.getElem?_push, Array.getElem?_push]
    rw [if_neg (by simp; omega), if_neg (by omega)]
  have hJ : ApJ T E k enc ZF sv w.heap [] W.heap := by
    refine ⟨by rw [hWh]; simp; omega, fun b hb => ?_, ⟨.slice none 0 0, ?_, kL.nil _ _ _ _ _⟩, ?_, ?_⟩
    · rw [hold b (by omega), e2]; exact n1.ext.old b hb
    · show _ = _; rw [hold _ (by omega), e2]; exact n1.blk
    · rw [hWh, Array.getElem?_push, if_pos (by simp; omega)]
    · rw [hWh, Array.getElem?_push, if_neg (by simp; omega), Array.getElem?_push, if_pos (by omega)]
  have hk2 : Kept w W := k2.trans (by rw [← hW]; exact ⟨rfl, rfl, rfl, fun _ => Nat.le_refl _⟩)
  refine ⟨w.heap.size + 2, [{ target := .collected (w.heap.size + 1), args := #[] }], W, { target := .fn (.func g) caps, args := #[.func (.yield (w.heap.size + 2)) #[] #[]] }, W, g,
    #[.func (.yield (w.heap.size + 2)) #[] #[]] ++ caps, W, ?_, ?_, fun _ _ => trivial, ?_, (fun q => by cases q), ?_⟩
  · have := run_enterLoop_outer (P := P) (w := w2) ZF a2.tmps #[7] (.region 2 (apA E).toArray false) (.block 1 (.region 3 (apB T E).toArray false))
    rw [ht2, hs2] at this
    rw [ht2, ← hW]; exact this
  · simp [resolve, go_sem, ht2, apRec, ← hsv]
  · simp [invoke, go_sem, eg]
  · have hc := hG (w.heap.size + 2) (ApJ T E k enc ZF sv w.heap) W.heap (by rw [hWh]; simp; omega) hJ.old (fun xs h h' j i => j.iw i) (fun xs x h j hl =>
      j.round hT hA hO hZ hz hk h1 hL (Nat.le_trans (Nat.mul_le_mul_right _ hl) hN) (by omega) ad8) hJ
    refine (callsIn_wide.2 (hc W rfl)).mono ?_
    rintro e w3 ⟨k3, v3, rfl, xs, hS, j⟩
    obtain ⟨v, hv, ho⟩ := j.box
    refine ⟨none, _, run_endLoop (P := P) j.rcd (by intro q; cases q), ?_⟩
    show Code.wpIn _ _ _ _ _ _ _
    generalize hw4 : w3.putObj (w.heap.size + 2) (.loop { apRec T E ZF sv w.heap.size with state := .exhausted }) = w4
    have hh4 : ∀ b, b ≠ w.heap.size + 2 -> w4.heap[b]? = w3.heap[b]? := fun b hb => by rw [← hw4]; exact World.putObj_heap_other hb
    have hs4 : w4.heap.size = w3.heap.size := by rw [← hw4]; simp
    have k4 : Kept w w4 := (hk2.trans k3).trans (by rw [← hw4]; exact ⟨rfl, rfl, rfl, fun _ => Nat.le_refl _⟩)
    have hv4 : dW w4.heap w.heap.size (.cells #[v] T (0, 0)) := (hh4 _ (by omega)).trans hv
    have ho4 : kL w4.heap (w.heap.size + 3) E k enc v xs := ho.keep fun b hb => hh4 b (by have := ho.ge hb; omega)
    have HR : LQ Fence.wide [{ target := .collected (w.heap.size + 1), args := #[] }] P 13 (agy T).toArray (agy T) (fun f h => f 4 = v /\ h = w4.heap) (sl a2) w4.heap := by
      refine LQ.val KG (by intro c q; cases q) ag rfl (bU (b := w.heap.size) (o := 0) hO (by rw [f2, f1]; rfl) (hv4.cell rfl)) ?_
      refine LQ.val KG (by intro c q; cases q) ag rfl (jw rfl) ?_
      exact LQ.nil ⟨rfl, rfl⟩
    refine wpIn_seq (wpIn_mono (wpIn_region_lit (HR w { a2 with defers := [{ target := .collected (w.heap.size + 1), args := #[] }] ++ a2.defers } w4 k4 s2 (by rw [d2]; rfl) rfl rfl)) ?_)
    rintro e a5 w5 ⟨rfl, s5, d5, k5, f5, e5⟩
    refine wpIn_ret ?_
    show LeavesInM _ _ _ _ _ _ _ _ _
    rw [d5]
    have hd5 : w5.heap[w.heap.size + 1]? = some (.deferred (some [])) := by rw [e5, hh4 _ (by omega)]; exact j.dfr
    refine ⟨by simp, .inl ⟨_, _, rfl, run_takeDeferred (P := P) hd5, ?_⟩⟩
    have hh6 : ∀ b, b ≠ w.heap.size + 1 -> (w5.putObj (w.heap.size + 1) (.deferred none)).heap[b]? = w3.heap[b]? ∨ b = w.heap.size + 2 := fun b hb => by
      by_cases e : b = w.heap.size + 2
      · exact .inr e
      · exact .inl ((World.putObj_heap_other hb).trans (by rw [e5]; exact hh4 b e))
    refine ⟨v, res_one hr (f := sl a5) (h := _) f5 _ _ rfl rfl, k5.trans ⟨rfl, rfl, rfl, fun _ => Nat.le_refl _⟩, v, rfl, xs, hS, ?_, ?_⟩
    · refine kL.mono (base := w.heap.size + 3) (ho.keep fun b hb => ?_) (by omega)
      have := ho.ge hb
      rcases hh6 b (by omega) with e | e
      · exact e
      · omega
    · refine ⟨by have := j.size; simp [e5, hs4]; omega, fun b hb => ?_⟩
      rcases hh6 b (by omega) with e | e
      · exact e.trans (j.old b hb)
      · omega
end
end Go.Wk
