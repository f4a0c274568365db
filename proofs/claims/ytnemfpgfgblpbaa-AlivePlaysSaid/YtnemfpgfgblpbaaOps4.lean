/- More operations: slices cut out of slices, fields of elements, lengths by the shape alone. -/
import Derived.Test.YtnemfpgfgblpbaaOps3
import Derived.Test.YtnemfpgfgblpbaaClockDef
set_option linter.unusedSimpArgs false
set_option linter.unusedVariables false
set_option linter.unusedSectionVars false
namespace Go.HL

theorem at_cons {c : Nat × (Heap → Prop)} {cs : Conds} {listed : Array Bool} {h : Heap} (h1 : listed.getD c.1 false = true ∨ c.2 h) (h2 : Conds.at_ cs listed h) : Conds.at_ (c :: cs) listed h := by
  intro x hx hl
  rcases List.mem_cons.1 hx with rfl | hx
  · rcases h1 with h1 | h1
    · rw [h1] at hl; cases hl
    · exact h1
  · exact h2 x hx hl

/-- Does operation 'e' wait for operation 'k', itself or by others? -/
def waitsN (ops : Array Oper) : Nat → Nat → Nat → Bool
  | 0, _, _ => false
  | n + 1, e, k => match ops[e]? with
    | some o => o.after.any fun x => Region.binds .any x && (Nat.beq x.on k || waitsN ops n x.on k)
    | none => false
theorem waitsN_pending {ops : Array Oper} {listed : Array Bool} (hcl : Closed .any ops listed) : ∀ (n e k : Nat), waitsN ops n e k = true → listed.getD k true = false → listed.getD e false = false
  | 0, _, _, hw, _ => by cases hw
  | n + 1, e, k, hw, hk => by
    unfold waitsN at hw
    cases he : ops[e]? with
    | none => rw [he] at hw; cases hw
    | some o =>
      rw [he] at hw
      obtain ⟨x, hx, hb⟩ := Array.any_eq_true'.1 hw
      simp only [Bool.and_eq_true, Bool.or_eq_true] at hb
      cases hl : listed.getD e false with
      | false => rfl
      | true =>
        have hl' : listed.getD e true = true := by
          rcases Nat.lt_or_ge e listed.size with h' | h'
          · simp [h'] at hl ⊢; exact hl
          · simp [Array.getElem?_eq_none h'] at hl
        have h1 := hcl e o he hl' x hx hb.1
        rcases hb.2 with h2 | h2
        · rw [Nat.eq_of_beq_eq_true h2] at h1
          rcases Nat.lt_or_ge k listed.size with h' | h'
          · simp [h'] at hk h1; rw [hk] at h1; cases h1
          · simp [Array.getElem?_eq_none h'] at hk
        · have := waitsN_pending hcl n x.on k h2 hk
          rw [this] at h1; cases h1
section
variable {P : Program} {n : Nat} {ops : Array Oper} {C : Heap → Prop} {cs : Conds} {listed : Array Bool} {r : List (Nat × Bool)} {Q : Slots → Heap → Prop} {f : Slots} {h : Heap} {k fuel : Nat}
  {dst : Option Nat} {op : Op} {ty : TypeId} {pos : String} {after : Array Edge} {guard : Option (Nat × Bool)}
theorem HM.valN {v : Value} (e : Nat) (S : Heap → Prop) (hni : notIn cs k = true) (hk : ops[k]? = some (Oper.mk dst op ty pos after guard)) (hw : Want ops guard f) (hd : dstOk n dst = true)
    (he : (e, S) ∈ cs) (hwt : waitsN ops 40 e k = true) (hr : ∀ h', C h' → S h' → QV P op ty f h' v) (K : HM P n ops C cs r (listed.setIfInBounds k true) Q (putS f dst v) h) : HM P n ops C cs ((k, true) :: r) listed Q f h := by
  intro w₀ a w hs hd' hf hkept hh
  refine ⟨v, _, hk, cls_set hni w₀, .inl ⟨wanted_of hw a hf, fun listed w' hcl hp hw' => ?_⟩, ?_⟩
  · rw [eval_eq, hf]; exact hr _ hw'.2.1 (hw'.2.2 _ he (waitsN_pending hcl _ _ _ hwt hp)) _ _ _ _ w' rfl
  · exact K w₀ _ w (by rw [size_put]; exact hs) (by rw [defers_put]; exact hd') (by rw [sl_putS a n dst v hs hd, hf]) hkept hh
theorem HA.valN {v : Value} (e : Nat) (S : Heap → Prop) (hni : notIn cs k = true) (hk : ops[k]? = some (Oper.mk dst op ty pos after guard)) (hsel : Region.noSelect ops = true)
    (hB : ((Region.ready .any ops listed).contains k && Region.free .any ops listed k) = true) (hw : Want ops guard f) (hd : dstOk n dst = true)
    (he : (e, S) ∈ cs) (hwt : waitsN ops 40 e k = true) (hr : ∀ h', C h' → S h' → QV P op ty f h' v) (K : HA P n ops C cs fuel (listed.setIfInBounds k true) Q (putS f dst v) h) : HA P n ops C cs (fuel + 1) listed Q f h :=
  HA.quiet hni hk hsel hB hd (fun w₀ a hf => .inl ⟨wanted_of hw a hf, fun listed w' hcl hp hw' => by rw [eval_eq, hf]; exact hr _ hw'.2.1 (hw'.2.2 _ he (waitsN_pending hcl _ _ _ hwt hp)) _ _ _ _ w' rfl⟩) K
end

/-- A slice cut out of a slice. -/
def cutV (k : Nat) (v : Value) (lo hi : Nat) : Value :=
  match v with
  | .slice a _ cap => sliced a lo hi cap k
  | _ => undef
theorem blockOf_cut (k : Nat) (v : Value) (lo hi : Nat) : blockOf (cutV k v lo hi) = blockOf v := by
  cases v with
  | slice a n c =>
    cases a with
    | none => simp only [cutV, sliced]; split <;> rfl
    | some a =>
      simp only [cutV, sliced]
      split
      · rfl
      · simp only [Option.map_some, blockOf]; unfold Addr.add; split <;> rfl
  | _ => rfl

section
variable {P : Program} {f : Slots} {h : Heap} {ty : TypeId} {α : Type} {base E k T : Nat} {enc : α → List Value} {v : Value} {l : List α}

theorem SliceIs.cutLH (s : SliceIs h k enc v l) (lo hi : Nat) (h1 : lo ≤ hi) (h2 : hi ≤ l.length) : SliceIs h k enc (cutV k v lo hi) ((l.take hi).drop lo) := by
  obtain ⟨⟨a, cap, hv, hc1, hc2, h3⟩, h4⟩ := s
  have hlen : ((l.take hi).drop lo).length = hi - lo := by rw [List.length_drop, List.length_take]; omega
  refine ⟨?_, fun x hx => h4 x (List.mem_of_mem_take (List.mem_of_mem_drop hx))⟩
  subst hv
  refine ⟨if cap = lo then a else a.map (·.add (lo * k)), cap - lo, ?_, by omega, by omega, ?_⟩
  · simp only [cutV, sliced, hlen]
  · by_cases hnil : (l.take hi).drop lo = []
    · exact .inl hnil
    · right
      have hp : 0 < ((l.take hi).drop lo).length := List.length_pos_iff.2 hnil
      rcases h3 with h3 | ⟨b, off, rfl, hb, hr⟩
      · subst h3; simp at hp
      · refine ⟨b, off + lo * k, ?_, hb, ?_⟩
        · rw [if_neg (by omega)]; simp only [Option.map_some, add_mk]
        · intro i hi' j hj
          have e : ((l.take hi).drop lo)[i] = l[lo + i]'(by omega) := by
            rw [List.getElem_drop, List.getElem_take]
          have := hr (lo + i) (by omega) j (by rw [← e]; exact hj)
          rw [show off + lo * k + i * k + j = off + (lo + i) * k + j from by rw [Nat.add_mul]; omega]
          rw [this]; simp only [e]
theorem SliceIs.cutH (s : SliceIs h k enc v l) (hi : Nat) (h2 : hi ≤ l.length) : SliceIs h k enc (cutV k v 0 hi) (l.take hi) := by
  have := s.cutLH 0 hi (by omega) h2; rwa [List.drop_zero] at this
theorem SliceIs.cutL (s : SliceIs h k enc v l) (lo : Nat) (h1 : lo ≤ l.length) : SliceIs h k enc (cutV k v lo l.length) (l.drop lo) := by
  have := s.cutLH lo l.length h1 (Nat.le_refl _); rwa [List.take_length] at this

theorem q_sliceLH {E kl kh : _} {x y z : Operand} {lo hi : Nat} (hT : TSlice P T E k) (hS : SliceIs h k enc v l) (hx : ev f x = v) (hy : ev f y = .int kl (lo : Int)) (hz : ev f z = .int kh (hi : Int)) (h1 : lo ≤ hi) (h2 : hi ≤ l.length) :
    QV P (.slice T x (some y) (some z) none) ty f h (cutV k v lo hi) := by
  obtain ⟨⟨a, cap, hv, hc1, hc2, h3⟩, h4⟩ := hS
  subst hv
  intro dst pos after guard w _
  have hel : P.elem T = E := by simp [Program.elem, hT.und]
  have hu : P.underlying T = some (.slice (P.elem T)) := by rw [hel]; exact hT.und
  have hs := hT.size w; rw [← hel] at hs
  simp only [execOp, hx, Option.map_some, Option.map_none, hy, hz]
  rw [Sem.run_bind, run_sliceAt_slice (P := P) (w := w) T _ _ _ _ hu, run_slice_lh (P := P) (w := w) T a l.length cap hu kl kh (lo : Int) (hi : Int) (by omega) (by omega) (by omega), hs]
  rfl
theorem q_sliceH {E kh : _} {x z : Operand} {hi : Nat} (hT : TSlice P T E k) (hS : SliceIs h k enc v l) (hx : ev f x = v) (hz : ev f z = .int kh (hi : Int)) (h2 : hi ≤ l.length) :
    QV P (.slice T x none (some z) none) ty f h (cutV k v 0 hi) := by
  obtain ⟨⟨a, cap, hv, hc1, hc2, h3⟩, h4⟩ := hS
  subst hv
  intro dst pos after guard w _
  have hel : P.elem T = E := by simp [Program.elem, hT.und]
  have hu : P.underlying T = some (.slice (P.elem T)) := by rw [hel]; exact hT.und
  have hs := hT.size w; rw [← hel] at hs
  simp only [execOp, hx, Option.map_some, Option.map_none, hz]
  rw [Sem.run_bind, run_sliceAt_slice (P := P) (w := w) T _ _ _ _ hu, run_slice_h (P := P) (w := w) T a l.length cap hu kh (hi : Int) (by omega) (by omega), hs]
  rfl
theorem q_sliceL {E kl : _} {x y : Operand} {lo : Nat} (hT : TSlice P T E k) (hS : SliceIs h k enc v l) (hx : ev f x = v) (hy : ev f y = .int kl (lo : Int)) (h1 : lo ≤ l.length) :
    QV P (.slice T x (some y) none none) ty f h (cutV k v lo l.length) := by
  obtain ⟨⟨a, cap, hv, hc1, hc2, h3⟩, h4⟩ := hS
  subst hv
  intro dst pos after guard w _
  have hel : P.elem T = E := by simp [Program.elem, hT.und]
  have hu : P.underlying T = some (.slice (P.elem T)) := by rw [hel]; exact hT.und
  have hs := hT.size w; rw [← hel] at hs
  simp only [execOp, hx, Option.map_some, Option.map_none, hy]
  rw [Sem.run_bind, run_sliceAt_slice (P := P) (w := w) T _ _ _ _ hu, run_slice_l (P := P) (w := w) T a l.length cap hu kl (lo : Int) (by omega) (by omega), hs]
  rfl

theorem q_fieldElemS {s i off : Nat} {x : Operand} {j : Nat} (hF : FieldAt P s i off) (hS : SliceIs h k enc v l) (hx : ev f x = elemPtr k v j) (hj : j < l.length) : QV P (.fieldAddr s x i) ty f h (fieldPtr k v j off) :=
  q_fieldElem hF (hS.shape (List.ne_nil_of_length_pos (by omega))) hx

/-- A slice's length, by its shape alone. -/
def Shp (v : Value) (n : Nat) : Prop := ∃ a cap, v = .slice a n cap
theorem SliceIs.shp (s : SliceIs h k enc v l) : Shp v l.length := by
  obtain ⟨⟨a, cap, hv, _⟩, _⟩ := s; exact ⟨a, cap, hv⟩
theorem Shp.cells {v : Value} {n : Nat} (s : Shp v n) : v.cells = #[v] := by obtain ⟨a, cap, rfl⟩ := s; rfl
theorem Shp.one {v : Value} {n : Nat} (s : Shp v n) : v.oneCell' = true := by obtain ⟨a, cap, rfl⟩ := s; rfl
theorem q_lenS {T E k' n : Nat} {ts : Array TypeId} {x : Operand} {v : Value} (hT : TSlice P T E k') (hS : Shp v n) (hx : ev f x = v) (ht : ts[0]? = some T) :
    QV P (.call ⟨.builtin .len, #[x], ts⟩) ty f h (.int .i64 (n : Int)) := by
  obtain ⟨a, cap, rfl⟩ := hS
  intro dst pos after guard w _
  simp [execOp, resolve, invoke, builtin, hx, Builtin.len_, ht, run_underlying hT.und, goInt, go_sem]

def encII (p : Int × Int) : List Value := [.int .i64 p.1, .int .i64 p.2]
/-- Old blocks stand but for one, and one own row. -/
structure OnlyX (x : Nat) (v : Value) (h h' : Heap) : Prop where
  size : h.size ≤ h'.size
  old : ∀ b, b < h.size → b ≠ x → blockOf v ≠ some b → h'[b]? = h[b]?
theorem OnlyX.refl (x : Nat) (v : Value) (h : Heap) : OnlyX x v h h := ⟨Nat.le_refl _, fun _ _ _ _ => rfl⟩
theorem OnlyX.ext {x : Nat} {v : Value} {a b c : Heap} (o : OnlyX x v a b) (e : Ext b c) : OnlyX x v a c := ⟨Nat.le_trans o.size e.size, fun y hy h1 h2 => (e.old y (Nat.lt_of_lt_of_le hy o.size)).trans (o.old y hy h1 h2)⟩
theorem OnlyX.upd {x : Nat} {v : Value} {a b c : Heap} {ob : Obj} (o : OnlyX x v a b) (u : Upd b x ob c) : OnlyX x v a c := ⟨by rw [u.size]; exact o.size, fun y hy h1 h2 => (u.keep h1).trans (o.old y hy h1 h2)⟩
theorem OnlyX.grown {x : Nat} {v w w' : Value} {a b c : Heap} (o : OnlyX x v a b) (g : Grown b c w w') (hw : ∀ y, blockOf w = some y → a.size ≤ y ∨ blockOf v = some y) : OnlyX x v a c :=
  ⟨Nat.le_trans o.size g.size, fun y hy h1 h2 => (g.block y (Nat.lt_of_lt_of_le hy o.size) (fun e => (hw y e).elim (fun h => by omega) (fun h => h2 h))).trans (o.old y hy h1 h2)⟩
theorem Blk.onlyX {x b : Nat} {v : Value} {h h' : Heap} {o : Obj} (hb : Blk h b o) (k : OnlyX x v h h') (h1 : b ≠ x) (h2 : blockOf v ≠ some b) : Blk h' b o := (k.old b hb.lt h1 h2).trans hb
theorem Ext.onlyX {x : Nat} {v : Value} {h₀ h h' : Heap} (e : Ext h₀ h) (o : OnlyX x v h h') (hx : h₀.size ≤ x) (hv : ∀ y, blockOf v = some y → h₀.size ≤ y) : Ext h₀ h' :=
  ⟨Nat.le_trans e.size o.size, fun b hb => (o.old b (Nat.lt_of_lt_of_le hb e.size) (by omega) (fun e => by have := hv b e; omega)).trans (e.old b hb)⟩
theorem MapIs.onlyX {κ ν : Type} {h h' : Heap} {r x : Nat} {v : Value} {ek : κ → Value} {en : ν → Value} {m : List (κ × ν)} (k : MapIs h r ek en m) (o : OnlyX x v h h') (h1 : r ≠ x) (h2 : blockOf v ≠ some r) : MapIs h' r ek en m := let ⟨es, cl, hb, he⟩ := k; ⟨es, cl, hb.onlyX o h1 h2, he⟩
theorem SliceIs.onlyX {x : Nat} {h h' : Heap} {w : Value} (s : SliceIs h k enc v l) (o : OnlyX x w h h') (h1 : blockOf v ≠ some x) (h2 : ∀ b, blockOf v = some b → blockOf w ≠ some b) : SliceIs h' k enc v l := by
  obtain ⟨⟨a, cap, hv, k1, k2, h3⟩, h4⟩ := s
  refine ⟨⟨a, cap, hv, k1, k2, ?_⟩, h4⟩
  rcases h3 with h3 | ⟨b, off, ha, hb, hr⟩
  · exact .inl h3
  · have e : blockOf v = some b := by rw [hv, ha]; rfl
    exact .inr ⟨b, off, ha, Nat.lt_of_lt_of_le hb o.size, hr.cong (o.old b hb (by rintro rfl; exact h1 e) (h2 b e))⟩
end
theorem OnlyL.grownL {Ls : List Nat} {a b c : Heap} {w w' : Value} (o : OnlyL Ls a b) (g : Grown b c w w') (hw : ∀ y, blockOf w = some y → a.size ≤ y) : OnlyL Ls a c :=
  ⟨Nat.le_trans o.size g.size, fun y hy h1 => (g.block y (Nat.lt_of_lt_of_le hy o.size) (fun e => by have := hw y e; omega)).trans (o.old y hy h1)⟩
end Go.HL
