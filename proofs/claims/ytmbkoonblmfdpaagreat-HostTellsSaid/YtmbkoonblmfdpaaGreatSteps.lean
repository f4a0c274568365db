/- Steps through the operations of a region, in the order of the text, and, where the region draws its order, in one order that serves for all. -/
import Derived.Test.YtmbkoonblmfdpaaGreatBase
set_option linter.unusedSimpArgs false
set_option linter.unusedVariables false
set_option linter.unusedSectionVars false
namespace Go.HL
variable [DM]
def QV (P : Program) (op : Op) (ty : TypeId) (f : kT) (h : Heap) (v : Value) : Prop :=
  ∀ dst pos after guard w, w.heap = h -> (execOp (ev f) (Oper.mk dst op ty pos after guard)).run P w = .ok (.value v) w
def EV (P : Program) (op : Op) (ty : TypeId) (f : kT) (h : Heap) (R : Value -> Heap -> Prop) : Prop :=
  ∀ dst pos after guard w, w.heap = h -> ∃ v w', (execOp (ev f) (Oper.mk dst op ty pos after guard)).run P w = .ok (.value v) w' /\ Kept w w' /\ R v w'.heap
def ES (P : Program) (op : Op) (ty : TypeId) (f : kT) (h : Heap) (R : Heap -> Prop) : Prop :=
  ∀ dst pos after guard w, w.heap = h -> ∃ w', (execOp (ev f) (Oper.mk dst op ty pos after guard)).run P w = .ok .skip w' /\ Kept w w' /\ R w'.heap
def EC (P : Program) (op : Op) (ty : TypeId) (f : kT) (K : Nat) (args : Array Value) : Prop :=
  ∀ dst pos after guard w, (execOp (ev f) (Oper.mk dst op ty pos after guard)).run P w = .ok (.enter K args) w
theorem QV.of_eq {P : Program} {op : Op} {ty : TypeId} {f : kT} {h : Heap} {v v' : Value} (q : QV P op ty f h v) (e : v = v') : QV P op ty f h v' := e ▸ q
def yc (n : Nat) : Option Nat -> Bool
  | some d => Nat.blt d n
  | none => true
def FM (f : kT) : Option Nat -> Value -> kT
  | some d, v => upd f d v
  | none, _ => f
theorem xg (a : Act) (n : Nat) (dst : Option Nat) (v : Value) (hs : a.tmps.size = n) (hd : yc n dst = true) : sl (a.put dst v) = FM (sl a) dst v := by
  cases dst with
  | none => rfl
  | some d =>
    have : d < n := by simpa [yc, Nat.blt_eq] using hd
    exact afi a d v (by omega)
theorem size_put (a : Act) (dst : Option Nat) (v : Value) : (a.put dst v).tmps.size = a.tmps.size := by
  cases dst <;> simp [Act.put]
theorem qp (a : Act) (dst : Option Nat) (v : Value) : (a.put dst v).defers = a.defers := by
  cases dst <;> simp [Act.put]
section plain
variable {P : Program} {n : Nat} {ops : Array Oper} {rest : List Oper} {Q : kT -> Heap -> Prop} {f : kT} {h : Heap}
  {dst : Option Nat} {op : Op} {ty : TypeId} {pos : String} {after : Array Edge}
theorem HW.region {id : Nat} {l : List Oper} {Q : Post} (H : HO P n l.toArray l (fun f h => Q .normal f h) f h) : HW P n (.region id l.toArray false) Q f h := by
  intro a w hs hd hf hh
  refine wp_mono (wp_region_lit (H a w hs hd hf hh)) ?_
  rintro e a' w' ⟨rfl, h1, h2, h3, h4⟩
  exact ⟨h1, h2, h3, h4⟩
theorem HO.nil (H : Q f h) : HO P n ops [] Q f h :=
  fun _ w hs hd hf hh => ⟨rfl, hs, hd, Kept.refl w, by rw [hf, hh]; exact H⟩
theorem HO.step {guard : Option (Nat × Bool)} (hw : ∀ a : Act, sl a = f -> Region.wanted (Oper.mk dst op ty pos after guard) (yielded ops a.tmps) = true)
    (H : ∀ a w (K : Act -> World -> Prop), a.tmps.size = n -> a.defers = [] -> sl a = f -> w.heap = h ->
      (∀ a' w', a'.tmps.size = n -> a'.defers = [] -> Kept w w' -> HO P n ops rest Q (sl a') w'.heap -> K a' w') ->
      ∀ Q', (Oper.mk dst op ty pos after guard).wp P a w K Q') : HO P n ops (Oper.mk dst op ty pos after guard :: rest) Q f h := by
  intro a w hs hd hf hh
  unfold wpList
  rw [if_pos (hw a hf)]
  refine .inl (H a w _ hs hd hf hh ?_ _)
  intro a' w' hs' hd' hk hrest
  have := hrest a' w' hs' hd' rfl rfl
  have key : ∀ (l : List Oper) (Q1 Q2 : Exit -> Act -> World -> Prop) (a : Act) (w : World), (∀ e a w, Q1 e a w -> Q2 e a w) -> wpList P ops Q1 l a w -> wpList P ops Q2 l a w := by
    intro l Q1 Q2
    induction l with
    | nil => intro a w hq hh; exact hq _ _ _ hh
    | cons o l ih =>
      intro a w hq hh
      unfold wpList at hh ⊢
      split
      · rename_i hw; rw [if_pos hw] at hh
        rcases hh with hh | ⟨hh, a₀, w₀, hl⟩
        · refine .inl ?_
          unfold Oper.wp at hh ⊢
          generalize (execOp a.eval o).run P w = r at hh ⊢
          cases r with
          | ok x w' =>
            cases x <;> simp only [Oper.upon] at hh ⊢
            case value => exact ih _ _ hq hh
            case skip => exact ih _ _ hq hh
            case defer => exact ih _ _ hq hh
            case enter =>
              refine hh.mono fun e w'' he => ?_
              cases e with
              | returned v => exact ih _ _ hq he
              | panicked c => exact hq _ _ _ he
              | outgrown => obtain ⟨a₀, w₀, he⟩ := he; exact ⟨a₀, w₀, hq _ _ _ he⟩
            case row => exact hh.mono fun v w'' he => ih _ _ hq he
          | halt x w' => cases x <;> simp only [Oper.upon] at hh ⊢ <;> first | exact hq _ _ _ hh | exact hh
        · exact .inr ⟨hh, a₀, w₀, hq _ _ _ hl⟩
      · rename_i hw; rw [if_neg hw] at hh; exact ih _ _ hq hh
  refine key _ _ _ _ _ ?_ this
  rintro e a'' w'' ⟨rfl, k1, k2, k3, k4⟩
  exact ⟨rfl, k1, k2, hk.trans k3, k4⟩
def Want (ops : Array Oper) (guard : Option (Nat × Bool)) (f : kT) : Prop :=
  match guard with
  | none => True
  | some (j, b) => ∃ d, (ops[j]?).bind (·.dst) = some d /\ f d = .bool b
def Past (ops : Array Oper) (guard : Option (Nat × Bool)) (f : kT) : Prop :=
  match guard with
  | none => False
  | some (j, b) => ∃ d, (ops[j]?).bind (·.dst) = some d /\ (f d = .bool (!b) ∨ f d = undef)
theorem ag : Want ops none f := trivial
theorem uS {j d : Nat} {b : Bool} (hj : (ops[j]?).bind (·.dst) = some d) (hb : f d = .bool b) : Want ops (some (j, b)) f := ⟨d, hj, hb⟩
theorem aQ {j d : Nat} {b : Bool} (hj : (ops[j]?).bind (·.dst) = some d) (hb : f d = .bool (!b)) : Past ops (some (j, b)) f := ⟨d, hj, .inl hb⟩
theorem gm {j d : Nat} {b : Bool} (hj : (ops[j]?).bind (·.dst) = some d) (hb : f d = undef) : Past ops (some (j, b)) f := ⟨d, hj, .inr hb⟩
theorem tK {guard : Option (Nat × Bool)} (hw : Want ops guard f) (a : Act) (ha : sl a = f) :
    Region.wanted (Oper.mk dst op ty pos after guard) (yielded ops a.tmps) = true := by
  cases guard with
  | none => rfl
  | some g =>
    obtain ⟨j, b⟩ := g
    obtain ⟨d, hj, hb⟩ := hw
    rw [← ha] at hb
    simp only [Region.wanted, yielded, hj, Option.bind_some]
    simp only [sl, Array.getD_eq_getD_getElem?] at hb
    cases ht : a.tmps[d]? with
    | none => rw [ht] at hb; simp [undef] at hb
    | some x => rw [ht] at hb; simp only [Option.getD_some] at hb; subst hb; simp
theorem Iw {guard : Option (Nat × Bool)} (hw : Past ops guard f) (a : Act) (ha : sl a = f) :
    Region.wanted (Oper.mk dst op ty pos after guard) (yielded ops a.tmps) = false := by
  cases guard with
  | none => exact hw.elim
  | some g =>
    obtain ⟨j, b⟩ := g
    obtain ⟨d, hj, hb⟩ := hw
    rw [← ha] at hb
    simp only [Region.wanted, yielded, hj, Option.bind_some]
    simp only [sl, Array.getD_eq_getD_getElem?] at hb
    cases ht : a.tmps[d]? with
    | none => simp
    | some x =>
      rw [ht] at hb; simp only [Option.getD_some] at hb
      rcases hb with hb | hb
      · subst hb; cases b <;> simp
      · subst hb; simp [undef]
variable {guard : Option (Nat × Bool)}
theorem HO.val {v : Value} (hw : Want ops guard f) (hd : yc n dst = true) (hr : QV P op ty f h v) (K : HO P n ops rest Q (FM f dst v) h) :
    HO P n ops (Oper.mk dst op ty pos after guard :: rest) Q f h := by
  refine HO.step (tK hw) ?_
  intro a w K' hs hd' hf hh hK Q'
  unfold Oper.wp
  rw [eval_eq, hf, hr _ _ _ _ w hh]
  refine hK _ _ (by rw [size_put]; exact hs) (by rw [qp]; exact hd') (Kept.refl w) ?_
  rw [xg a n dst v hs hd, hf, hh]; exact K
theorem HO.past (hw : Past ops guard f) (hd : yc n dst = true) (K : HO P n ops rest Q (FM f dst undef) h) :
    HO P n ops (Oper.mk dst op ty pos after guard :: rest) Q f h := by
  intro a w hs hd' hf hh
  unfold wpList
  rw [if_neg (by rw [Iw hw a hf]; simp)]
  exact K _ w (by rw [size_put]; exact hs) (by rw [qp]; exact hd') (by rw [xg a n dst _ hs hd, hf]) hh
theorem HO.eff {R : Value -> Heap -> Prop} (hw : Want ops guard f) (hd : yc n dst = true) (hr : EV P op ty f h R)
    (K : ∀ v h', R v h' -> HO P n ops rest Q (FM f dst v) h') : HO P n ops (Oper.mk dst op ty pos after guard :: rest) Q f h := by
  refine HO.step (tK hw) ?_
  intro a w K' hs hd' hf hh hK Q'
  obtain ⟨v, w', hrun, hk, hR⟩ := hr dst pos after guard w hh
  unfold Oper.wp
  rw [eval_eq, hf, hrun]
  refine hK _ _ (by rw [size_put]; exact hs) (by rw [qp]; exact hd') hk ?_
  rw [xg a n dst v hs hd, hf]; exact K _ _ hR
theorem HO.wF {R : Heap -> Prop} (hw : Want ops guard f) (hd : yc n dst = true) (hr : ES P op ty f h R)
    (K : ∀ h', R h' -> HO P n ops rest Q (FM f dst undef) h') : HO P n ops (Oper.mk dst op ty pos after guard :: rest) Q f h := by
  refine HO.step (tK hw) ?_
  intro a w K' hs hd' hf hh hK Q'
  obtain ⟨w', hrun, hk, hR⟩ := hr dst pos after guard w hh
  unfold Oper.wp
  rw [eval_eq, hf, hrun]
  refine hK _ _ (by rw [size_put]; exact hs) (by rw [qp]; exact hd') hk ?_
  rw [xg a n dst _ hs hd, hf]; exact K _ hR
theorem HO.call {C : Nat} {args : Array Value} {R : Value -> Heap -> Prop} (hw : Want ops guard f) (hd : yc n dst = true) (hr : EC P op ty f C args)
    (hc : HC P C args h R) (K : ∀ v h', R v h' -> HO P n ops rest Q (FM f dst v) h') : HO P n ops (Oper.mk dst op ty pos after guard :: rest) Q f h := by
  refine HO.step (tK hw) ?_
  intro a w K' hs hd' hf hh hK Q'
  unfold Oper.wp
  rw [eval_eq, hf, hr _ _ _ _ w, Oper.upon_enter]
  refine (hc w hh).mono ?_
  rintro e w' ⟨hk, v, rfl, hR⟩
  refine hK _ _ (by rw [size_put]; exact hs) (by rw [qp]; exact hd') hk ?_
  rw [xg a n dst v hs hd, hf]; exact K _ _ hR
end plain
theorem HC.jL {P : Program} {K n : Nat} {fn : Func} {c : Code} {args : Array Value} {h : Heap} {R : Value -> Heap -> Prop}
    (hf : P.funcs[K]? = some fn) (hb : fn.body = some c) (hn : fn.ntmps = n) (hle : args.size <= n)
    (H : HW P n c (fun e f h => (e = .normal ∨ e = .ret) /\ ∃ v, (∀ a w, sl a = f -> w.heap = h -> (results fn a.tmps).run P w = .ok v w) /\ R v h) (fun t => args.getD t undef) h) :
    HC P K args h R := by
  intro w hw
  refine calls_of_wp hf hb ?_
  have hsz : (args ++ Array.replicate (fn.ntmps - args.size) undef).size = n := by simp; omega
  refine wp_mono (H _ w hsz rfl ?_ hw) ?_
  · funext t
    simp only [sl, Array.getD_eq_getD_getElem?]
    rcases Nat.lt_or_ge t args.size with ht | ht
    · rw [Array.getElem?_append_left ht]
    · rw [Array.getElem?_append_right ht, Array.getElem?_eq_none ht, Array.getElem?_replicate]
      split <;> rfl
  · rintro e a' w' ⟨h1, h2, h3, he, v, h4, h5⟩
    rcases he with rfl | rfl
    · exact ⟨h2, v, h4 a' w' rfl rfl, h3, v, rfl, h5⟩
    · exact ⟨h2, v, h4 a' w' rfl rfl, h3, v, rfl, h5⟩
theorem res_one {P : Program} {fn : Func} {t : Nat} (hr : fn.results = #[.tmp t]) {f : kT} {h : Heap} {v : Value} (hv : f t = v) :
    ∀ a w, sl a = f -> w.heap = h -> (results fn a.tmps).run P w = .ok v w := by
  rintro a w rfl _
  simp only [sl, Array.getD_eq_getD_getElem?] at hv
  simp [results, hr, hv, go_sem]
theorem abU {P : Program} {fn : Func} (hr : fn.results = #[]) {f : kT} {h : Heap} :
    ∀ a w, sl a = f -> w.heap = h -> (results fn a.tmps).run P w = .ok (.tuple #[]) w := by
  rintro a w rfl _
  simp [results, hr, go_sem]
end Go.HL
