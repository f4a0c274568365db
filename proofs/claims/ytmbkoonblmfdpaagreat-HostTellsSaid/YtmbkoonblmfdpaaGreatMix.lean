/- ain that draw their order: one order of their operations serves for all, where each operation that only reads does so alike in a whole class of memories, and what turns the memory comes one by one. -/
import Derived.Test.YtmbkoonblmfdpaaGreatSteps
set_option linter.unusedSimpArgs false
set_option linter.unusedVariables false
set_option linter.unusedSectionVars false
namespace Go.HL
variable [DM]
section
variable {P : Program} {ops : Array Oper} {Q : Exit -> Act -> World -> Prop} {md : Region.Mode} {C : Array Bool -> World -> Prop}
def Lc (P : Program) (md : Region.Mode) (ops : Array Oper) (C : Array Bool -> World -> Prop) (Q : Exit -> Act -> World -> Prop) : Nat -> Array Bool -> Act -> World -> Prop
  | 0, listed, a, w => C listed w /\ Region.ready md ops listed = [] /\ Q .normal a w
  | fuel + 1, listed, a, w =>
    C listed w /\ (Region.ready md ops listed = [] -> Q .normal a w) /\
    ∀ i ∈ Region.ready md ops listed, wpOp P ops Q i (Lc P md ops C Q fuel (listed.setIfInBounds i true)) a w
theorem Lc.cls : ∀ {fuel : Nat} {listed : Array Bool} {a : Act} {w : World}, Lc P md ops C Q fuel listed a w -> C listed w
  | 0, _, _, _, h => h.1
  | _ + 1, _, _, _, h => h.1
theorem Ue : ∀ (fuel : Nat) (listed : Array Bool) (a : Act) (w : World), Lc P md ops C Q fuel listed a w -> wpAny P md ops Q fuel listed a w
  | 0, _, _, _, h => h.2
  | fuel + 1, _, _, _, h => ⟨h.2.1, fun i hi => wpOp_mono (fun a w h => Ue fuel _ a w h) (h.2.2 i hi)⟩
def Closed (md : Region.Mode) (ops : Array Oper) (listed : Array Bool) : Prop :=
  ∀ j oj, ops[j]? = some oj -> listed.getD j true = true -> ∀ e ∈ oj.after, Region.binds md e = true -> listed.getD e.on false = true
theorem Closed.set {listed : Array Bool} {j : Nat} (h : Closed md ops listed) (hj : j ∈ Region.ready md ops listed) : Closed md ops (listed.setIfInBounds j true) := by
  intro k ok hk hl e he hb
  obtain ⟨h0, oj, hoj, hall⟩ := mem_ready.1 hj
  by_cases hkj : k = j
  · subst hkj
    rw [hoj] at hk; injection hk with hk; subst hk
    exact getD_set_true (hall e he hb)
  · rw [getD_set_ne true (Ne.symm hkj)] at hl
    exact getD_set_true (h k ok hk hl e he hb)
def CW (P : Program) (md : Region.Mode) (ops : Array Oper) (C : Array Bool -> World -> Prop) (i : Nat) (o : Oper) (v : Value) (a : Act) : Prop :=
  (Region.wanted o (yielded ops a.tmps) = true /\ ∀ listed w, Closed md ops listed -> listed.getD i true = false -> C listed w -> (execOp a.eval o).run P w = .ok (.value v) w) ∨
  (Region.wanted o (yielded ops a.tmps) = false /\ v = undef)
theorem CW.wpOp {i : Nat} {o : Oper} {v : Value} {a : Act} (hi : ops[i]? = some o) (hy : CW P md ops C i o v a)
    {K : Act -> World -> Prop} {w : World} {listed : Array Bool} (hcl : Closed md ops listed) (hp : listed.getD i true = false) (hC : C listed w) (h : K (a.put o.dst v) w) : wpOp P ops Q i K a w := by
  unfold Go.wpOp
  simp only [hi]
  rcases hy with ⟨hw, hv⟩ | ⟨hw, rfl⟩
  · simp only [hw, if_true, Oper.wp, hv listed w hcl hp hC, Oper.upon]; exact .inl h
  · simp only [hw, Bool.false_eq_true, if_false]; exact h
theorem CW.of_same {i : Nat} {o : Oper} {v : Value} {a a' : Act} (hy : CW P md ops C i o v a) (he : execOp a'.eval o = execOp a.eval o)
    (hw : Region.wanted o (yielded ops a'.tmps) = Region.wanted o (yielded ops a.tmps)) : CW P md ops C i o v a' := by
  unfold CW at *
  rw [he, hw]
  exact hy
theorem aaV {i j : Nat} {oi oj : Oper} {v : Value} (hj : ops[j]? = some oj) (hap : oi.apart ops oj = true)
    (hsi : ∀ cs b, oi.op ≠ .select cs b) (hsj : ∀ cs b, oj.op ≠ .select cs b)
    (hQ : ∀ c a w, Q (.panic c) (a.put oi.dst v) w -> Q (.panic c) a w) {K : Act -> World -> Prop} {a : Act} {w : World}
    (hy : CW P md ops C i oi v a) (h : wpOp P ops Q j K (a.put oi.dst v) w) :
    wpOp P ops Q j (fun a' w' => CW P md ops C i oi v a' /\ K (a'.put oi.dst v) w') a w := by
  obtain ⟨h1, h2, h3⟩ := Oper.apart_spec hap
  have keep : ∀ (a : Act), CW P md ops C i oi v a -> ∀ u, CW P md ops C i oi v (a.put oj.dst u) := fun a hy u =>
    hy.of_same (execOp_put oi hsi a oj.dst u h3) (wanted_put oi a oj.dst u h3)
  have keepD : ∀ d, CW P md ops C i oi v { a with defers := d :: a.defers } := fun d => hy.of_same rfl rfl
  unfold wpOp at *
  simp only [hj] at *
  rw [wanted_put oj a oi.dst v h1] at h
  split
  · rename_i hw
    simp only [hw, if_true] at h
    rcases h with h | ⟨hasks, hlets⟩
    case inr => exact .inr ⟨by unfold Oper.asks at *; rw [execOp_put oj hsj a oi.dst v h1] at hasks; exact hasks, hlets⟩
    refine .inl ?_
    unfold Oper.wp at *
    rw [execOp_put oj hsj a oi.dst v h1] at h
    generalize (execOp a.eval oj).run P w = r at *
    cases r with
    | ok n w' =>
      cases n <;> simp only [Oper.upon] at h ⊢
      case value u => exact ⟨keep a hy u, by rw [← Act.put_comm a v u h2]; exact h⟩
      case skip => exact ⟨keep a hy _, by rw [← Act.put_comm a v undef h2]; exact h⟩
      case defer d =>
        refine ⟨keep _ (keepD d) _, ?_⟩
        rw [← Act.put_comm _ v undef h2, ← Act.put_defers]
        exact h
      case enter f args =>
        refine Calls.mono h fun e w'' he => ?_
        cases e with
        | returned u => exact ⟨keep a hy u, by rw [← Act.put_comm a v u h2]; exact he⟩
        | panicked c => exact hQ _ _ _ he
        | outgrown => exact he
      case row row args => exact Rows.mono h fun u w'' he => ⟨keep a hy u, by rw [← Act.put_comm a v u h2]; exact he⟩
    | halt x w' =>
      cases x <;> simp only [Oper.upon] at h ⊢
      case panic u => exact hQ _ _ _ h
  · rename_i hw
    simp only [hw] at h
    exact ⟨keep a hy _, by rw [← Act.put_comm a v undef h2]; exact h⟩
theorem WQ {i : Nat} {oi : Oper} {v : Value} (hi : ops[i]? = some oi) (hsel : ∀ (j : Nat) (o : Oper) cs b, ops[j]? = some o -> o.op ≠ .select cs b)
    (hQ : ∀ c a w, Q (.panic c) (a.put oi.dst v) w -> Q (.panic c) a w) (hCi : ∀ listed w, C (listed.setIfInBounds i true) w -> C listed w) :
    ∀ (fuel : Nat) (listed : Array Bool) (a : Act) (w : World), Closed md ops listed ->
      (∀ j oj, ops[j]? = some oj -> j ≠ i -> listed.getD j true = false -> (∀ e ∈ oj.after, Region.binds md e = true -> e.on ≠ i) -> oi.apart ops oj = true) ->
      i ∈ Region.ready md ops listed -> CW P md ops C i oi v a ->
      Lc P md ops C Q fuel (listed.setIfInBounds i true) (a.put oi.dst v) w -> Lc P md ops C Q (fuel + 1) listed a w := by
  intro fuel
  induction fuel with
  | zero =>
    intro listed a w hcl _ hr hy H
    refine ⟨hCi _ _ H.cls, fun h => (by rw [h] at hr; cases hr), fun j hj => ?_⟩
    by_cases hji : j = i
    · subst hji; exact hy.wpOp hi hcl (mem_ready.1 hr).1 (hCi _ _ H.cls) H
    · have := ready_mono hj hji
      rw [H.2.1] at this
      cases this
  | succ fuel ih =>
    intro listed a w hcl hfree hr hy H
    refine ⟨hCi _ _ H.cls, fun h => (by rw [h] at hr; cases hr), fun j hj => ?_⟩
    by_cases hji : j = i
    · subst hji; exact hy.wpOp hi hcl (mem_ready.1 hr).1 (hCi _ _ H.cls) H
    · have h1 := H.2.2 j (ready_mono hj hji)
      obtain ⟨hjun, oj, hoj, hall⟩ := mem_ready.1 hj
      have hnot : ∀ e ∈ oj.after, Region.binds md e = true -> e.on ≠ i := fun e he hb heq => by
        have h1 := hall e he hb
        have h0 := (mem_ready.1 hr).1
        rw [heq] at h1
        rcases Nat.lt_or_ge i listed.size with h' | h'
        · simp [h'] at h0 h1; rw [h0] at h1; cases h1
        · simp [Array.getElem?_eq_none h'] at h1
      have h2 := aaV hoj (hfree j oj hoj hji hjun hnot) (fun cs b => hsel i oi cs b hi) (fun cs b => hsel j oj cs b hoj) hQ hy h1
      have hfree' : ∀ k ok, ops[k]? = some ok -> k ≠ i -> (listed.setIfInBounds j true).getD k true = false ->
          (∀ e ∈ ok.after, Region.binds md e = true -> e.on ≠ i) -> oi.apart ops ok = true := fun k ok hk hki hun hno => by
        refine hfree k ok hk hki ?_ hno
        by_cases hjk : j = k
        · subst hjk; exact hjun
        · rw [getD_set_ne true hjk] at hun; exact hun
      refine wpOp_mono (fun a' w' h3 => ih (listed.setIfInBounds j true) a' w' (hcl.set hj) hfree' (ready_mono hr (Ne.symm hji)) h3.1 ?_) h2
      rw [Array.setIfInBounds_comm _ _ hji]
      exact h3.2
def aby (P : Program) (md : Region.Mode) (ops : Array Oper) (C : Array Bool -> World -> Prop) (Q : Act -> World -> Prop) : List (Nat × Bool) -> Array Bool -> Act -> World -> Prop
  | [], listed, a, w => C listed w /\ Q a w
  | (k, true) :: r, listed, a, w => ∃ v o, ops[k]? = some o /\ (∀ listed w, C (listed.setIfInBounds k true) w -> C listed w) /\ CW P md ops C k o v a /\ aby P md ops C Q r (listed.setIfInBounds k true) (a.put o.dst v) w
  | (k, false) :: r, listed, a, w => C listed w /\ wpOp P ops (fun e a w => e = .normal /\ Q a w) k (aby P md ops C Q r (listed.setIfInBounds k true)) a w
end
abbrev Dy := List (Nat × (Heap -> Prop))
def Dy.at_ (cs : Dy) (listed : Array Bool) (h : Heap) : Prop := ∀ c ∈ cs, listed.getD c.1 false = false -> c.2 h
def Cls (C : Heap -> Prop) (cs : Dy) (w₀ : World) : Array Bool -> World -> Prop := fun listed w => Kept w₀ w /\ C w.heap /\ cs.at_ listed w.heap
def HM (P : Program) (n : Nat) (ops : Array Oper) (C : Heap -> Prop) (cs : Dy) (l : List (Nat × Bool)) (listed : Array Bool) (Q : kT -> Heap -> Prop) (f : kT) (h : Heap) : Prop :=
  ∀ w₀ a w, a.tmps.size = n -> a.defers = [] -> sl a = f -> Kept w₀ w -> w.heap = h ->
    aby P .any ops (Cls C cs w₀) (fun a' w' => a'.tmps.size = n /\ a'.defers = [] /\ Kept w₀ w' /\ Q (sl a') w'.heap) l listed a w
theorem Y6 (ops : Array Oper) : Closed .any ops (Array.replicate ops.size false) := by
  intro j oj hj hl
  have hlt := (Array.getElem?_eq_some_iff.1 hj).1
  simp [hlt] at hl
def SI (cs : Dy) (k : Nat) : Bool := cs.all fun c => !Nat.beq c.1 k
theorem XM {C : Heap -> Prop} {cs : Dy} {k : Nat} (hk : SI cs k = true) (w₀ : World) (listed : Array Bool) (w : World) (h : Cls C cs w₀ (listed.setIfInBounds k true) w) : Cls C cs w₀ listed w := by
  refine ⟨h.1, h.2.1, fun c hc hl => h.2.2 c hc ?_⟩
  have hne : k ≠ c.1 := by
    have := List.all_eq_true.1 hk c hc
    intro e; subst e; simp at this
  rw [getD_set_ne false hne]; exact hl
section mix
variable {P : Program} {n : Nat} {ops : Array Oper} {C : Heap -> Prop} {cs : Dy} {listed : Array Bool} {r : List (Nat × Bool)} {Q : kT -> Heap -> Prop} {f : kT} {h : Heap} {k : Nat}
  {dst : Option Nat} {op : Op} {ty : TypeId} {pos : String} {after : Array Edge} {guard : Option (Nat × Bool)}
theorem HM.nil (hC : C h /\ cs.at_ listed h) (H : Q f h) : HM P n ops C cs [] listed Q f h :=
  fun _ _ _ hs hd hf hk hh => ⟨⟨hk, by rw [hh]; exact hC⟩, hs, hd, hk, by rw [hf, hh]; exact H⟩
theorem HM.val {v : Value} (hni : SI cs k = true) (hk : ops[k]? = some (Oper.mk dst op ty pos after guard)) (hw : Want ops guard f) (hd : yc n dst = true)
    (hr : ∀ h', C h' -> QV P op ty f h' v) (K : HM P n ops C cs r (listed.setIfInBounds k true) Q (FM f dst v) h) : HM P n ops C cs ((k, true) :: r) listed Q f h := by
  intro w₀ a w hs hd' hf hkept hh
  refine ⟨v, _, hk, XM hni w₀, .inl ⟨tK hw a hf, fun _ w' _ _ hw' => ?_⟩, ?_⟩
  · rw [eval_eq, hf]; exact hr _ hw'.2.1 _ _ _ _ w' rfl
  · exact K w₀ _ w (by rw [size_put]; exact hs) (by rw [qp]; exact hd') (by rw [xg a n dst v hs hd, hf]) hkept hh
theorem HM.past (hni : SI cs k = true) (hk : ops[k]? = some (Oper.mk dst op ty pos after guard)) (hw : Past ops guard f) (hd : yc n dst = true)
    (K : HM P n ops C cs r (listed.setIfInBounds k true) Q (FM f dst undef) h) : HM P n ops C cs ((k, true) :: r) listed Q f h := by
  intro w₀ a w hs hd' hf hkept hh
  refine ⟨undef, _, hk, XM hni w₀, .inr ⟨Iw hw a hf, rfl⟩, ?_⟩
  exact K w₀ _ w (by rw [size_put]; exact hs) (by rw [qp]; exact hd') (by rw [xg a n dst _ hs hd, hf]) hkept hh
theorem HM.eff {R : Value -> Heap -> Prop} (hC : C h /\ cs.at_ listed h) (hk : ops[k]? = some (Oper.mk dst op ty pos after guard)) (hw : Want ops guard f) (hd : yc n dst = true)
    (hr : EV P op ty f h R) (K : ∀ v h', R v h' -> HM P n ops C cs r (listed.setIfInBounds k true) Q (FM f dst v) h') : HM P n ops C cs ((k, false) :: r) listed Q f h := by
  intro w₀ a w hs hd' hf hkept hh
  refine ⟨⟨hkept, by rw [hh]; exact hC⟩, ?_⟩
  obtain ⟨v, w', hrun, hk', hR⟩ := hr dst pos after guard w hh
  unfold wpOp
  simp only [hk, tK hw a hf, if_true]
  refine .inl ?_
  unfold Oper.wp
  rw [eval_eq, hf, hrun]
  exact K v _ hR w₀ _ w' (by rw [size_put]; exact hs) (by rw [qp]; exact hd') (by rw [xg a n dst v hs hd, hf]) (hkept.trans hk') rfl
theorem HM.wF {R : Heap -> Prop} (hC : C h /\ cs.at_ listed h) (hk : ops[k]? = some (Oper.mk dst op ty pos after guard)) (hw : Want ops guard f) (hd : yc n dst = true)
    (hr : ES P op ty f h R) (K : ∀ h', R h' -> HM P n ops C cs r (listed.setIfInBounds k true) Q (FM f dst undef) h') : HM P n ops C cs ((k, false) :: r) listed Q f h := by
  intro w₀ a w hs hd' hf hkept hh
  refine ⟨⟨hkept, by rw [hh]; exact hC⟩, ?_⟩
  obtain ⟨w', hrun, hk', hR⟩ := hr dst pos after guard w hh
  unfold wpOp
  simp only [hk, tK hw a hf, if_true]
  refine .inl ?_
  unfold Oper.wp
  rw [eval_eq, hf, hrun]
  exact K _ hR w₀ _ w' (by rw [size_put]; exact hs) (by rw [qp]; exact hd') (by rw [xg a n dst _ hs hd, hf]) (hkept.trans hk') rfl
theorem HM.call {F : Nat} {args : Array Value} {R : Value -> Heap -> Prop} (hC : C h /\ cs.at_ listed h) (hk : ops[k]? = some (Oper.mk dst op ty pos after guard)) (hw : Want ops guard f)
    (hd : yc n dst = true) (hr : EC P op ty f F args) (hc : HC P F args h R) (K : ∀ v h', R v h' -> HM P n ops C cs r (listed.setIfInBounds k true) Q (FM f dst v) h') :
    HM P n ops C cs ((k, false) :: r) listed Q f h := by
  intro w₀ a w hs hd' hf hkept hh
  refine ⟨⟨hkept, by rw [hh]; exact hC⟩, ?_⟩
  unfold wpOp
  simp only [hk, tK hw a hf, if_true]
  refine .inl ?_
  unfold Oper.wp
  rw [eval_eq, hf, hr _ _ _ _ w, Oper.upon_enter]
  refine (hc w hh).mono ?_
  rintro e w' ⟨hk', v, rfl, hR⟩
  exact K v _ hR w₀ _ w' (by rw [size_put]; exact hs) (by rw [qp]; exact hd') (by rw [xg a n dst v hs hd, hf]) (hkept.trans hk') rfl
end mix
def HA (P : Program) (n : Nat) (ops : Array Oper) (C : Heap -> Prop) (cs : Dy) (fuel : Nat) (listed : Array Bool) (Q : kT -> Heap -> Prop) (f : kT) (h : Heap) : Prop :=
  ∀ w₀ a w, Closed .any ops listed -> a.tmps.size = n -> a.defers = [] -> sl a = f -> Kept w₀ w -> w.heap = h ->
    Lc P .any ops (Cls C cs w₀) (fun e a' w' => e = .normal /\ (a'.tmps.size = n /\ a'.defers = [] /\ Kept w₀ w' /\ Q (sl a') w'.heap)) fuel listed a w
def HS (P : Program) (n : Nat) (ops : Array Oper) (C : Heap -> Prop) (cs : Dy) (k fuel : Nat) (listed : Array Bool) (Q : kT -> Heap -> Prop) (f : kT) (h : Heap) : Prop :=
  ∀ w₀ a w, Closed .any ops listed -> k ∈ Region.ready .any ops listed -> a.tmps.size = n -> a.defers = [] -> sl a = f -> Kept w₀ w -> w.heap = h ->
    wpOp P ops (fun e a' w' => e = .normal /\ (a'.tmps.size = n /\ a'.defers = [] /\ Kept w₀ w' /\ Q (sl a') w'.heap)) k
      (Lc P .any ops (Cls C cs w₀) (fun e a' w' => e = .normal /\ (a'.tmps.size = n /\ a'.defers = [] /\ Kept w₀ w' /\ Q (sl a') w'.heap)) fuel (listed.setIfInBounds k true)) a w
theorem HW.jb {P : Program} {n : Nat} {f : kT} {h : Heap} {id : Nat} {l : List Oper} {Q : Post} (m : Nat) (hm : P.follows .mixedOrders = true) (C : Heap -> Prop) (cs : Dy)
    (hB : (Region.noSelect l.toArray && Nat.beq m l.length) = true)
    (H : HA P n l.toArray C cs m (Array.replicate m false) (fun f h => Q .normal f h) f h) : HW P n (.region id l.toArray true) Q f h := by
  intro a w hs hd hf hh
  simp only [Bool.and_eq_true] at hB
  obtain ⟨hsel, hml⟩ := hB
  obtain rfl := Nat.eq_of_beq_eq_true hml
  refine wp_mono (wp_region_any (Q := fun e a' w' => e = .normal /\ (a'.tmps.size = n /\ a'.defers = [] /\ Kept w w' /\ Q .normal (sl a') w'.heap)) hm ?_) ?_
  · have hsz : Array.replicate l.toArray.size false = Array.replicate l.length false := by simp
    have hcl : Closed .any l.toArray (Array.replicate l.length false) := by rw [← hsz]; exact Y6 _
    have := Ue (C := Cls C cs w) _ _ _ _ (H w a w.drew hcl hs hd hf ⟨rfl, rfl, rfl, fun _ => Nat.le_succ _⟩ hh)
    simpa [hsz] using this
  · rintro e a' w' ⟨rfl, h1, h2, h3, h4⟩
    exact ⟨h1, h2, h3, h4⟩
section ways
variable {P : Program} {n : Nat} {ops : Array Oper} {C : Heap -> Prop} {cs : Dy} {listed : Array Bool} {fuel : Nat} {Q : kT -> Heap -> Prop} {f : kT} {h : Heap} {k : Nat}
  {dst : Option Nat} {op : Op} {ty : TypeId} {pos : String} {after : Array Edge} {guard : Option (Nat × Bool)}
theorem HA.nil (hC : C h /\ cs.at_ listed h) (hr : (Region.ready .any ops listed).isEmpty = true) (H : Q f h) : HA P n ops C cs 0 listed Q f h :=
  fun _ _ _ _ hs hd hf hk hh => ⟨⟨hk, by rw [hh]; exact hC⟩, by simpa using hr, rfl, hs, hd, hk, by rw [hf, hh]; exact H⟩
theorem HA.YC {w₀ : World} {a : Act} {w : World} {ks : List Nat} (hC : C h /\ cs.at_ listed h) (hr : Region.ready .any ops listed = ks) (hne : ks ≠ [])
    (H : ∀ k ∈ ks, HS P n ops C cs k fuel listed Q f h) : HA P n ops C cs (fuel + 1) listed Q f h := by
  intro w₀ a w hcl hs hd hf hk hh
  refine ⟨⟨hk, by rw [hh]; exact hC⟩, fun h0 => absurd (hr.symm.trans h0) hne, fun i hi => ?_⟩
  exact H i (by rw [← hr]; exact hi) w₀ a w hcl hi hs hd hf hk hh
theorem HA.one (hC : C h /\ cs.at_ listed h) (hr : Region.ready .any ops listed = [k]) (H : HS P n ops C cs k fuel listed Q f h) : HA P n ops C cs (fuel + 1) listed Q f h := by
  intro w₀ a w
  exact HA.YC (w₀ := w₀) (a := a) (w := w) hC hr (by simp) (fun i hi => by simp at hi; subst hi; exact H) w₀ a w
theorem HA.two {k' : Nat} (hC : C h /\ cs.at_ listed h) (hr : Region.ready .any ops listed = [k, k']) (H : HS P n ops C cs k fuel listed Q f h) (H' : HS P n ops C cs k' fuel listed Q f h) : HA P n ops C cs (fuel + 1) listed Q f h := by
  intro w₀ a w
  exact HA.YC (w₀ := w₀) (a := a) (w := w) hC hr (by simp) (fun i hi => by simp at hi; rcases hi with rfl | rfl <;> assumption) w₀ a w
theorem HA.quiet {v : Value} (hni : SI cs k = true) (hk : ops[k]? = some (Oper.mk dst op ty pos after guard)) (hsel : Region.noSelect ops = true)
    (hB : ((Region.ready .any ops listed).contains k && Region.free .any ops listed k) = true) (hd : yc n dst = true)
    (hy : ∀ w₀ a, sl a = f -> CW P .any ops (Cls C cs w₀) k (Oper.mk dst op ty pos after guard) v a) (K : HA P n ops C cs fuel (listed.setIfInBounds k true) Q (FM f dst v) h) : HA P n ops C cs (fuel + 1) listed Q f h := by
  intro w₀ a w hcl hs hd' hf hkept hh
  simp only [Bool.and_eq_true] at hB
  have hr' : k ∈ Region.ready .any ops listed := by simpa using hB.1
  refine WQ hk (Region.noSelect_spec hsel) (fun _ _ _ h => by cases h.1) (XM hni w₀) fuel listed a w hcl (Region.free_spec hk hB.2) hr' (hy w₀ a hf) ?_
  exact K w₀ _ w (hcl.set hr') (by rw [size_put]; exact hs) (by rw [qp]; exact hd') (by rw [xg a n dst v hs hd, hf]) hkept hh
theorem HA.val {v : Value} (hni : SI cs k = true) (hk : ops[k]? = some (Oper.mk dst op ty pos after guard)) (hsel : Region.noSelect ops = true)
    (hB : ((Region.ready .any ops listed).contains k && Region.free .any ops listed k) = true) (hw : Want ops guard f) (hd : yc n dst = true)
    (hr : ∀ h', C h' -> QV P op ty f h' v) (K : HA P n ops C cs fuel (listed.setIfInBounds k true) Q (FM f dst v) h) : HA P n ops C cs (fuel + 1) listed Q f h :=
  HA.quiet hni hk hsel hB hd (fun w₀ a hf => .inl ⟨tK hw a hf, fun _ w' _ _ hw' => by rw [eval_eq, hf]; exact hr _ hw'.2.1 _ _ _ _ w' rfl⟩) K
theorem HA.past (hni : SI cs k = true) (hk : ops[k]? = some (Oper.mk dst op ty pos after guard)) (hsel : Region.noSelect ops = true)
    (hB : ((Region.ready .any ops listed).contains k && Region.free .any ops listed k) = true) (hw : Past ops guard f) (hd : yc n dst = true)
    (K : HA P n ops C cs fuel (listed.setIfInBounds k true) Q (FM f dst undef) h) : HA P n ops C cs (fuel + 1) listed Q f h :=
  HA.quiet hni hk hsel hB hd (fun w₀ a hf => .inr ⟨Iw hw a hf, rfl⟩) K
theorem HS.past (hk : ops[k]? = some (Oper.mk dst op ty pos after guard)) (hw : Past ops guard f) (hd : yc n dst = true)
    (K : HA P n ops C cs fuel (listed.setIfInBounds k true) Q (FM f dst undef) h) : HS P n ops C cs k fuel listed Q f h := by
  intro w₀ a w hcl hr hs hd' hf hkept hh
  unfold wpOp
  simp only [hk, Iw hw a hf, Bool.false_eq_true, if_false]
  exact K w₀ _ w (hcl.set hr) (by rw [size_put]; exact hs) (by rw [qp]; exact hd') (by rw [xg a n dst _ hs hd, hf]) hkept hh
theorem HS.eff {R : Value -> Heap -> Prop} (hk : ops[k]? = some (Oper.mk dst op ty pos after guard)) (hw : Want ops guard f) (hd : yc n dst = true)
    (hr : EV P op ty f h R) (K : ∀ v h', R v h' -> HA P n ops C cs fuel (listed.setIfInBounds k true) Q (FM f dst v) h') : HS P n ops C cs k fuel listed Q f h := by
  intro w₀ a w hcl hrd hs hd' hf hkept hh
  obtain ⟨v, w', hrun, hk', hR⟩ := hr dst pos after guard w hh
  unfold wpOp
  simp only [hk, tK hw a hf, if_true]
  refine .inl ?_
  unfold Oper.wp
  rw [eval_eq, hf, hrun]
  exact K v _ hR w₀ _ w' (hcl.set hrd) (by rw [size_put]; exact hs) (by rw [qp]; exact hd') (by rw [xg a n dst v hs hd, hf]) (hkept.trans hk') rfl
theorem HS.wF {R : Heap -> Prop} (hk : ops[k]? = some (Oper.mk dst op ty pos after guard)) (hw : Want ops guard f) (hd : yc n dst = true)
    (hr : ES P op ty f h R) (K : ∀ h', R h' -> HA P n ops C cs fuel (listed.setIfInBounds k true) Q (FM f dst undef) h') : HS P n ops C cs k fuel listed Q f h := by
  intro w₀ a w hcl hrd hs hd' hf hkept hh
  obtain ⟨w', hrun, hk', hR⟩ := hr dst pos after guard w hh
  unfold wpOp
  simp only [hk, tK hw a hf, if_true]
  refine .inl ?_
  unfold Oper.wp
  rw [eval_eq, hf, hrun]
  exact K _ hR w₀ _ w' (hcl.set hrd) (by rw [size_put]; exact hs) (by rw [qp]; exact hd') (by rw [xg a n dst _ hs hd, hf]) (hkept.trans hk') rfl
theorem HS.call {F : Nat} {args : Array Value} {R : Value -> Heap -> Prop} (hk : ops[k]? = some (Oper.mk dst op ty pos after guard)) (hw : Want ops guard f)
    (hd : yc n dst = true) (hr : EC P op ty f F args) (hc : HC P F args h R) (K : ∀ v h', R v h' -> HA P n ops C cs fuel (listed.setIfInBounds k true) Q (FM f dst v) h') :
    HS P n ops C cs k fuel listed Q f h := by
  intro w₀ a w hcl hrd hs hd' hf hkept hh
  unfold wpOp
  simp only [hk, tK hw a hf, if_true]
  refine .inl ?_
  unfold Oper.wp
  rw [eval_eq, hf, hr _ _ _ _ w, Oper.upon_enter]
  refine (hc w hh).mono ?_
  rintro e w' ⟨hk', v, rfl, hR⟩
  exact K v _ hR w₀ _ w' (hcl.set hrd) (by rw [size_put]; exact hs) (by rw [qp]; exact hd') (by rw [xg a n dst v hs hd, hf]) (hkept.trans hk') rfl
end ways
end Go.HL
