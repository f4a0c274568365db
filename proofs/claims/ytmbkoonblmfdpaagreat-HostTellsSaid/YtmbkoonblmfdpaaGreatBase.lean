/- The ground of the walks: a function's slots as a function, its memory as an array of blocks, and rules to step through code over these two. -/
import Derived.WalkKit
import Derived.Deep.QuietTactic
import Derived.StillTailTactics
set_option linter.unusedSimpArgs false
set_option linter.unusedVariables false
set_option linter.unusedSectionVars false
namespace Go.HL
abbrev Heap := Array Obj
abbrev kT := Nat -> Value
def sl (a : Act) : kT := fun t => a.tmps.getD t undef
def upd (f : kT) (k : Nat) (v : Value) : kT := fun t => bif Nat.beq t k then v else f t
def ev (f : kT) : Operand -> Value
  | .tmp t => f t
  | .const v => v
  | .global g => .pointer (some ⟨g, 0, none⟩)
  | .func n => .func (.func n) #[] #[]
theorem eval_eq (a : Act) : a.eval = ev (sl a) := by
  funext x; cases x <;> rfl
theorem upd_same (f : kT) (k : Nat) (v : Value) : upd f k v k = v := by simp [upd]
theorem upd_ne (f : kT) (k t : Nat) (v : Value) (h : t ≠ k) : upd f k v t = f t := by
  have : Nat.beq t k = false := Bool.eq_false_iff.2 fun e => h (Nat.eq_of_beq_eq_true e)
  simp [upd, this]
theorem abA {f : kT} {k : Nat} {v : Value} (h : f k = v) : upd f k v = f := by
  funext t
  by_cases e : t = k
  · subst e; rw [upd_same, h]
  · rw [upd_ne _ _ _ _ e]
theorem afi (a : Act) (d : Nat) (v : Value) (h : d < a.tmps.size) : sl (a.put (some d) v) = upd (sl a) d v := by
  funext t
  simp only [sl, Act.put]
  by_cases e : t = d
  · subst e; rw [upd_same]; simp [h]
  · rw [upd_ne _ _ _ _ e]; simp [sl, Array.getElem?_setIfInBounds_ne (Ne.symm e)]
class DM where
  on : Bool
variable [DM]
structure Kept (w w' : World) : Prop where
  os : w'.os = w.os
  tape : w'.tape = w.tape
  output : w'.output = w.output
  drawn : DM.on = true -> w.drawn <= w'.drawn
theorem Kept.refl (w : World) : Kept w w := ⟨rfl, rfl, rfl, fun _ => Nat.le_refl _⟩
theorem Kept.trans {a b c : World} (h : Kept a b) (k : Kept b c) : Kept a c := ⟨k.os.trans h.os, k.tape.trans h.tape, k.output.trans h.output, fun q => Nat.le_trans (h.drawn q) (k.drawn q)⟩
abbrev Post := Exit -> kT -> Heap -> Prop
def HW (P : Program) (n : Nat) (c : Code) (Q : Post) (f : kT) (h : Heap) : Prop :=
  ∀ a w, a.tmps.size = n -> a.defers = [] -> sl a = f -> w.heap = h ->
    c.wp P (fun e a' w' => a'.tmps.size = n /\ a'.defers = [] /\ Kept w w' /\ Q e (sl a') w'.heap) a w
def HO (P : Program) (n : Nat) (ops : Array Oper) (l : List Oper) (Q : kT -> Heap -> Prop) (f : kT) (h : Heap) : Prop :=
  ∀ a w, a.tmps.size = n -> a.defers = [] -> sl a = f -> w.heap = h ->
    wpList P ops (fun e a' w' => e = .normal /\ a'.tmps.size = n /\ a'.defers = [] /\ Kept w w' /\ Q (sl a') w'.heap) l a w
def HC (P : Program) (K : Nat) (args : Array Value) (h : Heap) (R : Value -> Heap -> Prop) : Prop :=
  ∀ w, w.heap = h -> Calls P K args w fun e w' => Kept w w' /\ ∃ v, e = .returned v /\ R v w'.heap
theorem HC.mono {P : Program} {K : Nat} {args : Array Value} {h : Heap} {R R' : Value -> Heap -> Prop} (hc : HC P K args h R)
    (hr : ∀ v h', R v h' -> R' v h') : HC P K args h R' :=
  fun w hw => (hc w hw).mono fun _ _ ⟨k, v, e, r⟩ => ⟨k, v, e, hr _ _ r⟩
section code
variable {P : Program} {n : Nat} {Q : Post} {f : kT} {h : Heap}
theorem HW.mono {c : Code} {Q' : Post} (H : HW P n c Q f h) (hq : ∀ e f h, Q e f h -> Q' e f h) : HW P n c Q' f h :=
  fun a w hs hd hf hh => wp_mono (H a w hs hd hf hh) fun _ _ _ ⟨h1, h2, h3, h4⟩ => ⟨h1, h2, h3, hq _ _ _ h4⟩
theorem HW.skip (H : Q .normal f h) : HW P n .skip Q f h :=
  fun _ w hs hd hf hh => wp_skip ⟨hs, hd, Kept.refl w, by rw [hf, hh]; exact H⟩
theorem HW.exit {id : Nat} (H : Q (.exit id) f h) : HW P n (.exit id) Q f h :=
  fun _ w hs hd hf hh => wp_exit ⟨hs, hd, Kept.refl w, by rw [hf, hh]; exact H⟩
theorem HW.ret (H : Q .ret f h) : HW P n .ret Q f h :=
  fun _ w hs hd hf hh => wp_ret ⟨hs, hd, Kept.refl w, by rw [hf, hh]; exact H⟩
def SG (K : kT -> Heap -> Prop) (Q : Post) : Post
  | .normal, f, h => K f h
  | e, f, h => Q e f h
theorem ah {K : kT -> Heap -> Prop} (H : K f h) : SG K Q .normal f h := H
theorem dU {K : kT -> Heap -> Prop} {id : Nat} (H : Q (.exit id) f h) : SG K Q (.exit id) f h := H
theorem dR {K : kT -> Heap -> Prop} (H : Q .ret f h) : SG K Q .ret f h := H
theorem HW.seq {x y : Code} (H : HW P n x (SG (HW P n y Q) Q) f h) : HW P n (.seq x y) Q f h := by
  intro a w hs hd hf hh
  refine wp_seq (wp_mono (H a w hs hd hf hh) ?_)
  intro e a' w' ⟨h1, h2, h3, h4⟩
  cases e with
  | normal =>
    refine wp_mono (h4 a' w' h1 h2 rfl rfl) ?_
    intro e a'' w'' ⟨k1, k2, k3, k4⟩
    exact ⟨k1, k2, h3.trans k3, k4⟩
  | _ => exact ⟨h1, h2, h3, h4⟩
theorem HW.iY {x y : Code} (M : kT -> Heap -> Prop) (H : HW P n x (SG M Q) f h) (K : ∀ f h, M f h -> HW P n y Q f h) : HW P n (.seq x y) Q f h :=
  HW.seq (H.mono fun e _ _ q => by cases e <;> first | exact K _ _ q | exact q)
theorem HW.cond {c : Operand} {x y : Code} (t : Bool) (hc : ev f c = .bool t) (ht : t = true -> HW P n x Q f h) (hf : t = false -> HW P n y Q f h) :
    HW P n (.cond c x y) Q f h := by
  intro a w hs hd hfa hh
  have he : a.eval c = .bool t := by rw [eval_eq, hfa]; exact hc
  exact wp_cond_split he (fun e => ht e a w hs hd hfa hh) (fun e => hf e a w hs hd hfa hh)
theorem HW.aaJ {c : Operand} {x y : Code} (hc : ev f c = .bool true) (ht : HW P n x Q f h) : HW P n (.cond c x y) Q f h :=
  HW.cond true hc (fun _ => ht) (fun e => by cases e)
theorem HW.yf {c : Operand} {x y : Code} (hc : ev f c = .bool false) (hf : HW P n y Q f h) : HW P n (.cond c x y) Q f h :=
  HW.cond false hc (fun e => by cases e) (fun _ => hf)
def Qi (id : Nat) (Q : Post) : Post
  | .exit k, f, h => bif Nat.beq k id then Q .normal f h else Q (.exit k) f h
  | e, f, h => Q e f h
theorem dC {id : Nat} (H : Q .normal f h) : Qi id Q .normal f h := H
theorem kz {id : Nat} (H : Q .ret f h) : Qi id Q .ret f h := H
theorem iQ {id : Nat} (H : Q .normal f h) : Qi id Q (.exit id) f h := by simpa [Qi] using H
theorem HW.block {id : Nat} {c : Code} (H : HW P n c (Qi id Q) f h) : HW P n (.block id c) Q f h := by
  intro a w hs hd hf hh
  refine wp_block (wp_mono (H a w hs hd hf hh) ?_)
  intro e a' w' ⟨h1, h2, h3, h4⟩
  cases e with
  | exit k =>
    simp only [Exit.inBlock]
    by_cases e : k = id
    · subst e; rw [if_pos rfl]; refine ⟨h1, h2, h3, ?_⟩; simpa [Qi] using h4
    · rw [if_neg e]; refine ⟨h1, h2, h3, ?_⟩
      have : Nat.beq k id = false := Bool.eq_false_iff.2 fun e' => e (Nat.eq_of_beq_eq_true e')
      simpa [Qi, this] using h4
  | _ => exact ⟨h1, h2, h3, h4⟩
theorem HW.loop {c : Code} {S : Type} (I : S -> kT -> Heap -> Prop) (m : S -> Nat) (s₀ : S) (h₀ : I s₀ f h)
    (round : ∀ s f h, I s f h -> HW P n c (SG (fun f' h' => ∃ s', I s' f' h' /\ m s' < m s) Q) f h) : HW P n (.loop c) Q f h := by
  intro a w hs hd hf hh b kk cs
  have key : ∀ k s, m s = k -> ∀ a w', Kept w w' -> a.tmps.size = n -> a.defers = [] -> I s (sl a) w'.heap ->
      ∃ e a' w'', (a'.tmps.size = n /\ a'.defers = [] /\ Kept w w'' /\ Q e (sl a') w''.heap) /\ Arrives P (lone (b.at a (.code c :: .inLoop c :: kk)) cs w') b kk cs e a' w'' := by
    intro k
    induction k using Nat.strongRecOn with
    | _ k ih =>
      intro s hk a w' hkept hs hd hI
      obtain ⟨e, a₁, w₁, hq, harr⟩ := round s _ _ hI a w' hs hd rfl rfl b (.inLoop c :: kk) cs
      obtain ⟨q1, q2, q3, q4⟩ := hq
      cases e with
      | normal =>
        obtain ⟨s', hI', hlt⟩ := q4
        obtain ⟨e₂, a₂, w₂, hq₂, harr₂⟩ := ih (m s') (hk ▸ hlt) s' rfl a₁ w₁ (hkept.trans q3) q1 q2 hI'
        exact ⟨e₂, a₂, w₂, hq₂, .of_steps (Steps.trans harr (.one step_inLoop)) harr₂⟩
      | exit id => exact ⟨_, a₁, w₁, ⟨q1, q2, hkept.trans q3, q4⟩, .pass (x := .inLoop c) rfl (fun _ _ => .inl (by simp)) harr⟩
      | goto l => exact ⟨_, a₁, w₁, ⟨q1, q2, hkept.trans q3, q4⟩, .pass (x := .inLoop c) rfl (fun _ _ => .inl (by simp)) harr⟩
      | ret => exact ⟨_, a₁, w₁, ⟨q1, q2, hkept.trans q3, q4⟩, .pass (x := .inLoop c) rfl (fun _ _ => .inl (by simp)) harr⟩
      | panic ch => exact ⟨_, a₁, w₁, ⟨q1, q2, hkept.trans q3, q4⟩, .pass (x := .inLoop c) rfl (fun _ _ => .inl (by simp)) harr⟩
      | outgrown => exact ⟨_, a₁, w₁, ⟨q1, q2, hkept.trans q3, q4⟩, .pass (x := .inLoop c) rfl (fun _ _ => .inl (by simp)) harr⟩
  obtain ⟨e, a', w'', hq, harr⟩ := key _ s₀ rfl a w (Kept.refl w) hs hd (by rw [hf, hh]; exact h₀)
  exact ⟨e, a', w'', hq, .of_steps (.one step_loop) harr⟩
end code
end Go.HL
