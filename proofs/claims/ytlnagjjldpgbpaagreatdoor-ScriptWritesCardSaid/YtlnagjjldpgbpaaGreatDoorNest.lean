/- acR that hold slices: those slices stay. -/
import Derived.Test.YtlnagjjldpgbpaaGreatDoorArr
set_option linter.unusedSimpArgs false
set_option linter.unusedVariables false
set_option linter.unusedSectionVars false
namespace Go.Wk
open Go.HL
variable [DM]
structure Nf (α : Type) where
  p : Fz -> Heap -> α -> Prop
  q : Heap -> α -> Prop
  kp : ∀ (F : Fz) (h : Heap) (F' : Fz) (h' : Heap) (x : α), p F h x -> Kp F h F' h' -> p F' h' x
  is : ∀ (F : Fz) (h : Heap) (x : α), p F h x -> q h x
  init : ∀ (h : Heap) (x : α), q h x -> p (J6 h) h x
section
variable {α β : Type}
def Nf.sl (k : Nat) (enc : β -> List Value) : Nf (Value × List β) where
  p F h x := bC F h k enc x.1 x.2
  q h x := gI h k enc x.1 x.2
  kp _ _ _ _ _ s k := s.kp k
  is _ _ _ s := s.is
  init _ _ s := bC.init s
def Nf.on (n : Nf β) (f : α -> β) : Nf α where
  p F h x := n.p F h (f x)
  q h x := n.q h (f x)
  kp F h F' h' x s k := n.kp F h F' h' (f x) s k
  is F h x s := n.is F h (f x) s
  init h x s := n.init h (f x) s
def Nf.and (n m : Nf α) : Nf α where
  p F h x := n.p F h x /\ m.p F h x
  q h x := n.q h x /\ m.q h x
  kp F h F' h' x s k := ⟨n.kp F h F' h' x s.1 k, m.kp F h F' h' x s.2 k⟩
  is F h x s := ⟨n.is F h x s.1, m.is F h x s.2⟩
  init h x s := ⟨n.init h x s.1, m.init h x s.2⟩
structure tq (n : Nf α) (F : Fz) (h : Heap) (l : List α) : Prop where
  all : ∀ x ∈ l, n.p F h x
structure NfI (n : Nf α) (h : Heap) (l : List α) : Prop where
  all : ∀ x ∈ l, n.q h x
variable {n : Nf α} {F F' : Fz} {h h' : Heap} {l m : List α} {x : α} {i a b : Int}
theorem YZ [Inhabited α] (hb : 0 <= i /\ i < (l.length : Int)) : gi l i ∈ l := by rw [Rh hb.1 hb.2]; exact List.getElem_mem _
theorem Wu {x : α} (hx : x ∈ cut l a b) : x ∈ l := List.mem_of_mem_take (List.mem_of_mem_drop hx)
theorem tq.kp (s : tq n F h l) (k : Kp F h F' h') : tq n F' h' l := ⟨fun x hx => n.kp _ _ _ _ _ (s.all x hx) k⟩
theorem tq.is (s : tq n F h l) : NfI n h l := ⟨fun x hx => n.is _ _ _ (s.all x hx)⟩
theorem tq.init (s : NfI n h l) : tq n (J6 h) h l := ⟨fun x hx => n.init _ _ (s.all x hx)⟩
theorem tq.nil (n : Nf α) (F : Fz) (h : Heap) : tq n F h [] := ⟨fun x hx => by cases hx⟩
theorem tq.cons (p : n.p F h x) (s : tq n F h l) : tq n F h (x :: l) := ⟨fun y hy => (List.mem_cons.1 hy).elim (fun e => e ▸ p) (s.all y)⟩
theorem tq.app (s : tq n F h l) (t : tq n F h m) : tq n F h (l ++ m) := ⟨fun y hy => (List.mem_append.1 hy).elim (s.all y) (t.all y)⟩
theorem tq.cut (s : tq n F h l) (a b : Int) : tq n F h (cut l a b) := ⟨fun y hy => s.all y (Wu hy)⟩
theorem NfI.cut (s : NfI n h l) (a b : Int) : NfI n h (Go.Wk.cut l a b) := ⟨fun y hy => s.all y (Wu hy)⟩
theorem tq.set (s : tq n F h l) (j : Nat) (p : n.p F h x) : tq n F h (l.set j x) := ⟨fun y hy => (List.mem_or_eq_of_mem_set hy).elim (s.all y) (fun e => e ▸ p)⟩
theorem tq.at [Inhabited α] (s : tq n F h l) (hb : 0 <= i /\ i < (l.length : Int)) : n.p F h (gi l i) := s.all _ (YZ hb)
theorem NfI.at [Inhabited α] (s : NfI n h l) (hb : 0 <= i /\ i < (l.length : Int)) : n.q h (gi l i) := s.all _ (YZ hb)
end
end Go.Wk
