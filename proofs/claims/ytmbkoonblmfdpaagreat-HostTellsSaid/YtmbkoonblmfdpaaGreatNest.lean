/- agD that hold slices: those slices stay. -/
import Derived.Test.YtmbkoonblmfdpaaGreatArr
set_option linter.unusedSimpArgs false
set_option linter.unusedVariables false
set_option linter.unusedSectionVars false
namespace Go.Wk
open Go.HL
variable [DM]
structure Nf (α : Type) where
  p : Fz -> Heap -> α -> Prop
  q : Heap -> α -> Prop
  kp : ∀ (F : Fz) (h : Heap) (F' : Fz) (h' : Heap) (x : α), p F h x -> Kp F h F' h' -> p F' h' x
  is : ∀ (F : Fz) (h : Heap) (x : α), p F h x -> q h x
  init : ∀ (h : Heap) (x : α), q h x -> p (Q5 h) h x
section
variable {α β : Type}
def Nf.sl (k : Nat) (enc : β -> List Value) : Nf (Value × List β) where
  p F h x := az F h k enc x.1 x.2
  q h x := gY h k enc x.1 x.2
  kp _ _ _ _ _ s k := s.kp k
  is _ _ _ s := s.is
  init _ _ s := az.init s
def Nf.on (n : Nf β) (f : α -> β) : Nf α where
  p F h x := n.p F h (f x)
  q h x := n.q h (f x)
  kp F h F' h' x s k := n.kp F h F' h' (f x) s k
  is F h x s := n.is F h (f x) s
  init h x s := n.init h (f x) s
def Nf.and (n m : Nf α) : Nf α where
  p F h x := n.p F h x /\ m.p F h x
  q h x := n.q h x /\ m.q h x
  kp F h F' h' x s k := ⟨n.kp F h F' h' x s.1 k, m.kp F h F' h' x s.2 k⟩
  is F h x s := ⟨n.is F h x s.1, m.is F h x s.2⟩
  init h x s := ⟨n.init h x s.1, m.init h x s.2⟩
structure jq (n : Nf α) (F : Fz) (h : Heap) (l : List α) : Prop where
  all : ∀ x ∈ l, n.p F h x
structure VI (n : Nf α) (h : Heap) (l : List α) : Prop where
  all : ∀ x ∈ l, n.q h x
variable {n : Nf α} {F F' : Fz} {h h' : Heap} {l m : List α} {x : α} {i a b : Int}
theorem acH [Inhabited α] (hb : 0 <= i /\ i < (l.length : Int)) : gi l i ∈ l := by rw [SY hb.1 hb.2]; exact List.getElem_mem _
theorem aaH {x : α} (hx : x ∈ cut l a b) : x ∈ l := List.mem_of_mem_take (List.mem_of_mem_drop hx)
theorem jq.kp (s : jq n F h l) (k : Kp F h F' h') : jq n F' h' l := ⟨fun x hx => n.kp _ _ _ _ _ (s.all x hx) k⟩
theorem jq.is (s : jq n F h l) : VI n h l := ⟨fun x hx => n.is _ _ _ (s.all x hx)⟩
theorem jq.init (s : VI n h l) : jq n (Q5 h) h l := ⟨fun x hx => n.init _ _ (s.all x hx)⟩
theorem jq.nil (n : Nf α) (F : Fz) (h : Heap) : jq n F h [] := ⟨fun x hx => by cases hx⟩
theorem jq.cons (p : n.p F h x) (s : jq n F h l) : jq n F h (x :: l) := ⟨fun y hy => (List.mem_cons.1 hy).elim (fun e => e ▸ p) (s.all y)⟩
theorem jq.app (s : jq n F h l) (t : jq n F h m) : jq n F h (l ++ m) := ⟨fun y hy => (List.mem_append.1 hy).elim (s.all y) (t.all y)⟩
theorem jq.cut (s : jq n F h l) (a b : Int) : jq n F h (cut l a b) := ⟨fun y hy => s.all y (aaH hy)⟩
theorem VI.cut (s : VI n h l) (a b : Int) : VI n h (Go.Wk.cut l a b) := ⟨fun y hy => s.all y (aaH hy)⟩
theorem jq.set (s : jq n F h l) (j : Nat) (p : n.p F h x) : jq n F h (l.set j x) := ⟨fun y hy => (List.mem_or_eq_of_mem_set hy).elim (s.all y) (fun e => e ▸ p)⟩
theorem jq.perm (s : jq n F h l) (hp : List.Perm m l) : jq n F h m := ⟨fun y hy => s.all y (hp.mem_iff.1 hy)⟩
theorem jq.at [Inhabited α] (s : jq n F h l) (hb : 0 <= i /\ i < (l.length : Int)) : n.p F h (gi l i) := s.all _ (acH hb)
theorem VI.at [Inhabited α] (s : VI n h l) (hb : 0 <= i /\ i < (l.length : Int)) : n.q h (gi l i) := s.all _ (acH hb)
end
section
variable {P : Program} {f : kT} {h : Heap} {ty : TypeId} {α : Type} [Inhabited α] {k : Nat} {enc : α -> List Value} {v : Value} {l : List α}
theorem AQ {T' : TypeId} {x : Operand} {t : Int} {j n : Nat} {cs : List Value} (hT : KF P T' n) (hS : gY h k enc v l) (hx : ev f x = nD k v t.toNat j) (hb : 0 <= t /\ t < (l.length : Int)) (hj : j + n <= k)
    (hu : ((enc (gi l t)).drop j).take n = cs) : QV P (.load T' x) ty f h (.agg cs.toArray) := by
  rw [SY hb.1 hb.2] at hu; subst hu
  have hi : t.toNat < l.length := by omega
  obtain ⟨⟨a, cap, hv, h1, h2, h3⟩, h4⟩ := hS
  subst hv
  rcases h3 with h3 | ⟨b, off, ha, hb', hr⟩
  · subst h3; simp at hi
  · subst ha
    have he := h4 _ (List.getElem_mem hi)
    have hlen : (((enc l[t.toNat]).drop j).take n).length = n := by rw [List.length_take, List.length_drop, he]; omega
    refine bK hT (b := b) (o := off + t.toNat * k + j) ?_ hlen ?_
    · rw [hx]; simp only [nD, Dx]
    · intro m hm
      have hm' : m < n := by rw [hlen] at hm; exact hm
      have := hr t.toNat hi (j + m) (by rw [he]; omega)
      rw [show off + t.toNat * k + j + m = off + t.toNat * k + (j + m) from by omega, this]
      congr 1
      rw [List.getElem_take, List.getElem_drop]
end
end Go.Wk
