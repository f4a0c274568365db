/- agD that are only read: they stay. -/
import Derived.Test.YtmbkoonblmfdpaaGreatStr2
set_option linter.unusedSimpArgs false
set_option linter.unusedVariables false
set_option linter.unusedSectionVars false
namespace Go.Wk
open Go.HL
variable [DM]
structure CZ (o : Ow) (F : Fz) (h : Heap) : Prop where
  is : o.inv h
  fz : ∀ b, o.foot b -> F b
variable {o : Ow} {F F' : Fz} {h h' : Heap} {os : List Ow}
theorem CZ.kp (q : CZ o F h) (k : Kp F h F' h') : CZ o F' h' := ⟨o.loc h h' q.is (fun b hb => k.old b (q.fz b hb)), fun b hb => k.sub b (q.fz b hb)⟩
theorem St.Je (hS : St F (o :: os) h) : CZ o (fun b => F b ∨ o.foot b) h := ⟨hS.inv 0 o rfl, fun _ hb => .inr hb⟩
theorem CZ.box {b : Nat} {T : TypeId} {c : Array Value} (q : CZ (Ow.box b T c) F h) : dW h b (.cells c T (0, 0)) := q.is
theorem CZ.mp {κ ν : Type} {r : Nat} {ek : κ -> Value} {en : ν -> Value} {m : List (κ × ν)} (q : CZ (Ow.map r ek en m) F h) : qV h r ek en m := q.is
theorem CZ.sl {α : Type} {E k : Nat} {enc : α -> List Value} {v : Value} {l : List α} (q : CZ (Ow.own E k enc v l) F h) : az F h k enc v l :=
  ⟨(q.is : kL h 0 E k enc v l).slice, fun _ b hb => q.fz b hb⟩
theorem CZ.iter {κ ν : Type} [DecidableEq κ] {it r : Nat} {ek : κ -> Value} {en : ν -> Value} {m rem : List (κ × ν)} (q : CZ (Ow.iter it r ek en m rem) F h) : CZ (Ow.map r ek en m) F h :=
  ⟨(q.is : Cc h it r ek en m rem).aan, fun b hb => q.fz b (.inr hb)⟩
theorem CZ.cur {κ ν : Type} [DecidableEq κ] {it r : Nat} {ek : κ -> Value} {en : ν -> Value} {m rem : List (κ × ν)} {p : κ × ν} (q : CZ (Ow.cur it r ek en m rem p) F h) : CZ (Ow.map r ek en m) F h :=
  ⟨(q.is : D5 h it r ek en m rem p).is.aan, fun b hb => q.fz b (.inr hb)⟩
end Go.Wk
