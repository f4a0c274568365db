/- bex that are only read: they stay. -/
import Derived.Test.YtlnagjjldpgbpaaGreatDoorStr2
set_option linter.unusedSimpArgs false
set_option linter.unusedVariables false
set_option linter.unusedSectionVars false
namespace Go.Wk
open Go.HL
variable [DM]
structure RoF (o : Ow) (F : Fz) (h : Heap) : Prop where
  is : o.inv h
  fz : ∀ b, o.foot b -> F b
variable {o : Ow} {F F' : Fz} {h h' : Heap} {os : List Ow}
theorem RoF.kp (q : RoF o F h) (k : Kp F h F' h') : RoF o F' h' := ⟨o.loc h h' q.is (fun b hb => k.old b (q.fz b hb)), fun b hb => k.sub b (q.fz b hb)⟩
theorem St.bh5 (hS : St F (o :: os) h) : RoF o (fun b => F b ∨ o.foot b) h := ⟨hS.inv 0 o rfl, fun _ hb => .inr hb⟩
theorem RoF.box {b : Nat} {T : TypeId} {c : Array Value} (q : RoF (Ow.box b T c) F h) : Blk h b (.cells c T (0, 0)) := q.is
theorem RoF.sl {α : Type} {E k : Nat} {enc : α -> List Value} {v : Value} {l : List α} (q : RoF (Ow.own E k enc v l) F h) : jb F h k enc v l :=
  ⟨(q.is : abu h 0 E k enc v l).slice, fun _ b hb => q.fz b hb⟩
theorem RoF.iter {κ ν : Type} [DecidableEq κ] {it r : Nat} {ek : κ -> Value} {en : ν -> Value} {m rem : List (κ × ν)} (q : RoF (Ow.iter it r ek en m rem) F h) : RoF (Ow.map r ek en m) F h :=
  ⟨(q.is : akh h it r ek en m rem).a7t, fun b hb => q.fz b (.inr hb)⟩
theorem RoF.cur {κ ν : Type} [DecidableEq κ] {it r : Nat} {ek : κ -> Value} {en : ν -> Value} {m rem : List (κ × ν)} {p : κ × ν} (q : RoF (Ow.cur it r ek en m rem p) F h) : RoF (Ow.map r ek en m) F h :=
  ⟨(q.is : alq h it r ek en m rem p).is.a7t, fun b hb => q.fz b (.inr hb)⟩
end Go.Wk
