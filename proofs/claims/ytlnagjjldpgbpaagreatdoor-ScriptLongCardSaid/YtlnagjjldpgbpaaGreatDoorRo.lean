/- aaI that are only read: they stay. -/
import Derived.Test.YtlnagjjldpgbpaaGreatDoorStr2
set_option linter.unusedSimpArgs false
set_option linter.unusedVariables false
set_option linter.unusedSectionVars false
namespace Go.Wk
open Go.HL
variable [DM]
structure fM (o : Ow) (F : Fz) (h : Heap) : Prop where
  is : o.inv h
  fz : ∀ b, o.foot b -> F b
variable {o : Ow} {F F' : Fz} {h h' : Heap} {os : List Ow}
theorem fM.kp (q : fM o F h) (k : Kp F h F' h') : fM o F' h' := ⟨o.loc h h' q.is (fun b hb => k.old b (q.fz b hb)), fun b hb => k.sub b (q.fz b hb)⟩
theorem St.acZ (hS : St F (o :: os) h) : fM o (fun b => F b ∨ o.foot b) h := ⟨hS.inv 0 o rfl, fun _ hb => .inr hb⟩
theorem fM.box {b : Nat} {T : TypeId} {c : Array Value} (q : fM (Ow.box b T c) F h) : eQ h b (.cells c T (0, 0)) := q.is
theorem fM.sl {α : Type} {E k : Nat} {enc : α -> List Value} {v : Value} {l : List α} (q : fM (Ow.own E k enc v l) F h) : bF F h k enc v l :=
  ⟨(q.is : lI h 0 E k enc v l).slice, fun _ b hb => q.fz b hb⟩
theorem fM.iter {κ ν : Type} [DecidableEq κ] {it r : Nat} {ek : κ -> Value} {en : ν -> Value} {m rem : List (κ × ν)} (q : fM (Ow.iter it r ek en m rem) F h) : fM (Ow.map r ek en m) F h :=
  ⟨(q.is : yT h it r ek en m rem).Wx, fun b hb => q.fz b (.inr hb)⟩
theorem fM.cur {κ ν : Type} [DecidableEq κ] {it r : Nat} {ek : κ -> Value} {en : ν -> Value} {m rem : List (κ × ν)} {p : κ × ν} (q : fM (Ow.cur it r ek en m rem p) F h) : fM (Ow.map r ek en m) F h :=
  ⟨(q.is : Ai h it r ek en m rem p).is.Wx, fun b hb => q.fz b (.inr hb)⟩
end Go.Wk
