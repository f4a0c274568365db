/- acR that are only read: they stay. -/
import Derived.Test.YtlnagjjldpgbpaaGreatDoorStr2
set_option linter.unusedSimpArgs false
set_option linter.unusedVariables false
set_option linter.unusedSectionVars false
namespace Go.Wk
open Go.HL
variable [DM]
structure fK (o : Ow) (F : Fz) (h : Heap) : Prop where
  is : o.inv h
  fz : ∀ b, o.foot b -> F b
variable {o : Ow} {F F' : Fz} {h h' : Heap} {os : List Ow}
theorem fK.kp (q : fK o F h) (k : Kp F h F' h') : fK o F' h' := ⟨o.loc h h' q.is (fun b hb => k.old b (q.fz b hb)), fun b hb => k.sub b (q.fz b hb)⟩
theorem St.ae7 (hS : St F (o :: os) h) : fK o (fun b => F b ∨ o.foot b) h := ⟨hS.inv 0 o rfl, fun _ hb => .inr hb⟩
theorem fK.box {b : Nat} {T : TypeId} {c : Array Value} (q : fK (Ow.box b T c) F h) : fP h b (.cells c T (0, 0)) := q.is
theorem fK.sl {α : Type} {E k : Nat} {enc : α -> List Value} {v : Value} {l : List α} (q : fK (Ow.own E k enc v l) F h) : bC F h k enc v l :=
  ⟨(q.is : mM h 0 E k enc v l).slice, fun _ b hb => q.fz b hb⟩
theorem fK.iter {κ ν : Type} [DecidableEq κ] {it r : Nat} {ek : κ -> Value} {en : ν -> Value} {m rem : List (κ × ν)} (q : fK (Ow.iter it r ek en m rem) F h) : fK (Ow.map r ek en m) F h :=
  ⟨(q.is : Bz h it r ek en m rem).YF, fun b hb => q.fz b (.inr hb)⟩
theorem fK.cur {κ ν : Type} [DecidableEq κ] {it r : Nat} {ek : κ -> Value} {en : ν -> Value} {m rem : List (κ × ν)} {p : κ × ν} (q : fK (Ow.cur it r ek en m rem p) F h) : fK (Ow.map r ek en m) F h :=
  ⟨(q.is : Dh h it r ek en m rem p).is.YF, fun b hb => q.fz b (.inr hb)⟩
end Go.Wk
