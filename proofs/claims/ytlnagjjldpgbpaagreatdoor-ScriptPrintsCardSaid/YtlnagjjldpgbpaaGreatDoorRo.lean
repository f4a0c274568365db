/- acP that are only read: they stay. -/
import Derived.Test.YtlnagjjldpgbpaaGreatDoorStr2
set_option linter.unusedSimpArgs false
set_option linter.unusedVariables false
set_option linter.unusedSectionVars false
namespace Go.Wk
open Go.HL
variable [DM]
structure iO (o : Ow) (F : Fz) (h : Heap) : Prop where
  is : o.inv h
  fz : ∀ b, o.foot b -> F b
variable {o : Ow} {F F' : Fz} {h h' : Heap} {os : List Ow}
theorem iO.kp (q : iO o F h) (k : Kp F h F' h') : iO o F' h' := ⟨o.loc h h' q.is (fun b hb => k.old b (q.fz b hb)), fun b hb => k.sub b (q.fz b hb)⟩
theorem St.afg (hS : St F (o :: os) h) : iO o (fun b => F b ∨ o.foot b) h := ⟨hS.inv 0 o rfl, fun _ hb => .inr hb⟩
theorem iO.box {b : Nat} {T : TypeId} {c : Array Value} (q : iO (Ow.box b T c) F h) : fB h b (.cells c T (0, 0)) := q.is
theorem iO.sl {α : Type} {E k : Nat} {enc : α -> List Value} {v : Value} {l : List α} (q : iO (Ow.own E k enc v l) F h) : bf F h k enc v l :=
  ⟨(q.is : mD h 0 E k enc v l).slice, fun _ b hb => q.fz b hb⟩
theorem iO.iter {κ ν : Type} [DecidableEq κ] {it r : Nat} {ek : κ -> Value} {en : ν -> Value} {m rem : List (κ × ν)} (q : iO (Ow.iter it r ek en m rem) F h) : iO (Ow.map r ek en m) F h :=
  ⟨(q.is : AU h it r ek en m rem).Yr, fun b hb => q.fz b (.inr hb)⟩
theorem iO.cur {κ ν : Type} [DecidableEq κ] {it r : Nat} {ek : κ -> Value} {en : ν -> Value} {m rem : List (κ × ν)} {p : κ × ν} (q : iO (Ow.cur it r ek en m rem p) F h) : iO (Ow.map r ek en m) F h :=
  ⟨(q.is : Cf h it r ek en m rem p).is.Yr, fun b hb => q.fz b (.inr hb)⟩
end Go.Wk
