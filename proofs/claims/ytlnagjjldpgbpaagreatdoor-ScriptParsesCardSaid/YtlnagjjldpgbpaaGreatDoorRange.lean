/- Going through a map: one entry after the other, in whatever order, none twice. -/
import Derived.Test.YtlnagjjldpgbpaaGreatDoorMaps
set_option linter.unusedSimpArgs false
set_option linter.unusedVariables false
set_option linter.unusedSectionVars false
namespace Go.HL
variable [DM]
section
variable {κ ν : Type} [DecidableEq κ] {ek : κ -> Value} {en : ν -> Value}
def leftOf (es : Array MapEntry) (m : List (κ × ν)) (seen : Array Nat) : List (MapEntry × (κ × ν)) :=
  (es.toList.zip m).filter fun x => !seen.contains x.1.born
structure aom (h : Heap) (it r : Nat) (ek : κ -> Value) (en : ν -> Value) (m rem : List (κ × ν)) (es : Array MapEntry) (clock : Nat) (seen : Array Nat) : Prop where
  map : Blk h r (.map es clock)
  a5z : az8 ek en es clock m
  iter : Blk h it (.mapIter (some r) clock seen clock)
  rem : (leftOf es m seen).map (·.2) = rem
def akh (h : Heap) (it r : Nat) (ek : κ -> Value) (en : ν -> Value) (m rem : List (κ × ν)) : Prop := ∃ es clock seen, aom h it r ek en m rem es clock seen
def alq (h : Heap) (it r : Nat) (ek : κ -> Value) (en : ν -> Value) (m rem : List (κ × ν)) (p : κ × ν) : Prop :=
  ∃ es clock seen e, aom h it r ek en m rem es clock seen /\ seen.back? = some e /\ ∃ x, es.find? (·.born == e) = some x /\ x.key = ek p.1 /\ x.val = en p.2
theorem aom.ext {h h' : Heap} {it r : Nat} {m rem : List (κ × ν)} {es : Array MapEntry} {clock : Nat} {seen : Array Nat} (i : aom h it r ek en m rem es clock seen) (e : Ext h h') :
    aom h' it r ek en m rem es clock seen := ⟨i.map.ext e, i.a5z, i.iter.ext e, i.rem⟩
theorem akh.ext {h h' : Heap} {it r : Nat} {m rem : List (κ × ν)} (i : akh h it r ek en m rem) (e : Ext h h') : akh h' it r ek en m rem :=
  let ⟨es, c, s, k⟩ := i; ⟨es, c, s, k.ext e⟩
theorem alq.ext {h h' : Heap} {it r : Nat} {m rem : List (κ × ν)} {p : κ × ν} (i : alq h it r ek en m rem p) (e : Ext h h') : alq h' it r ek en m rem p :=
  let ⟨es, c, s, x, k, h1, h2⟩ := i; ⟨es, c, s, x, k.ext e, h1, h2⟩
theorem alq.is {h : Heap} {it r : Nat} {m rem : List (κ × ν)} {p : κ × ν} (i : alq h it r ek en m rem p) : akh h it r ek en m rem :=
  let ⟨es, c, s, _, k, _⟩ := i; ⟨es, c, s, k⟩
theorem akh.a7t {h : Heap} {it r : Nat} {m rem : List (κ × ν)} (i : akh h it r ek en m rem) : aly h r ek en m :=
  let ⟨es, c, _, k⟩ := i; ⟨es, c, k.map, k.a5z⟩
theorem aom.upd {h h' : Heap} {it r b : Nat} {o : Obj} {m rem : List (κ × ν)} {es : Array MapEntry} {clock : Nat} {seen : Array Nat} (i : aom h it r ek en m rem es clock seen) (u : Upd h b o h') (h1 : r ≠ b) (h2 : it ≠ b) :
    aom h' it r ek en m rem es clock seen := ⟨i.map.upd u h1, i.a5z, i.iter.upd u h2, i.rem⟩
theorem akh.upd {h h' : Heap} {it r b : Nat} {o : Obj} {m rem : List (κ × ν)} (i : akh h it r ek en m rem) (u : Upd h b o h') (h1 : r ≠ b) (h2 : it ≠ b) : akh h' it r ek en m rem :=
  let ⟨es, c, s, k⟩ := i; ⟨es, c, s, k.upd u h1 h2⟩
variable {P : Program} {f : xh} {h : Heap} {ty : TypeId}
end
end Go.HL
