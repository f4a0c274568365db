/- Going through a map: one entry after the other, in whatever order, none twice. -/
import Derived.Test.YtlnagjjldpgbpaaGreatDoorMaps
set_option linter.unusedSimpArgs false
set_option linter.unusedVariables false
set_option linter.unusedSectionVars false
namespace Go.HL
variable [DM]
section
variable {κ ν : Type} [DecidableEq κ] {ek : κ -> Value} {en : ν -> Value}
def leftOf (es : Array MapEntry) (m : List (κ × ν)) (seen : Array Nat) : List (MapEntry × (κ × ν)) :=
  (es.toList.zip m).filter fun x => !seen.contains x.1.born
structure F8 (h : Heap) (it r : Nat) (ek : κ -> Value) (en : ν -> Value) (m rem : List (κ × ν)) (es : Array MapEntry) (clock : Nat) (seen : Array Nat) : Prop where
  map : fP h r (.map es clock)
  Xy : SX ek en es clock m
  iter : fP h it (.mapIter (some r) clock seen clock)
  rem : (leftOf es m seen).map (·.2) = rem
def Bz (h : Heap) (it r : Nat) (ek : κ -> Value) (en : ν -> Value) (m rem : List (κ × ν)) : Prop := ∃ es clock seen, F8 h it r ek en m rem es clock seen
def Dh (h : Heap) (it r : Nat) (ek : κ -> Value) (en : ν -> Value) (m rem : List (κ × ν)) (p : κ × ν) : Prop :=
  ∃ es clock seen e, F8 h it r ek en m rem es clock seen /\ seen.back? = some e /\ ∃ x, es.find? (·.born == e) = some x /\ x.key = ek p.1 /\ x.val = en p.2
theorem F8.ext {h h' : Heap} {it r : Nat} {m rem : List (κ × ν)} {es : Array MapEntry} {clock : Nat} {seen : Array Nat} (i : F8 h it r ek en m rem es clock seen) (e : Ext h h') :
    F8 h' it r ek en m rem es clock seen := ⟨i.map.ext e, i.Xy, i.iter.ext e, i.rem⟩
theorem Bz.ext {h h' : Heap} {it r : Nat} {m rem : List (κ × ν)} (i : Bz h it r ek en m rem) (e : Ext h h') : Bz h' it r ek en m rem :=
  let ⟨es, c, s, k⟩ := i; ⟨es, c, s, k.ext e⟩
theorem Dh.ext {h h' : Heap} {it r : Nat} {m rem : List (κ × ν)} {p : κ × ν} (i : Dh h it r ek en m rem p) (e : Ext h h') : Dh h' it r ek en m rem p :=
  let ⟨es, c, s, x, k, h1, h2⟩ := i; ⟨es, c, s, x, k.ext e, h1, h2⟩
theorem Dh.is {h : Heap} {it r : Nat} {m rem : List (κ × ν)} {p : κ × ν} (i : Dh h it r ek en m rem p) : Bz h it r ek en m rem :=
  let ⟨es, c, s, _, k, _⟩ := i; ⟨es, c, s, k⟩
theorem Bz.YF {h : Heap} {it r : Nat} {m rem : List (κ × ν)} (i : Bz h it r ek en m rem) : Dp h r ek en m :=
  let ⟨es, c, _, k⟩ := i; ⟨es, c, k.map, k.Xy⟩
theorem F8.upd {h h' : Heap} {it r b : Nat} {o : Obj} {m rem : List (κ × ν)} {es : Array MapEntry} {clock : Nat} {seen : Array Nat} (i : F8 h it r ek en m rem es clock seen) (u : Qq h b o h') (h1 : r ≠ b) (h2 : it ≠ b) :
    F8 h' it r ek en m rem es clock seen := ⟨i.map.upd u h1, i.Xy, i.iter.upd u h2, i.rem⟩
theorem Bz.upd {h h' : Heap} {it r b : Nat} {o : Obj} {m rem : List (κ × ν)} (i : Bz h it r ek en m rem) (u : Qq h b o h') (h1 : r ≠ b) (h2 : it ≠ b) : Bz h' it r ek en m rem :=
  let ⟨es, c, s, k⟩ := i; ⟨es, c, s, k.upd u h1 h2⟩
variable {P : Program} {f : jk} {h : Heap} {ty : TypeId}
end
end Go.HL
