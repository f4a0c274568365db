/- Going through a map: one entry after the other, in whatever order, none twice. -/
import Derived.Test.YtlnagjjldpgbpaaGreatDoorMaps
set_option linter.unusedSimpArgs false
set_option linter.unusedVariables false
set_option linter.unusedSectionVars false
namespace Go.HL
variable [DM]
section
variable {κ ν : Type} [DecidableEq κ] {ek : κ -> Value} {en : ν -> Value}
def leftOf (es : Array MapEntry) (m : List (κ × ν)) (seen : Array Nat) : List (MapEntry × (κ × ν)) :=
  (es.toList.zip m).filter fun x => !seen.contains x.1.born
structure DX (h : Heap) (it r : Nat) (ek : κ -> Value) (en : ν -> Value) (m rem : List (κ × ν)) (es : Array MapEntry) (clock : Nat) (seen : Array Nat) : Prop where
  map : eQ h r (.map es clock)
  Vp : Qq ek en es clock m
  iter : eQ h it (.mapIter (some r) clock seen clock)
  rem : (leftOf es m seen).map (·.2) = rem
def yT (h : Heap) (it r : Nat) (ek : κ -> Value) (en : ν -> Value) (m rem : List (κ × ν)) : Prop := ∃ es clock seen, DX h it r ek en m rem es clock seen
def Ai (h : Heap) (it r : Nat) (ek : κ -> Value) (en : ν -> Value) (m rem : List (κ × ν)) (p : κ × ν) : Prop :=
  ∃ es clock seen e, DX h it r ek en m rem es clock seen /\ seen.back? = some e /\ ∃ x, es.find? (·.born == e) = some x /\ x.key = ek p.1 /\ x.val = en p.2
theorem DX.ext {h h' : Heap} {it r : Nat} {m rem : List (κ × ν)} {es : Array MapEntry} {clock : Nat} {seen : Array Nat} (i : DX h it r ek en m rem es clock seen) (e : Ext h h') :
    DX h' it r ek en m rem es clock seen := ⟨i.map.ext e, i.Vp, i.iter.ext e, i.rem⟩
theorem yT.ext {h h' : Heap} {it r : Nat} {m rem : List (κ × ν)} (i : yT h it r ek en m rem) (e : Ext h h') : yT h' it r ek en m rem :=
  let ⟨es, c, s, k⟩ := i; ⟨es, c, s, k.ext e⟩
theorem Ai.ext {h h' : Heap} {it r : Nat} {m rem : List (κ × ν)} {p : κ × ν} (i : Ai h it r ek en m rem p) (e : Ext h h') : Ai h' it r ek en m rem p :=
  let ⟨es, c, s, x, k, h1, h2⟩ := i; ⟨es, c, s, x, k.ext e, h1, h2⟩
theorem Ai.is {h : Heap} {it r : Nat} {m rem : List (κ × ν)} {p : κ × ν} (i : Ai h it r ek en m rem p) : yT h it r ek en m rem :=
  let ⟨es, c, s, _, k, _⟩ := i; ⟨es, c, s, k⟩
theorem yT.Wx {h : Heap} {it r : Nat} {m rem : List (κ × ν)} (i : yT h it r ek en m rem) : AA h r ek en m :=
  let ⟨es, c, _, k⟩ := i; ⟨es, c, k.map, k.Vp⟩
theorem DX.upd {h h' : Heap} {it r b : Nat} {o : Obj} {m rem : List (κ × ν)} {es : Array MapEntry} {clock : Nat} {seen : Array Nat} (i : DX h it r ek en m rem es clock seen) (u : Oq h b o h') (h1 : r ≠ b) (h2 : it ≠ b) :
    DX h' it r ek en m rem es clock seen := ⟨i.map.upd u h1, i.Vp, i.iter.upd u h2, i.rem⟩
theorem yT.upd {h h' : Heap} {it r b : Nat} {o : Obj} {m rem : List (κ × ν)} (i : yT h it r ek en m rem) (u : Oq h b o h') (h1 : r ≠ b) (h2 : it ≠ b) : yT h' it r ek en m rem :=
  let ⟨es, c, s, k⟩ := i; ⟨es, c, s, k.upd u h1 h2⟩
variable {P : Program} {f : iF} {h : Heap} {ty : TypeId}
end
end Go.HL
