/- Going through a map: one entry after the other, in whatever order, none twice. -/
import Derived.Test.YtlnagjjldpgbpaaGreatDoorMaps
set_option linter.unusedSimpArgs false
set_option linter.unusedVariables false
set_option linter.unusedSectionVars false
namespace Go.HL
variable [DM]
section
variable {κ ν : Type} [DecidableEq κ] {ek : κ -> Value} {en : ν -> Value}
def leftOf (es : Array MapEntry) (m : List (κ × ν)) (seen : Array Nat) : List (MapEntry × (κ × ν)) :=
  (es.toList.zip m).filter fun x => !seen.contains x.1.born
structure Fq (h : Heap) (it r : Nat) (ek : κ -> Value) (en : ν -> Value) (m rem : List (κ × ν)) (es : Array MapEntry) (clock : Nat) (seen : Array Nat) : Prop where
  map : fB h r (.map es clock)
  WR : Ru ek en es clock m
  iter : fB h it (.mapIter (some r) clock seen clock)
  rem : (leftOf es m seen).map (·.2) = rem
def AU (h : Heap) (it r : Nat) (ek : κ -> Value) (en : ν -> Value) (m rem : List (κ × ν)) : Prop := ∃ es clock seen, Fq h it r ek en m rem es clock seen
def Cf (h : Heap) (it r : Nat) (ek : κ -> Value) (en : ν -> Value) (m rem : List (κ × ν)) (p : κ × ν) : Prop :=
  ∃ es clock seen e, Fq h it r ek en m rem es clock seen /\ seen.back? = some e /\ ∃ x, es.find? (·.born == e) = some x /\ x.key = ek p.1 /\ x.val = en p.2
theorem Fq.ext {h h' : Heap} {it r : Nat} {m rem : List (κ × ν)} {es : Array MapEntry} {clock : Nat} {seen : Array Nat} (i : Fq h it r ek en m rem es clock seen) (e : Ext h h') :
    Fq h' it r ek en m rem es clock seen := ⟨i.map.ext e, i.WR, i.iter.ext e, i.rem⟩
theorem AU.ext {h h' : Heap} {it r : Nat} {m rem : List (κ × ν)} (i : AU h it r ek en m rem) (e : Ext h h') : AU h' it r ek en m rem :=
  let ⟨es, c, s, k⟩ := i; ⟨es, c, s, k.ext e⟩
theorem Cf.ext {h h' : Heap} {it r : Nat} {m rem : List (κ × ν)} {p : κ × ν} (i : Cf h it r ek en m rem p) (e : Ext h h') : Cf h' it r ek en m rem p :=
  let ⟨es, c, s, x, k, h1, h2⟩ := i; ⟨es, c, s, x, k.ext e, h1, h2⟩
theorem Cf.is {h : Heap} {it r : Nat} {m rem : List (κ × ν)} {p : κ × ν} (i : Cf h it r ek en m rem p) : AU h it r ek en m rem :=
  let ⟨es, c, s, _, k, _⟩ := i; ⟨es, c, s, k⟩
theorem AU.Yr {h : Heap} {it r : Nat} {m rem : List (κ × ν)} (i : AU h it r ek en m rem) : CJ h r ek en m :=
  let ⟨es, c, _, k⟩ := i; ⟨es, c, k.map, k.WR⟩
theorem Fq.upd {h h' : Heap} {it r b : Nat} {o : Obj} {m rem : List (κ × ν)} {es : Array MapEntry} {clock : Nat} {seen : Array Nat} (i : Fq h it r ek en m rem es clock seen) (u : Pq h b o h') (h1 : r ≠ b) (h2 : it ≠ b) :
    Fq h' it r ek en m rem es clock seen := ⟨i.map.upd u h1, i.WR, i.iter.upd u h2, i.rem⟩
theorem AU.upd {h h' : Heap} {it r b : Nat} {o : Obj} {m rem : List (κ × ν)} (i : AU h it r ek en m rem) (u : Pq h b o h') (h1 : r ≠ b) (h2 : it ≠ b) : AU h' it r ek en m rem :=
  let ⟨es, c, s, k⟩ := i; ⟨es, c, s, k.upd u h1 h2⟩
variable {P : Program} {f : jf} {h : Heap} {ty : TypeId}
end
end Go.HL
