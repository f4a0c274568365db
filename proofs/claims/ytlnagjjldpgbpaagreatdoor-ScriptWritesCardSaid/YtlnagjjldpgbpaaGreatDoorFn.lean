/- Functions that are handed over: what each says, that it turns nothing; the library's sort by such a one. -/
import Derived.Test.YtlnagjjldpgbpaaGreatDoorMapK
import Derived.Shelf.SlSortCmp.NoneTotal
set_option linter.unusedSimpArgs false
set_option linter.unusedVariables false
set_option linter.unusedSectionVars false
namespace Go.Wk
open Go.HL
variable [DM]
theorem HC.down {d : DM} {P : Program} {K : Nat} {args : Array Value} {h : Heap} {R : Value -> Heap -> Prop} (q : @HC ⟨true⟩ P K args h R) : @HC d P K args h R := by
  intro w hw
  refine (q w hw).mono ?_
  rintro e w' ⟨⟨a, b, c, dd⟩, r⟩
  exact ⟨@Kept.mk d _ _ a b c (fun _ => dd rfl), r⟩
structure SV {ι : Type} (P : Program) (F : Fz) (h : Heap) (K : Nat) (fs cs : Array Value) (A : ι -> List Value) (R : ι -> Value) : Prop where
  enters : ∀ args w, (callFunc K args).run P w = .ok (.enter K args) w
  says : ∀ (x : ι) (F' : Fz) (h' : Heap), Kp F h F' h' -> (∀ b, F' b -> b < h'.size) -> @HC ⟨true⟩ P K (fs.toList ++ A x ++ cs.toList).toArray h' fun u h'' => u = R x /\ Ext h' h''
theorem SV.kp {ι : Type} {P : Program} {F F' : Fz} {h h' : Heap} {K : Nat} {fs cs : Array Value} {A : ι -> List Value} {R : ι -> Value} (q : SV P F h K fs cs A R) (k : Kp F h F' h') : SV P F' h' K fs cs A R :=
  ⟨q.enters, fun x G g hk hr => q.says x G g (k.trans hk) hr⟩
theorem St.ext {F : Fz} {os : List Ow} {h h' : Heap} (hS : St F os h) (e : Ext h h') : St F os h' /\ Kp F h F h' := by
  have := hS.cons (h' := h') ⟨fun _ => False, fun _ => True, fun _ _ _ q => q.elim, fun _ _ _ _ => trivial⟩ trivial (fun _ q => q.elim) e
  exact ⟨this.1.tail, this.2⟩
section
variable {ι : Type} {P : Program} {F : Fz} {h : Heap} {K : Nat} {fs cs : Array Value} {A : ι -> List Value} {R : ι -> Value} {f : jk} {ty : TypeId} {os : List Ow}
theorem SV.ec {fo : Operand} {la : List Operand} {tys : Array TypeId} (q : SV P F h K fs cs A R) (x : ι) (hf : ev f fo = .func (.func K) fs cs) (hl : la.map (ev f) = A x) : EC P (.call ⟨.value fo, la.toArray, tys⟩) ty f K (fs.toList ++ A x ++ cs.toList).toArray :=
  Go.HL.ec q.enters hf (by rw [hl])
theorem SV.hc (q : SV P F h K fs cs A R) (x : ι) (hS : St F os h) : HC P K (fs.toList ++ A x ++ cs.toList).toArray h fun u h' => u = R x /\ St F os h' /\ Kp F h F h' :=
  (HC.down (q.says x F h (Kp.refl F h) hS.fz)).mono fun u h' ⟨hu, he⟩ => ⟨hu, hS.ext he⟩
theorem SV.of {F : Fz} {h : Heap} (en : ∀ args w, (callFunc K args).run P w = .ok (.enter K args) w)
    (H : ∀ (x : ι) (h' : Heap), Kp F h (J6 h') h' -> @HC ⟨true⟩ P K (fs.toList ++ A x ++ cs.toList).toArray h' fun u h'' => u = R x /\ ∃ ZI, Kp (J6 h') h' ZI h'') : SV P F h K fs cs A R :=
  ⟨en, fun x F' h' hk hr => @HC.mono ⟨true⟩ _ _ _ _ _ _ (H x h' (hk.trans ⟨Nat.le_refl _, hr, fun _ _ => rfl⟩)) fun u h'' ⟨hu, ZI, k⟩ => ⟨hu, k.ext⟩⟩
end
section sort
open Go.Shelf Go.RowKit Go.Lib Go.Sort Go.Proofs
variable {P : Program} {ρ : Ren} {α : Type} [Inhabited α]
end sort
end Go.Wk
