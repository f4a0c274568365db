/- The library's sorts of cells (slices.Sort at ints and strings; slices.SortFunc at elements of one cell), over things owned. -/
import Derived.Test.YtmbkoonblmfdpaaGreatFn
import Derived.Shelf.SortM.Plain
import Derived.Shelf.SortM.SortNone
import Derived.Shelf.SlSortCmp.Whole1
set_option linter.unusedSimpArgs false
set_option linter.unusedVariables false
set_option linter.unusedSectionVars false
namespace Go.Wk
open Go.HL
variable [DM]
open Go.Shelf Go.RowKit Go.Lib Go.Sort Go.Proofs
variable {P : Program} {ρ : Ren} {α : Type} [Inhabited α]
def Swo {α : Type} (cf : α -> α -> Int) : Prop := SWO (Go.Proofs.ltOf cf)
theorem ai9 {P : Program} {α : Type} {K : Nat} {enc : α -> List Value} {cf : α -> α -> Int} {F : Fz} {h : Heap} (en : ∀ args w, (callFunc K args).run P w = .ok (.enter K args) w)
    (H : ∀ (x y : α) (h' : Heap), @HC ⟨true⟩ P K #[.agg (enc x).toArray, .agg (enc y).toArray] h' fun u h'' => ∃ (F' : Fz) (r : Int), u = .int .i64 r /\ Kp (Q5 h') h' F' h'' /\ St F' [] h'' /\ r = cf x y) :
    NU P F h K #[] #[] (fun p : α × α => [.agg (enc p.1).toArray, .agg (enc p.2).toArray]) (fun p => .int .i64 (cf p.1 p.2)) :=
  NU.of en fun x h' hk => @HC.mono ⟨true⟩ _ _ _ _ _ _ (H x.1 x.2 h') fun u h'' ⟨F', r, hu, k, _, hr⟩ => ⟨by rw [hu, hr], F', k⟩
end Go.Wk
