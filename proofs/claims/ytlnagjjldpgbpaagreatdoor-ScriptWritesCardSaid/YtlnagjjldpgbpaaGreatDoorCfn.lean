/- strings.ContainsFunc by a function of the program's. -/
import Derived.Test.YtlnagjjldpgbpaaGreatDoorStrs
import Derived.Shelf.Strings.FuncGrows
set_option linter.unusedSimpArgs false
set_option linter.unusedVariables false
set_option linter.unusedSectionVars false
namespace Go.Wk
open Go.HL
open Go.Proofs Go.Shelf
variable [DM]
def Ea (cf : Int -> Bool) (s : Str) : Bool := decide (0 <= Lib.idxFunc (fun n => cf (n : Int)) true (bs s))
theorem Oc {P : Program} {ρ : Ren} {g : Nat} {lb : Array Value} {cf : Int -> Bool} {F : Fz} {os : List Ow} {h : Heap} (hD : DM.on = false) (L : LaysGw.n17 P ρ)
    (hF : SV P F h g #[] lb (fun x : Int => [.int .i32 x]) (fun x => .bool (cf x))) (s : Str) (hS : St F os h) :
    HC P (ρ.f 17) #[.string (bs s), .func (.func g) #[] lb] h fun u h' => u = .bool (Ea cf s) /\ St F os h' /\ Kp F h F h' := by
  refine HC.QY (R := fun u => u = .bool (Ea cf s)) hD hS fun w hw => ?_
  refine (Any.strings_ContainsFunc_grows L g lb hF.enters (fun n => cf (n : Int)) (bs s) w ?_).mono ?_
  · intro W x hx hb
    have hk : Kp F h F W.heap := ⟨by rw [← hw]; exact hb.size, fun _ q => q, fun b q => by rw [← hw]; exact hb.block b (by rw [hw]; exact hS.fz b q)⟩
    have hc := hF.says (x : Int) F W.heap hk (fun b q => Nat.lt_of_lt_of_le (hS.fz b q) hk.size) W rfl
    refine (show Calls P g (#[encR x] ++ lb) W _ from ?_)
    have e : ((#[] : Array Value).toList ++ [Value.int .i32 (x : Int)] ++ lb.toList).toArray = #[encR x] ++ lb := by
      apply Array.toList_inj.1; simp [encR]
    rw [e] at hc
    refine hc.mono ?_
    rintro e w' ⟨k, v, rfl, rfl, hE⟩
    exact ⟨rfl, ⟨@Kept.os ⟨true⟩ _ _ k, @Kept.tape ⟨true⟩ _ _ k, @Kept.output ⟨true⟩ _ _ k, hE.size, hE.old⟩⟩
  · rintro e w' ⟨rfl, hb⟩
    exact ⟨_, rfl, rfl, hb⟩
end Go.Wk
