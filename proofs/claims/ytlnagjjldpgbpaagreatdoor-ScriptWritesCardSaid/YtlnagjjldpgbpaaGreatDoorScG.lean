/- Plain words: reading a whole line; the lives. -/
import Derived.Test.YtlnagjjldpgbpaaGreatDoorScF
set_option linter.unusedSimpArgs false
set_option linter.unusedVariables false
set_option linter.unusedSectionVars false
namespace Go.Wk
open Go.HL
variable [DM]
abbrev QP : Type := Int -> Int -> Int -> Int -> Int -> Str -> Bool -> Ba 16 -> Bool -> Ba 16 -> Bool -> List Ad -> Str -> Int -> Prop
def apP (Q : QP) (o : Cm) (e : Int) : Prop := Q o.k o.nd o.vl o.po o.n o.b o.g.1 o.g.2 o.s.1 o.s.2 o.x o.l o.t e
theorem YG {B : (List Str × TS -> Prop) -> List Str × TS -> Prop} {w0 : List Str} {o0 : Cm} (n : Nat) (I : Nat -> List Str -> Cm -> Prop) (h0 : I 0 w0 o0)
    (hB : ∀ (K : List Str × TS -> Prop) (i : Nat) (w : List Str) (o : Cm), i <= n -> I i w o -> (∀ (j : Nat) (w' : List Str) (o' : Cm), i < j -> j <= n -> I j w' o' -> K (w', tup o' (j : Int))) -> B K (w, tup o (i : Int))) : lu B (w0, tup o0 0) := by
  refine Gv (fun s => s.2.2.2.2.2.2.2.2.2.2.2.2.2.2) n (fun i s => ∃ w o, s = (w, tup o (i : Int)) /\ I i w o) rfl ⟨w0, o0, rfl, h0⟩ ?_
  rintro K i s _ hi ⟨w, o, rfl, hI⟩ hK
  exact hB K i w o hi hI fun j w' o' hij hj hI' => hK j _ rfl hij hj ⟨w', o', rfl, hI'⟩
theorem YL {c : Cm} : ∀ (L : List Int) (o : Cm), (∀ t ∈ L, t ≠ 3 /\ t ≠ 5) -> (L.foldl (Gw c) o).n = o.n
  | [], o, _ => rfl
  | t :: L, o, h => by
    show (L.foldl (Gw c) (Gw c o t)).n = o.n
    rw [YL L _ fun t' ht' => h t' (List.mem_cons_of_mem _ ht')]
    have ht := h t (List.mem_cons_self ..)
    unfold Gw
    rw [if_neg ht.1, if_neg ht.2]
    repeat' split
    all_goals rfl
theorem Xw : ∀ k ∈ kinds, ∀ i < 6, (je k).2[i]? = some 5 -> ∀ t ∈ (je k).2.take i, t ≠ 3 /\ t ≠ 5 := by decide
theorem Zo {α : Type} (w : List α) (r : Nat) : cut w (r : Int) (w.length : Int) = w.drop r := by
  unfold cut; simp
theorem O9 {s : Str} (hl : s.length <= 800) {Q : QP} (h1 : ∀ c, kJ c = true -> qA c = s -> (∀ c', kJ c' = true -> qA c' = s -> c' = c) -> apP Q c 0)
    (h2 : (∀ c, kJ c = true -> qA c ≠ s) -> apP Q (zC 0) 2) : vJ s Q := by
  have htot := Ut s
  obtain ⟨a, w0, hW⟩ := List.exists_cons_of_ne_nil (OQ s 32)
  unfold vJ
  rw [hW] at htot
  rw [hW]
  have ht0 : a.length + 1 + LV w0 = s.length + 1 := htot
  refine ⟨⟨by omega, by simp⟩, ⟨by omega, by rw [List.length_cons]; omega⟩, aag fun r hr => Lu ⟨⟨by omega, by rw [List.length_cons]; omega⟩, ⟨by omega, by rw [List.length_cons]; omega, by omega⟩, ?_⟩⟩
  rw [wM] at hr
  rw [acH]
  have hf := JE r
  have fit : ∀ c2, kJ c2 = true -> qA c2 = s -> a = (je c2.k).1 /\ w0 = (je c2.k).2.flatMap (Et c2) := by
    intro c2 g2 e2
    have := Uy g2
    rw [e2, hW] at this
    injection this with q1 q2
    exact ⟨q1, q2⟩
  refine YG (o0 := zC r) (je r).2.length (fun i w o => LV w <= 801 /\ o.k = r /\ o.l.length <= 1000 /\ ∀ c2, kJ c2 = true -> qA c2 = s -> c2.k = r /\ o = J9 c2 ((je r).2.take i) /\ w = ((je r).2.drop i).flatMap (Et c2)) ⟨by omega, rfl, by simp [zC], fun c2 g2 e2 => ?_⟩ ?_
  · obtain ⟨q1, q2⟩ := fit c2 g2 e2
    have q3 := hr _ (FW g2) q1.symm
    subst q3
    exact ⟨rfl, rfl, q2⟩
  rintro K i w o hi ⟨hw, hk, hol, hI⟩ hK
  show xq s Q (je r).2 _ w o.k o.nd o.vl o.po o.n o.b o.g.1 o.g.2 o.s.1 o.s.2 o.x o.l o.t (i : Int)
  unfold xq
  refine ⟨fun d => ⟨by omega, fun z => ?_, fun z => ?_⟩, fun d => ?_⟩
  · have i1 : i < (je r).2.length := by omega
    refine h2 fun c2 g2 e2 => ?_
    have := (hI c2 g2 e2).2.2
    rw [List.drop_eq_getElem_cons i1, List.flatMap_cons] at this
    have w0 : w = [] := List.eq_nil_of_length_eq_zero (by omega)
    rw [w0] at this
    exact XN c2 _ (List.append_eq_nil_iff.1 this.symm).1
  · have i1 : i < (je r).2.length := by omega
    rw [iZ i1]
    obtain ⟨b, w', rfl⟩ := List.exists_cons_of_ne_nil (l := w) (fun q => z (by rw [q]; rfl))
    refine ZR (c := o) hol hw fun n o' hn ho' afd hc => ?_
    refine ⟨⟨by omega, by omega⟩, by (first | omega | (unfold I64; omega) | (simp only [List.length_append, List.length_cons, List.length_nil, List.length_take, List.length_drop] at *; omega) | (unfold I64; simp only [List.length_append, List.length_cons, List.length_nil, List.length_take, List.length_drop] at *; omega)), ?_⟩
    rw [Zo]
    refine hK (i + 1) _ o' (by omega) (by omega) ⟨Nat.le_trans (QI _ _) hw, ho'.trans hk, afd, fun c2 g2 e2 => ?_⟩
    obtain ⟨f1, f2, f3⟩ := hI c2 g2 e2
    subst f1
    rw [List.drop_eq_getElem_cons i1, List.flatMap_cons] at f3
    have hn0 : (je c2.k).2[i] = 5 -> o.n = 0 := fun t5 => by
      rw [f2]
      unfold J9
      rw [YL _ _ (Xw _ (FW g2) i (by omega) (by rw [List.getElem?_eq_getElem i1, t5]))]; rfl
    obtain ⟨k1, k2⟩ := hc c2 _ (Ov g2) (MV g2 _ (List.getElem_mem i1)) hn0 f3
    refine ⟨rfl, ?_, k1⟩
    rw [k2, f2, List.take_succ_eq_append_getElem i1]
    unfold J9; rw [List.foldl_append]; rfl
  · have i1 : i = (je r).2.length := by omega
    subst i1
    have one : ∀ c2, kJ c2 = true -> qA c2 = s -> c2 = o := by
      intro c2 g2 e2
      obtain ⟨f1, f2, _⟩ := hI c2 g2 e2
      rw [List.take_length, ← f1] at f2
      rw [f2]; exact Xu g2
    refine V8 (c := o) hol ⟨fun g => ⟨fun _ => h2 fun c2 g2 e2 => ?_, fun q => (by cases q)⟩, fun g => ?_⟩
    · have := one c2 g2 e2
      subst this
      rw [g2] at g; cases g
    · have g : kJ o = true := by simpa using g
      refine VY (Ov g) ⟨fun q => h2 fun c2 g2 e2 => ?_, fun q => h1 o g (by simpa using q) one⟩
      have := one c2 g2 e2
      subst this
      rw [e2] at q; simp at q
theorem Sj {s : Str} (hl : s.length <= 800) {Q : QP} (h1 : ∀ c, kJ c = true -> qA c = s -> (∀ c', kJ c' = true -> qA c' = s -> c' = c) -> apP Q c 0)
    (h2 : (∀ c, kJ c = true -> qA c ≠ s) -> apP Q (zC 0) 2) : yJ s Q := O9 hl h1 h2
def aaS : Cm := ⟨20, 3, 5, 1, 0, [], (false, KW 16 [239, 1, 1, 1, 0, 0, 0, 0, 0, 0, 0, 0, 0, 0, 0, 0]), (false, d16), true, [], []⟩
theorem Q5 : kJ aaS = true := by kernel_rfl
theorem Q4 : qA aaS = [106, 111, 105, 110, 32, 51, 32, 53, 32, 49, 32, 50, 51, 57, 46, 49, 46, 49, 46, 49, 32, 101, 120, 32, 45] := by kernel_rfl
theorem TG {Q : Bool -> Prop} (h : Q true) : AO Q := by
  refine Sj (by decide) (fun c g e hu => ?_) (fun hn => absurd Q4 (hn _ Q5))
  have := hu _ Q5 Q4
  subst this
  refine ⟨fun _ => ⟨fun _ => ⟨fun _ => ⟨fun _ => ⟨fun _ => XO ?_, fun q => absurd (by decide +kernel) q⟩, fun q => (by cases q)⟩, fun q => absurd rfl q⟩, fun q => absurd rfl q⟩, fun q => absurd rfl q⟩
  exact h
end Go.Wk
