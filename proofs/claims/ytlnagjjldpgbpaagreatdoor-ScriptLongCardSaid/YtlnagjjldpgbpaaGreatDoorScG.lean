/- Plain words: reading a whole line; the lives. -/
import Derived.Test.YtlnagjjldpgbpaaGreatDoorScF
set_option linter.unusedSimpArgs false
set_option linter.unusedVariables false
set_option linter.unusedSectionVars false
namespace Go.Wk
open Go.HL
variable [DM]
abbrev QP : Type := Int -> Int -> Int -> Int -> Int -> Str -> Bool -> Ba 16 -> Bool -> Ba 16 -> Bool -> List Ad -> Str -> Int -> Prop
def apP (Q : QP) (o : Cm) (e : Int) : Prop := Q o.k o.nd o.vl o.po o.n o.b o.g.1 o.g.2 o.s.1 o.s.2 o.x o.l o.t e
theorem WA {B : (List Str × TS -> Prop) -> List Str × TS -> Prop} {w0 : List Str} {o0 : Cm} (n : Nat) (I : Nat -> List Str -> Cm -> Prop) (h0 : I 0 w0 o0)
    (hB : ∀ (K : List Str × TS -> Prop) (i : Nat) (w : List Str) (o : Cm), i <= n -> I i w o -> (∀ (j : Nat) (w' : List Str) (o' : Cm), i < j -> j <= n -> I j w' o' -> K (w', YM o' (j : Int))) -> B K (w, YM o (i : Int))) : kG B (w0, YM o0 0) := by
  refine FM (fun s => s.2.2.2.2.2.2.2.2.2.2.2.2.2.2) n (fun i s => ∃ w o, s = (w, YM o (i : Int)) /\ I i w o) rfl ⟨w0, o0, rfl, h0⟩ ?_
  rintro K i s _ hi ⟨w, o, rfl, hI⟩ hK
  exact hB K i w o hi hI fun j w' o' hij hj hI' => hK j _ rfl hij hj ⟨w', o', rfl, hI'⟩
theorem WH {c : Cm} : ∀ (L : List Int) (o : Cm), (∀ t ∈ L, t ≠ 3 /\ t ≠ 5) -> (L.foldl (EW c) o).n = o.n
  | [], o, _ => rfl
  | t :: L, o, h => by
    show (L.foldl (EW c) (EW c o t)).n = o.n
    rw [WH L _ fun t' ht' => h t' (List.mem_cons_of_mem _ ht')]
    have ht := h t (List.mem_cons_self ..)
    unfold EW
    rw [if_neg ht.1, if_neg ht.2]
    repeat' split
    all_goals rfl
theorem Vo : ∀ k ∈ kinds, ∀ i < 6, (iq k).2[i]? = some 5 -> ∀ t ∈ (iq k).2.take i, t ≠ 3 /\ t ≠ 5 := by decide
theorem Xx {α : Type} (w : List α) (r : Nat) : cut w (r : Int) (w.length : Int) = w.drop r := by
  unfold cut; simp
theorem Nc {s : Str} (hl : s.length <= 800) {Q : QP} (h1 : ∀ c, jY c = true -> lX c = s -> (∀ c', jY c' = true -> lX c' = s -> c' = c) -> apP Q c 0)
    (h2 : (∀ c, jY c = true -> lX c ≠ s) -> apP Q (zC 0) 2) : sV s Q := by
  have htot := Rx s
  obtain ⟨a, w0, hW⟩ := List.exists_cons_of_ne_nil (MM s 32)
  unfold sV
  rw [hW] at htot
  rw [hW]
  have ht0 : a.length + 1 + JM w0 = s.length + 1 := htot
  refine ⟨⟨by omega, by simp⟩, ⟨by omega, by rw [List.length_cons]; omega⟩, Yl fun r hr => JB ⟨⟨by omega, by rw [List.length_cons]; omega⟩, ⟨by omega, by rw [List.length_cons]; omega, by omega⟩, ?_⟩⟩
  rw [vJ] at hr
  rw [aaz]
  have hf := Hw r
  have fit : ∀ c2, jY c2 = true -> lX c2 = s -> a = (iq c2.k).1 /\ w0 = (iq c2.k).2.flatMap (BU c2) := by
    intro c2 g2 e2
    have := RF g2
    rw [e2, hW] at this
    injection this with q1 q2
    exact ⟨q1, q2⟩
  refine WA (o0 := zC r) (iq r).2.length (fun i w o => JM w <= 801 /\ o.k = r /\ o.l.length <= 1000 /\ ∀ c2, jY c2 = true -> lX c2 = s -> c2.k = r /\ o = Ju c2 ((iq r).2.take i) /\ w = ((iq r).2.drop i).flatMap (BU c2)) ⟨by omega, rfl, by simp [zC], fun c2 g2 e2 => ?_⟩ ?_
  · obtain ⟨q1, q2⟩ := fit c2 g2 e2
    have q3 := hr _ (FP g2) q1.symm
    subst q3
    exact ⟨rfl, rfl, q2⟩
  rintro K i w o hi ⟨hw, hk, hol, hI⟩ hK
  show uP s Q (iq r).2 _ w o.k o.nd o.vl o.po o.n o.b o.g.1 o.g.2 o.s.1 o.s.2 o.x o.l o.t (i : Int)
  unfold uP
  refine ⟨fun d => ⟨by omega, fun z => ?_, fun z => ?_⟩, fun d => ?_⟩
  · have i1 : i < (iq r).2.length := by omega
    refine h2 fun c2 g2 e2 => ?_
    have := (hI c2 g2 e2).2.2
    rw [List.drop_eq_getElem_cons i1, List.flatMap_cons] at this
    have w0 : w = [] := List.eq_nil_of_length_eq_zero (by omega)
    rw [w0] at this
    exact VF c2 _ (List.append_eq_nil_iff.1 this.symm).1
  · have i1 : i < (iq r).2.length := by omega
    rw [iP i1]
    obtain ⟨b, w', rfl⟩ := List.exists_cons_of_ne_nil (l := w) (fun q => z (by rw [q]; rfl))
    refine XZ (c := o) hol hw fun n o' hn ho' ac4 hc => ?_
    refine ⟨⟨by omega, by omega⟩, by (first | omega | (unfold I64; omega) | (simp only [List.length_append, List.length_cons, List.length_nil, List.length_take, List.length_drop] at *; omega) | (unfold I64; simp only [List.length_append, List.length_cons, List.length_nil, List.length_take, List.length_drop] at *; omega)), ?_⟩
    rw [Xx]
    refine hK (i + 1) _ o' (by omega) (by omega) ⟨Nat.le_trans (OH _ _) hw, ho'.trans hk, ac4, fun c2 g2 e2 => ?_⟩
    obtain ⟨f1, f2, f3⟩ := hI c2 g2 e2
    subst f1
    rw [List.drop_eq_getElem_cons i1, List.flatMap_cons] at f3
    have hn0 : (iq c2.k).2[i] = 5 -> o.n = 0 := fun t5 => by
      rw [f2]
      unfold Ju
      rw [WH _ _ (Vo _ (FP g2) i (by omega) (by rw [List.getElem?_eq_getElem i1, t5]))]; rfl
    obtain ⟨k1, k2⟩ := hc c2 _ (JA g2) (Kv g2 _ (List.getElem_mem i1)) hn0 f3
    refine ⟨rfl, ?_, k1⟩
    rw [k2, f2, List.take_succ_eq_append_getElem i1]
    unfold Ju; rw [List.foldl_append]; rfl
  · have i1 : i = (iq r).2.length := by omega
    subst i1
    have one : ∀ c2, jY c2 = true -> lX c2 = s -> c2 = o := by
      intro c2 g2 e2
      obtain ⟨f1, f2, _⟩ := hI c2 g2 e2
      rw [List.take_length, ← f1] at f2
      rw [f2]; exact Vl g2
    refine Ul (c := o) hol ⟨fun g => ⟨fun _ => h2 fun c2 g2 e2 => ?_, fun q => (by cases q)⟩, fun g => ?_⟩
    · have := one c2 g2 e2
      subst this
      rw [g2] at g; cases g
    · have g : jY o = true := by simpa using g
      refine Ue (JA g) ⟨fun q => h2 fun c2 g2 e2 => ?_, fun q => h1 o g (by simpa using q) one⟩
      have := one c2 g2 e2
      subst this
      rw [e2] at q; simp at q
theorem ZO {s : Str} (hl : s.length <= 800) {Q : QP} (h1 : ∀ c, jY c = true -> lX c = s -> (∀ c', jY c' = true -> lX c' = s -> c' = c) -> apP Q c 0)
    (h2 : (∀ c, jY c = true -> lX c ≠ s) -> apP Q (zC 0) 2) : zt s Q := Nc hl h1 h2
def YW : Cm := ⟨20, 3, 5, 1, 0, [], (false, Js 16 [239, 1, 1, 1, 0, 0, 0, 0, 0, 0, 0, 0, 0, 0, 0, 0]), (false, d16), true, [], []⟩
theorem O5 : jY YW = true := by kernel_rfl
theorem O4 : lX YW = [106, 111, 105, 110, 32, 51, 32, 53, 32, 49, 32, 50, 51, 57, 46, 49, 46, 49, 46, 49, 32, 101, 120, 32, 45] := by kernel_rfl
theorem QL {Q : Bool -> Prop} (h : Q true) : yu Q := by
  refine ZO (by decide) (fun c g e hu => ?_) (fun hn => absurd O4 (hn _ O5))
  have := hu _ O5 O4
  subst this
  refine ⟨fun _ => ⟨fun _ => ⟨fun _ => ⟨fun _ => ⟨fun _ => VG ?_, fun q => absurd (by decide +kernel) q⟩, fun q => (by cases q)⟩, fun q => absurd rfl q⟩, fun q => absurd rfl q⟩, fun q => absurd rfl q⟩
  exact h
end Go.Wk
