/- Plain words: addresses of the link; groups and aju as the document has them, at one time. -/
import Derived.Test.YtmbkoonblmfdpaaGreatHtV
set_option linter.unusedSimpArgs false
set_option linter.unusedVariables false
set_option linter.unusedSectionVars false
namespace Go.Wk
open Go.HL
variable [DM]
theorem sh2 {x : Int} : x.fdiv (2 ^ (min (2 : Int).toNat IntKind.u8.bits)) = x / 4 := by
  rw [show (2 : Int) ^ (min (2 : Int).toNat IntKind.u8.bits) = 4 by decide +kernel]; exact Int.fdiv_eq_ediv_of_nonneg _ (by decide)
theorem agB {n : Nat} (x : Ba n) (i : Int) : bits .and .u8 (b8 x i) 15 = b8 x i % 16 := by
  have e := Go.u8_and_nat (gi x.1 i).toNat 15 (UInt8.toNat_lt _) (by decide)
  rw [Nat.and_two_pow_sub_one_eq_mod _ 4] at e
  exact e
theorem tmb {n : Nat} (x : Ba n) (i : Int) (k : Int) : (b8 x i).tmod k = b8 x i % k := Int.tmod_eq_emod_of_nonneg (Qj x i).1
theorem agk {a : Ad} {p : List UInt8} (n : Nat) (hp : p.length = n) (hn : n <= 16) : decide ((cut (cut a.2.1 0 16) 0 (p.length : Int) : Str) = p) = decide (∀ i : Nat, i < n -> b8 a.2 (i : Int) = ((p.getD i 0).toNat : Int)) := by
  have h16 := a.2.2
  have e : cut (cut a.2.1 0 16) 0 (p.length : Int) = a.2.1.take n := by
    rw [show cut a.2.1 0 16 = a.2.1 from List.take_of_length_le (by rw [h16]; decide), hp]
    show (a.2.1).take ((n : Int).toNat) = _
    rw [Int.toNat_natCast]
  rw [e]
  refine decide_eq_decide.2 ⟨fun q i hi => ?_, fun q => ?_⟩
  · unfold b8; rw [qB (by omega)]
    have : a.2.1[i]'(by omega) = p.getD i 0 := by
      have e2 : (a.2.1.take n)[i]? = p[i]? := by rw [q]
      rw [List.getElem?_take, if_pos hi, List.getElem?_eq_getElem (by omega)] at e2
      rw [List.getD_eq_getElem?_getD, ← e2]; rfl
    rw [this]
  · apply List.ext_getElem (by rw [List.length_take]; omega)
    intro i h1 h2
    have := q i (by omega)
    unfold b8 at this; rw [qB (by omega), List.getD_eq_getElem?_getD, List.getElem?_eq_getElem h2] at this
    rw [List.getElem_take]
    exact UInt8.toNat_inj.1 (by simp only [Option.getD_some] at this; omega)
theorem WJ {a : Ad} {p : List UInt8} {n : Nat} {Q : Bool -> Prop} (hp : p.length = n) (hn : n <= 16) (h : Q (decide (∀ i : Nat, i < n -> b8 a.2 (i : Int) = ((p.getD i 0).toNat : Int)))) : BX a p Q := by
  have h16 := a.2.2
  have hl : (cut a.2.1 0 16).length = 16 := by rw [show cut a.2.1 0 16 = a.2.1 from List.take_of_length_le (by rw [h16]; decide), h16]
  refine ⟨fun c => ⟨by omega, ?_⟩, fun c => absurd (by omega) c⟩
  rw [agk n hp hn]; exact h
def scG (a : Ad) : Int :=
  if Py a = true then (if a.1 = true then b8 a.2 1 % 16 else if b8 a.2 0 = 224 /\ b8 a.2 1 = 0 /\ b8 a.2 2 = 0 then 2 else if b8 a.2 0 = 239 /\ b8 a.2 1 = 255 then 3 else if b8 a.2 0 = 239 /\ 192 <= b8 a.2 1 /\ b8 a.2 1 <= 195 then 8 else 14) else 0
theorem aiy (a : Ad) : decide (∀ i : Nat, i < 3 -> b8 a.2 (i : Int) = ((([(224 : UInt8), (0 : UInt8), (0 : UInt8)] : List UInt8).getD i 0).toNat : Int)) = decide (b8 a.2 0 = 224 /\ b8 a.2 1 = 0 /\ b8 a.2 2 = 0) := by
  refine decide_eq_decide.2 ⟨fun q => ⟨q 0 (by omega), q 1 (by omega), q 2 (by omega)⟩, fun q i hi => ?_⟩
  match i, hi with
  | 0, _ => exact q.1
  | 1, _ => exact q.2.1
  | 2, _ => exact q.2.2
theorem aix (a : Ad) : decide (∀ i : Nat, i < 2 -> b8 a.2 (i : Int) = ((([(239 : UInt8), (255 : UInt8)] : List UInt8).getD i 0).toNat : Int)) = decide (b8 a.2 0 = 239 /\ b8 a.2 1 = 255) := by
  refine decide_eq_decide.2 ⟨fun q => ⟨q 0 (by omega), q 1 (by omega)⟩, fun q i hi => ?_⟩
  match i, hi with
  | 0, _ => exact q.1
  | 1, _ => exact q.2
theorem aau {a : Ad} {Q : Bool -> Prop} (h : Q (Py a)) : A7 a Q := Xr (Q := Q) h
theorem aaY {a : Ad} {Q : Int -> Prop} (h : Q (scG a)) : JM a Q := by
  unfold scG at h
  have r := Qj a.2 1
  refine aau ⟨fun c => ?_, fun c => ⟨fun d => ?_, fun d => ?_⟩⟩
  · rw [if_neg (by simpa using c)] at h; exact h
  · rw [if_pos (by simpa using c), if_pos d] at h
    rw [agB]
    refine ⟨by unfold I64; omega, ?_⟩
    exact h
  · rw [if_pos (by simpa using c), if_neg (by rw [d]; decide)] at h
    refine WJ (n := 3) rfl (by omega) ?_
    rw [aiy]
    refine ⟨fun e => ?_, fun e => WJ (n := 2) rfl (by omega) ?_⟩
    · rw [if_pos (of_decide_eq_true e)] at h; exact h
    · rw [if_neg (of_decide_eq_false e)] at h
      rw [aix]
      refine ⟨fun f => ?_, fun f => ⟨fun g => ?_, fun g => ?_⟩⟩
      · rw [if_pos (of_decide_eq_true f)] at h; exact h
      · rw [if_neg (of_decide_eq_false f)] at h
        rw [sh2]
        refine ⟨fun i => ?_, fun i => ?_⟩
        · rw [if_pos ⟨g, by omega⟩] at h; exact h
        · rw [if_neg (by omega)] at h; exact h
      · rw [if_neg (of_decide_eq_false f), if_neg (by omega)] at h; exact h
theorem aaX {a : Ad} {Q : Int -> Prop} (h : Q (scG a)) : Ip a Q := by
  unfold scG at h
  have r := Qj a.2 1
  refine Xq ⟨fun c => ?_, fun c => ⟨fun d => ?_, fun d => ?_⟩⟩
  · rw [if_neg (by simpa using c)] at h; exact h
  · rw [if_pos (by simpa using c), if_pos d] at h
    rw [tmb]
    refine ⟨by unfold I64; omega, ?_⟩
    exact h
  · rw [if_pos (by simpa using c), if_neg (by rw [d]; decide)] at h
    have j1 : ¬ (b8 a.2 0 = 224 /\ b8 a.2 1 = 0 /\ b8 a.2 2 = 0) -> zQ a Q := by
      intro e
      rw [if_neg e] at h
      have j2 : ¬ (b8 a.2 0 = 239 /\ b8 a.2 1 = 255) -> Dk a Q := by
        intro f
        rw [if_neg f] at h
        refine ⟨fun g => ⟨fun i => ⟨fun k => ?_, fun k => ?_⟩, fun i => ?_⟩, fun g => ?_⟩
        · rw [if_pos ⟨g, i, k⟩] at h; exact h
        · rw [if_neg (by omega)] at h; exact h
        · rw [if_neg (by omega)] at h; exact h
        · rw [if_neg (by omega)] at h; exact h
      refine ⟨fun g => ⟨fun i => ?_, fun i => j2 (by omega)⟩, fun g => j2 (by omega)⟩
      rw [if_pos ⟨g, i⟩] at h; exact h
    refine ⟨fun e => ⟨fun f => ⟨fun g => ?_, fun g => j1 (by omega)⟩, fun f => j1 (by omega)⟩, fun e => j1 (by omega)⟩
    rw [if_pos ⟨e, f, g⟩] at h; exact h
def loG (a : Ad) : Bool := Py a && decide (scG a <= 2)
theorem Wy {a : Ad} {Q : Bool -> Prop} (h : Q (loG a)) : DZ a Q := by
  unfold loG at h
  refine aau ⟨fun c => aaY ?_, fun c => ?_⟩
  · rw [c, Bool.true_and] at h; exact h
  · rw [c, Bool.false_and] at h; exact h
theorem aa7 {a : Ad} {Q : Bool -> Prop} (h : Q (loG a)) : Iq a Q := by
  unfold loG at h
  refine Xq ⟨fun c => aaX ?_, fun c => ?_⟩
  · rw [c, Bool.true_and] at h
    rw [show decide (scG a < 3) = decide (scG a <= 2) from decide_eq_decide.2 (by omega)]; exact h
  · rw [c, Bool.false_and] at h; exact h
abbrev Tl := aJ
abbrev Gd := aI
abbrev Oe := aK
abbrev Pl := List (Nat × Gd)
theorem UY {Q : Int -> Prop} (h : Q 26) : xO (2, 12, 2, 2, 2) Q := ⟨by decide, by decide, h⟩
theorem ZX {Q : Int -> Prop} (h : Q 1) : zS 1 0 1000000000000 Q := ⟨fun c => absurd c (by decide), fun _ => ⟨fun c => absurd c (by decide), fun _ => h⟩⟩
theorem abh {v6 e : Bool} {nw till one two : Int} {on off : List Ad} {tl : List Tl} {Q : Int -> Prop} (h1 : ∀ t ∈ tl, 2 <= t.2) (h2 : e = true -> 2 <= till) (hl : tl.length <= 1000) (h : Q (-2)) : Bq v6 nw e on off till tl one two 1 Q := by
  refine ⟨by decide, Iy (fun s => s.2.2) tl.length (fun i s => s.1 = -2 /\ s.2.1 = 2) rfl ⟨rfl, rfl⟩ ?_⟩
  rintro K i ⟨a, b, n⟩ hx hi ⟨ha, hb⟩ hK
  replace hx : n = i := hx
  replace ha : a = -2 := ha
  replace hb : b = 2 := hb
  subst hx ha hb
  show zJ e till tl Q _ (-2) 2 (i : Int)
  unfold zJ
  refine ⟨fun c => ⟨by (first | omega | (unfold I64; omega) | (simp only [List.length_append, List.length_cons, List.length_nil, List.length_take, List.length_drop] at *; omega) | (unfold I64; simp only [List.length_append, List.length_cons, List.length_nil, List.length_take, List.length_drop] at *; omega)), ⟨fun d => ?_, fun d => ⟨by (first | omega | (unfold I64; omega) | (simp only [List.length_append, List.length_cons, List.length_nil, List.length_take, List.length_drop] at *; omega) | (unfold I64; simp only [List.length_append, List.length_cons, List.length_nil, List.length_take, List.length_drop] at *; omega)), hK (i + 1) _ (by simp) (by omega) (by omega) ⟨rfl, rfl⟩⟩⟩⟩, fun c => ⟨fun d => ⟨fun f => ?_, fun f => h⟩, fun d => h⟩⟩
  · have i1 : i < tl.length := by omega
    rw [qB i1] at d
    have := h1 _ (List.getElem_mem i1)
    omega
  · have := h2 d; omega
theorem Vm {v6 e : Bool} {nw till one two : Int} {on off : List Ad} {tl : List Tl} {Q : Bool -> Int -> Bool -> List Ad -> List Ad -> Int -> List Tl -> Int -> Int -> Prop} (hn : nw = 0 ∨ nw = 1) (h1 : ∀ t ∈ tl, 2 <= t.2) (h2 : e = true -> 2 <= till) (hl : tl.length <= 1000) (h : Q v6 1 e on off till tl one two) : xx v6 nw e on off till tl one two 1 Q := by
  have j : yR v6 e on off till tl one two Q 1 := by
    refine abh h1 h2 hl ⟨fun s => s = (v6, 1, e, on, off, till, tl, one, two, -2), fun _ => 0, rfl, ?_⟩
    rintro _ rfl
    show Ce Q _ v6 1 e on off till tl one two (-2)
    exact ⟨fun c => absurd c (by decide), fun _ => h⟩
  refine ZX ⟨fun _ => j, fun c => ?_⟩
  have : nw = 1 := by omega
  subst this; exact j
theorem acX {v6 e : Bool} {nw till one two : Int} {on off : List Ad} {tl : List Tl} {a : Ad} {Q : Int -> Prop} (hl : tl.length <= 1000) (h0 : Q (-1)) (h1 : ∀ i : Nat, i < tl.length -> Q i) : F6 v6 nw e on off till tl one two a Q := by
  refine GG tl.length (fun _ => True) trivial fun K i hi _ hK => ?_
  show Bv _ _ _ _ _
  unfold Bv
  exact ⟨fun c => ⟨by (first | omega | (unfold I64; omega) | (simp only [List.length_append, List.length_cons, List.length_nil, List.length_take, List.length_drop] at *; omega) | (unfold I64; simp only [List.length_append, List.length_cons, List.length_nil, List.length_take, List.length_drop] at *; omega)), ⟨fun d => h1 i (by omega), fun d => ⟨by (first | omega | (unfold I64; omega) | (simp only [List.length_append, List.length_cons, List.length_nil, List.length_take, List.length_drop] at *; omega) | (unfold I64; simp only [List.length_append, List.length_cons, List.length_nil, List.length_take, List.length_drop] at *; omega)), hK (i + 1) (by omega) (by omega) trivial⟩⟩⟩, fun c => h0⟩
theorem adP {v6 e : Bool} {nw till one two at_ : Int} {on off : List Ad} {tl : List Tl} {a : Ad} {Q : Bool -> Int -> Bool -> List Ad -> List Ad -> Int -> List Tl -> Int -> Int -> Prop} (hl : tl.length <= 500) (h : ∀ tl' : List Tl, (∀ t ∈ tl', t.2 = at_ ∨ t ∈ tl) -> tl'.length <= tl.length + 1 -> Q v6 nw e on off till tl' one two) : Ef v6 nw e on off till tl one two a at_ Q := by
  refine acX (by omega) ⟨fun c => absurd c (by decide), fun _ => ⟨by (first | omega | (unfold I64; omega) | (simp only [List.length_append, List.length_cons, List.length_nil, List.length_take, List.length_drop] at *; omega) | (unfold I64; simp only [List.length_append, List.length_cons, List.length_nil, List.length_take, List.length_drop] at *; omega)), h _ ?_ (by simp)⟩⟩ fun i hi => ⟨fun _ => ⟨by (first | omega | (unfold I64; omega) | (simp only [List.length_append, List.length_cons, List.length_nil, List.length_take, List.length_drop] at *; omega) | (unfold I64; simp only [List.length_append, List.length_cons, List.length_nil, List.length_take, List.length_drop] at *; omega)), h _ ?_ (by simp)⟩, fun c => absurd (by omega) c⟩
  · intro t ht
    rcases List.mem_append.1 ht with q | q
    · exact .inr q
    · left; simp at q; rw [q]
  · intro t ht
    rcases List.mem_or_eq_of_mem_set ht with q | q
    · exact .inr q
    · left; rw [q]
theorem WH {v6 e : Bool} {nw till one two : Int} {on off : List Ad} {tl : List Tl} {Q : Bool -> Int -> Bool -> List Ad -> List Ad -> Int -> List Tl -> Int -> Int -> Prop} (hl : tl.length <= 1000) (ho : on.length <= 1000) (h : ∀ tl' : List Tl, (∀ t ∈ tl', t ∈ tl) -> tl'.length <= tl.length -> Q v6 nw e on off till tl' one two) : wS v6 nw e on off till tl one two Q := by
  refine QH tl.length (fun i s => (∀ t ∈ s, t ∈ tl) /\ s.length <= i) ⟨by simp, by simp⟩ ?_
  rintro K i s hi ⟨h1, h2⟩ hK
  show zK v6 nw e on off till tl one two Q _ s (i : Int)
  unfold zK
  refine ⟨fun c => ⟨by (first | omega | (unfold I64; omega) | (simp only [List.length_append, List.length_cons, List.length_nil, List.length_take, List.length_drop] at *; omega) | (unfold I64; simp only [List.length_append, List.length_cons, List.length_nil, List.length_take, List.length_drop] at *; omega)), KW (by omega) ⟨fun d => ⟨by (first | omega | (unfold I64; omega) | (simp only [List.length_append, List.length_cons, List.length_nil, List.length_take, List.length_drop] at *; omega) | (unfold I64; simp only [List.length_append, List.length_cons, List.length_nil, List.length_take, List.length_drop] at *; omega)), by (first | omega | (unfold I64; omega) | (simp only [List.length_append, List.length_cons, List.length_nil, List.length_take, List.length_drop] at *; omega) | (unfold I64; simp only [List.length_append, List.length_cons, List.length_nil, List.length_take, List.length_drop] at *; omega)), hK (i + 1) _ (by omega) (by omega) ⟨?_, by simp; omega⟩⟩, fun d => ⟨by (first | omega | (unfold I64; omega) | (simp only [List.length_append, List.length_cons, List.length_nil, List.length_take, List.length_drop] at *; omega) | (unfold I64; simp only [List.length_append, List.length_cons, List.length_nil, List.length_take, List.length_drop] at *; omega)), hK (i + 1) _ (by omega) (by omega) ⟨h1, by omega⟩⟩⟩⟩, fun c => h _ h1 (by omega)⟩
  intro t ht
  rcases List.mem_append.1 ht with q | q
  · exact h1 t q
  · have i1 : i < tl.length := by omega
    rw [qB i1] at q
    rw [List.mem_singleton.1 q]; exact List.getElem_mem i1
theorem abR {v6 : Bool} {k : Int} {g : Ad} {s : List Ad} {till one two : Int} {tl : List Tl} {Q : List Ad -> Int -> Prop} (hs : vJ s) (hl : s.length <= 6) (hv : ∀ a ∈ s, a.1 = v6) (hk : k ≠ 6) (h : Q s 0) : F5 v6 1 false [] [] till tl one two k g s Q := by
  refine ⟨by decide, Xf (by omega) ?_⟩
  rw [Zp hs]
  refine Iy (fun t => t.2.2.2) s.length (fun i t => t.1 = s.take i /\ t.2.1 = i /\ t.2.2.1 = 0) rfl ⟨by simp, rfl, rfl⟩ ?_
  rintro K i ⟨o, n, lost, m⟩ hx hi ⟨h1, h2, h3⟩ hK
  replace hx : m = i := hx
  replace h1 : o = s.take i := h1
  replace h2 : n = i := h2
  replace h3 : lost = 0 := h3
  subst hx h1 h2 h3
  show Bl v6 false [] [] k Q s _ (s.take i) (i : Int) 0 (i : Int)
  unfold Bl
  refine ⟨fun c => ⟨by (first | omega | (unfold I64; omega) | (simp only [List.length_append, List.length_cons, List.length_nil, List.length_take, List.length_drop] at *; omega) | (unfold I64; simp only [List.length_append, List.length_cons, List.length_nil, List.length_take, List.length_drop] at *; omega)), ?_⟩, fun c => ?_⟩
  · have i1 : i < s.length := by omega
    rw [qB i1, hv _ (List.getElem_mem i1)]
    have hf : MK [] s[i] = false := by simp [MK]
    refine ⟨fun d => by simp at d, fun _ => KW (by simp) ?_⟩
    rw [hf]
    refine ⟨fun d => (by cases d), fun _ => KW (by simp) ?_⟩
    rw [hf]
    refine ⟨fun d => (by cases d), fun _ => ⟨fun d => absurd d hk, fun _ => ⟨fun d => (by cases d), fun _ => ⟨fun _ => ⟨by (first | omega | (unfold I64; omega) | (simp only [List.length_append, List.length_cons, List.length_nil, List.length_take, List.length_drop] at *; omega) | (unfold I64; simp only [List.length_append, List.length_cons, List.length_nil, List.length_take, List.length_drop] at *; omega)), by (first | omega | (unfold I64; omega) | (simp only [List.length_append, List.length_cons, List.length_nil, List.length_take, List.length_drop] at *; omega) | (unfold I64; simp only [List.length_append, List.length_cons, List.length_nil, List.length_take, List.length_drop] at *; omega)), by (first | omega | (unfold I64; omega) | (simp only [List.length_append, List.length_cons, List.length_nil, List.length_take, List.length_drop] at *; omega) | (unfold I64; simp only [List.length_append, List.length_cons, List.length_nil, List.length_take, List.length_drop] at *; omega)), ?_⟩, fun d => by omega⟩⟩⟩⟩
    rw [qB i1]
    exact hK (i + 1) _ (by simp) (by omega) (by omega) ⟨(List.take_succ_eq_append_getElem i1).symm, by simp, rfl⟩
  · rw [List.take_of_length_le (by omega)]; exact h
def VH (k : Int) (s : List Ad) : List Ad := if k = 1 then s else []
def Nh (k : Int) (s : List Ad) : List Ad := if k = 2 then s else []
theorem ah4 {s : List Ad} (hs : vJ s) : allL [] [] s = s := by
  unfold allL orL
  show Xh (Xh [] ++ s) = s
  exact Zp hs
theorem UM {g : Bool -> Bool -> Bool -> Bool} {s : List Ad} (hs : vJ s) (h : g false false true = true) : QB g [] [] s = s := by
  unfold QB; rw [ah4 hs, List.filter_eq_self]
  intro a ha
  rw [show MK [] a = false by simp [MK], show MK s a = true by simp [MK, ha]]; exact h
theorem Nb {g : Bool -> Bool -> Bool -> Bool} {s : List Ad} (hs : vJ s) (h : g false false true = false) : QB g [] [] s = [] := by
  unfold QB; rw [ah4 hs, List.filter_eq_nil_iff]
  intro a ha
  rw [show MK [] a = false by simp [MK], show MK s a = true by simp [MK, ha], h]; decide
theorem abp {k : Int} {s : List Ad} {Q : adz} (hk : k = 1 ∨ k = 2) (hs : vJ s) (hl : s.length <= 6) (h : ∀ Full : List Ad, Full.length <= 6 -> Q (decide (k = 2)) (VH k s) (Nh k s) Full [] (decide (k = 2)) [] false) : BQ false [] [] k s Q := by
  refine abo (hF := ⟨vJ.nil, vJ.nil, by simp, fun _ => rfl, by simp, by simp⟩) hs (by omega) ?_
  rintro E On Off Full Rest G Ask All rfl rfl rfl rfl rfl rfl rfl rfl
  rcases hk with rfl | rfl
  · rw [UM hs (g := gOn false 1) rfl, Nb hs (g := TE false 1) rfl, UM hs (g := NS false 1) rfl, Nb hs (g := NR false 1) rfl, Nb hs (g := TF false 1) rfl]
    exact h s hl
  · rw [Nb hs (g := gOn false 2) rfl, UM hs (g := TE false 2) rfl, Nb hs (g := NS false 2) rfl, Nb hs (g := NR false 2) rfl, Nb hs (g := TF false 2) rfl]
    exact h [] (by simp)
abbrev aic := Bool -> List Ad -> List Ad -> List Ad -> List Ad -> Bool -> List Ad -> Bool -> Int -> Bool -> Int -> Bool -> List Ad -> List Ad -> Int -> List Tl -> Int -> Int -> Prop
theorem acV {v6 : Bool} {k : Int} {g : Ad} {s : List Ad} {Q : aic} (hk : k = 1 ∨ k = 2) (hs : vJ s) (hl : s.length <= 6) (hv : ∀ a ∈ s, a.1 = v6)
    (h : ∀ (Full : List Ad) (till : Int) (tl : List Tl), (k = 2 -> till = 27) -> (∀ t ∈ tl, t.2 = 27) -> tl.length <= 100 -> Q (decide (k = 2)) (VH k s) (Nh k s) Full [] (decide (k = 2)) [] false 0 v6 1 (decide (k = 2)) (VH k s) (Nh k s) till tl 0 0) :
    F9 v6 0 false [] [] 0 [] 0 0 1 (2, 12, 2, 2, 2) 0 k g s Q := by
  have lon : (VH k s).length <= 6 := by
    unfold VH; split
    · exact hl
    · simp
  refine Vm (.inl rfl) (by simp) (by simp) (by simp) ⟨fun c => absurd c (by decide), fun _ => ⟨fun c => absurd c (by decide), fun _ => ⟨fun c => (by cases c), fun _ => ?_⟩⟩⟩
  have cut : ∀ {m : Int} {Q' : Int -> Bool -> Ba 16 -> List Ad -> Bool -> Prop}, m = OG v6 -> Q' k g.1 g.2 s true -> KN v6 m k g s Q' := by
    rintro m Q' rfl q
    refine ⟨fun c => ?_, fun c => ?_⟩ <;> (subst c; exact ⟨fun d => absurd d (by decide), fun _ => q⟩)
  have mode : ∀ {Q' : Int -> Prop}, Q' (OG v6) -> F7 v6 1 false [] [] 0 [] 0 0 Q' := by
    intro Q' q
    refine ⟨fun c => absurd c (by decide), fun _ => ⟨fun c => absurd c (by decide), fun _ => ⟨fun c => ?_, fun c => ?_⟩⟩⟩ <;> (subst c; exact q)
  refine mode (cut rfl ⟨fun c => (by cases c), fun _ => abR hs hl hv (by omega) (abp hk hs hl fun Full hF => ?_)⟩)
  unfold EG
  refine Iy (fun t => t.2.2.2.2.2.2.2.2.2.2.2) Full.length (fun i t => ∃ tl : List Tl, t.1 = v6 /\ t.2.1 = 1 /\ t.2.2.1 = decide (k = 2) /\ t.2.2.2.1 = VH k s /\ t.2.2.2.2.1 = Nh k s /\ t.2.2.2.2.2.1 = 0 /\ t.2.2.2.2.2.2.1 = tl /\ t.2.2.2.2.2.2.2.1 = 0 /\ t.2.2.2.2.2.2.2.2.1 = 0 /\ t.2.2.2.2.2.2.2.2.2.1 = VH k s /\ t.2.2.2.2.2.2.2.2.2.2.1 = Nh k s /\ (∀ x ∈ tl, x.2 = 27) /\ tl.length <= i) rfl ⟨[], rfl, rfl, rfl, rfl, rfl, rfl, rfl, rfl, rfl, rfl, rfl, by simp, by simp⟩ ?_
  rintro K i ⟨a, b, c, d, e, f, tl, p, q, x1, x2, n⟩ hx hi ⟨tl', h1, h2, h3, h4, h5, h6, h7, h8, h9, h10, h11, ht, hn⟩ hK
  replace hx : n = i := hx
  replace h1 : a = v6 := h1
  replace h2 : b = 1 := h2
  replace h3 : c = decide (k = 2) := h3
  replace h4 : d = VH k s := h4
  replace h5 : e = Nh k s := h5
  replace h6 : f = 0 := h6
  replace h7 : tl = tl' := h7
  replace h8 : p = 0 := h8
  replace h9 : q = 0 := h9
  replace h10 : x1 = VH k s := h10
  replace h11 : x2 = Nh k s := h11
  subst hx h1 h2 h3 h4 h5 h6 h7 h8 h9 h10 h11
  show Bz (2, 12, 2, 2, 2) Q 0 (decide (k = 2)) Full [] (decide (k = 2)) [] false _ a 1 (decide (k = 2)) (VH k s) (Nh k s) 0 tl 0 0 (VH k s) (Nh k s) (i : Int)
  unfold Bz
  refine ⟨fun c => ⟨by (first | omega | (unfold I64; omega) | (simp only [List.length_append, List.length_cons, List.length_nil, List.length_take, List.length_drop] at *; omega) | (unfold I64; simp only [List.length_append, List.length_cons, List.length_nil, List.length_take, List.length_drop] at *; omega)), UY ⟨by decide, adP (by omega) fun tl2 q1 q2 => ⟨by (first | omega | (unfold I64; omega) | (simp only [List.length_append, List.length_cons, List.length_nil, List.length_take, List.length_drop] at *; omega) | (unfold I64; simp only [List.length_append, List.length_cons, List.length_nil, List.length_take, List.length_drop] at *; omega)), hK (i + 1) _ (by simp) (by omega) (by omega) ⟨tl2, rfl, rfl, rfl, rfl, rfl, rfl, rfl, rfl, rfl, rfl, rfl, ?_, by omega⟩⟩⟩⟩, fun c => ?_⟩
  · intro x hx
    rcases q1 x hx with q | q
    · rw [q]; rfl
    · exact ht x q
  · refine ⟨fun s' => s' = (a, 1, decide (k = 2), VH k s, Nh k s, 0, tl, 0, 0, 0), fun _ => 0, rfl, ?_⟩
    rintro _ rfl
    show EE (2, 12, 2, 2, 2) Q 0 (decide (k = 2)) Full [] (decide (k = 2)) [] false (VH k s) (Nh k s) _ a 1 (decide (k = 2)) (VH k s) (Nh k s) 0 tl 0 0 0
    refine ⟨fun c => absurd c (by decide), fun _ => ⟨fun c => UY ⟨by decide, ?_⟩, fun c => ?_⟩⟩
    · exact WH (by omega) (by omega) fun tl2 q1 q2 => h _ _ _ (fun _ => rfl) (fun t q => ht t (q1 t q)) (by omega)
    · exact WH (by omega) (by omega) fun tl2 q1 q2 => h _ _ _ (fun q => absurd q (of_decide_eq_false c)) (fun t q => ht t (q1 t q)) (by omega)
end Go.Wk
