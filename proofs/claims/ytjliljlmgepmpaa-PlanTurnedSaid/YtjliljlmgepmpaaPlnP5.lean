/- Plain words: trees that are made, and which will do. -/
import Derived.Test.YtjliljlmgepmpaaPlnP4
set_option linter.unusedSimpArgs false
set_option linter.unusedVariables false
set_option linter.unusedSectionVars false
namespace Go.Wk
open Go.HL
variable [DM]
theorem sorted_ok {l : List Br} {Q : List Br → Prop} (hl : l.length ≤ 100000) (h : ∀ L, L.Perm l → (L.Pairwise fun x y => ¬ blt y x) → Q L) : ref32_Sorted_W l Q := by
  refine loop_up l.length (fun i s => s.Perm (l.take i) ∧ s.Pairwise fun x y => ¬ blt y x) (by simp) fun K i out hi ⟨hp, hs⟩ hK => ?_
  have hol : out.length = i := by rw [hp.length_eq]; simp; omega
  show ref32_Sorted_l1 _ _ _ out (i : Int)
  unfold ref32_Sorted_l1
  refine ⟨fun c => ?_, fun c => ?_⟩
  · have hlt : i < l.length := by omega
    have j1 : ∀ n : Nat, n ≤ out.length → (∀ y ∈ out.take n, blt y l[i]) → (∀ h : n < out.length, ¬ blt out[n] l[i]) → ref32_Sorted_j1 l out (i : Int) (fun out_1 i_1 => K (out_1, i_1)) (n : Int) := by
      intro n hn h1 h2
      unfold ref32_Sorted_j1
      have e : ([] ++ cut out 0 (n : Int)) ++ [gi l (i : Int)] ++ cut out (n : Int) (out.length : Int) = out.take n ++ [l[i]] ++ out.drop n := by
        rw [List.nil_append, cut0n, cutn, gi_nat hlt]
      rw [e]
      refine ⟨by omega, by omega, by omega, ?_, ?_, by omega, ?_, by unfold I64; omega, hK (i + 1) _ (by omega) hlt ⟨?_, ?_⟩⟩
      · rw [cut0n]; simp; omega
      · rw [cut0n]; simp; omega
      · rw [cut0n, cutn]; simp; omega
      · rw [List.take_succ_eq_append_getElem hlt]
        refine (List.Perm.trans ?_ (hp.append_right [l[i]]))
        rw [List.append_assoc]
        refine List.Perm.trans (List.Perm.append_left _ List.perm_append_comm) ?_
        rw [← List.append_assoc, List.take_append_drop]
      · rw [List.append_assoc, List.pairwise_append]
        have hs' := hs
        rw [← List.take_append_drop n out, List.pairwise_append] at hs'
        refine ⟨hs'.1, ?_, fun a ha b hb => ?_⟩
        · rw [List.singleton_append, List.pairwise_cons]
          refine ⟨fun b hb => ?_, hs'.2.1⟩
          have hn2 : n < out.length := by
            rcases Nat.lt_or_ge n out.length with q | q
            · exact q
            · rw [List.drop_of_length_le q] at hb; cases hb
          have h3 := h2 hn2
          rw [List.drop_eq_getElem_cons hn2] at hb hs'
          rcases List.mem_cons.1 hb with rfl | hb
          · exact h3
          · have h4 := (List.pairwise_cons.1 hs'.2.1).1 b hb
            unfold blt at *; omega
        · rw [List.singleton_append] at hb
          rcases List.mem_cons.1 hb with rfl | hb
          · intro q; exact blt_irr _ (blt_tr _ _ _ q (h1 a ha))
          · exact hs'.2.2 a ha b hb
    refine loop_up1 out.length (fun n => ∀ y ∈ out.take n, blt y l[i]) (by simp) fun K2 n hn hI hK2 => ?_
    unfold ref32_Sorted_l2
    refine ⟨fun c2 => ?_, fun c2 => j1 n hn hI fun q => by omega⟩
    have hn2 : n < out.length := by omega
    rw [gi_nat hn2, gi_nat hlt]
    refine ⟨by omega, by omega, less_ok ⟨fun q => ⟨by unfold I64; omega, hK2 (n + 1) (by omega) hn2 fun y hy => ?_⟩, fun q => j1 n hn hI fun _ => by simpa using q⟩⟩
    rw [List.take_succ_eq_append_getElem hn2] at hy
    rcases List.mem_append.1 hy with hy | hy
    · exact hI y hy
    · rw [List.mem_singleton] at hy; subst hy; simpa using q
  · have : i = l.length := by omega
    subst this; rw [List.take_length] at hp; exact h out hp hs
theorem refStar_ok {r : Int} {ms : List Int} {Q : Int → List Br → Prop} (hm : ms.length ≤ 100000) (h : ∀ L, L.Perm (ms.map fun m => (r, m)) → (L.Pairwise fun x y => ¬ blt y x) → Q r L) : ref33_Star_W r ms Q := by
  refine loop_up ms.length (fun i s => s = (ms.take i).map fun m => (r, m)) (by simp) fun K i s hi hs hK => ?_
  have hsl : s.length = i := by rw [hs]; simp; omega
  show ref33_Star_l1 _ _ _ _ s (i : Int)
  unfold ref33_Star_l1
  refine ⟨fun c => ?_, fun c => ?_⟩
  · have hlt : i < ms.length := by omega
    refine ⟨by omega, by simp only [List.length_cons, List.length_nil]; omega, by unfold I64; omega, hK (i + 1) _ (by omega) hlt ?_⟩
    rw [hs, List.take_succ_eq_append_getElem hlt, gi_nat hlt, List.map_append]; rfl
  · have : i = ms.length := by omega
    subst this
    rw [List.take_length] at hs
    exact sorted_ok (by omega) fun L hp hsrt => h L (by rw [← hs]; exact hp) hsrt
theorem flat_rep_len (f : Nat) : ∀ l : List Int, (l.flatMap fun x => List.replicate f x).length = l.length * f
  | [] => by simp
  | a :: l => by rw [List.flatMap_cons, List.length_append, flat_rep_len f l, List.length_replicate, List.length_cons, Nat.add_mul, Nat.one_mul]; omega
/-- The places of a tree that is made. -/
theorem places_get {r : Int} {ss : List Int} {fan : Nat} (hf : 1 ≤ fan) {i : Nat} (hi : i < (ss.length + 1) * fan) {p : List Int} (hp : p = (r :: ss).flatMap fun x => List.replicate fan x) : gi p (i : Int) = gi (r :: ss) ((i / fan : Nat) : Int) := by
  subst hp
  have key : ∀ (l : List Int) (i : Nat), i < l.length * fan → gi (l.flatMap fun x => List.replicate fan x) (i : Int) = gi l ((i / fan : Nat) : Int) := by
    intro l
    induction l with
    | nil => intro i hi; simp at hi
    | cons a l ih =>
      intro i hi
      rw [List.flatMap_cons]
      by_cases c : i < fan
      · have e : i / fan = 0 := Nat.div_eq_of_lt c
        rw [e]
        simp only [gi, Int.toNat_natCast, List.getD_eq_getElem?_getD]
        rw [List.getElem?_append_left (by simpa using c), List.getElem?_replicate, if_pos c]; rfl
      · have e : i / fan = (i - fan) / fan + 1 := by
          rw [Nat.div_eq_sub_div (by omega) (by omega)]
        have := ih (i - fan) (by rw [List.length_cons, Nat.add_mul, Nat.one_mul] at hi; omega)
        simp only [gi, Int.toNat_natCast, List.getD_eq_getElem?_getD] at this ⊢
        rw [List.getElem?_append_right (by simpa using Nat.le_of_not_lt c), List.length_replicate, this, e, List.getElem?_cons_succ]
  exact key (r :: ss) i (by simpa using hi)
def FitsP (m s f : Nat) : Prop := ∃ k, NeedIs m f k ∧ k ≤ s
theorem refFits_ok {m s f : Nat} {Q : Bool → Prop} (hm : m ≤ 400) (hf : 1 ≤ f ∧ f ≤ 1000) (h : ∀ b : Bool, (b = true ↔ FitsP m s f) → Q b) : ref33_Fits_W (m : Int) (s : Int) (f : Int) Q := by
  refine refNeed_ok hm hf (fun k hk => ⟨fun _ => h _ ?_, fun c => by omega⟩) (fun hn => ⟨fun c => by omega, fun _ => h false ⟨(fun q => by cases q), fun ⟨k, hk, _⟩ => by have := hn k; have := hk.1; omega⟩⟩)
  rw [decide_eq_true_eq]
  constructor
  · intro q; exact ⟨k, hk, by omega⟩
  · rintro ⟨k', hk', q⟩; rw [← hk.uniq hk'] at q; omega
theorem fitsP_ok {m s f : Nat} {Q : Bool → Prop} (hm : m ≤ 400) (hf : 1 ≤ f ∧ f ≤ 1000) (h : ∀ b : Bool, (b = true ↔ FitsP m s f) → Q b) : plan_fits_W (m : Int) (s : Int) (f : Int) Q := by
  refine fits_ok (by omega) hf (fun k hk => h _ ?_) (fun hn => h false ⟨(fun q => by cases q), fun ⟨k, hk, _⟩ => by have := hn k; have := hk.1; omega⟩)
  rw [decide_eq_true_eq]
  constructor
  · intro q; exact ⟨k, hk, q⟩
  · rintro ⟨k', hk', q⟩; rw [← hk.uniq hk'] at q; exact q
theorem refMake_ok {r : Int} {ms xs : List Int} {fan : Nat} {Q : Int → List Br → Prop} (hm : ms.length + xs.length < 256) (hf : 1 ≤ fan ∧ fan ≤ 1000)
    (h1 : ¬ FitsP ms.length xs.length fan → ∀ L, L.Perm (ms.map fun m => (r, m)) → (L.Pairwise fun x y => ¬ blt y x) → Q r L)
    (h2 : ∀ k, NeedIs ms.length fan k → k ≤ xs.length → ∀ L, L.Perm (mkl r (xs.take k) ms fan) → (L.Pairwise fun x y => ¬ blt y x) → Q r L) : ref33_Make_W r ms xs (fan : Int) Q := by
  have star : ¬ FitsP ms.length xs.length fan → ∀ k : Int, ref33_Make_j1 r ms xs (fan : Int) Q k true := fun hn k => ⟨fun _ => refStar_ok (by omega) (h1 hn), fun c => by cases c⟩
  refine refNeed_ok (by omega) hf (fun k hk => ⟨fun c => by omega, fun _ => ?_⟩) (fun hn => ⟨fun _ => star (fun ⟨k, hk, _⟩ => by have := hn k; have := hk.1; omega) _, fun c => by omega⟩)
  by_cases hkx : k ≤ xs.length
  · have hd : decide ((xs.length : Int) < (k : Int)) = false := by simp; omega
    rw [hd]
    have hct : cut xs 0 (k : Int) = xs.take k := cut0n _ _
    refine ⟨(fun c => by cases c), fun _ => ?_⟩
    rw [hct]
    have hsl : (xs.take k).length = k := by simp; omega
    have hkm := hk.le
    refine ⟨by omega, by simp only [List.length_nil]; omega, by simp only [List.nil_append]; omega, ?_⟩
    have hfan : k * fan ≤ 256 * 1000 := Nat.mul_le_mul (by omega) hf.2
    -- the root's places
    refine loop_up fan (fun i s => s = List.replicate i r) (by simp) fun K i p hi hp hK => ?_
    have hpl : p.length = i := by rw [hp]; simp
    show ref33_Make_l1 _ _ _ _ _ _ _ p (i : Int)
    unfold ref33_Make_l1
    refine ⟨fun c => ⟨by simp only [List.length_cons, List.length_nil]; omega, by unfold I64; omega, hK (i + 1) _ (by omega) (by omega) (by rw [hp, List.replicate_succ'])⟩, fun c => ?_⟩
    have hi2 : i = fan := by omega
    subst hi2
    -- the service nodes'
    refine loop_up k (fun n s => s = (r :: xs.take n).flatMap fun x => List.replicate i x) (by rw [hp]; simp) fun K2 n p2 hn hp2 hK2 => ?_
    have hp2l : p2.length = (n + 1) * i := by rw [hp2, flat_rep_len, List.length_cons, List.length_take, Nat.min_eq_left (by omega)]
    have hni : n * i ≤ k * i := Nat.mul_le_mul_right _ hn
    rw [Nat.add_mul, Nat.one_mul] at hp2l
    show ref33_Make_l2 _ _ _ _ _ _ _ p2 (n : Int)
    unfold ref33_Make_l2
    refine ⟨fun c => ?_, fun c => ?_⟩
    · have hnx : n < xs.length := by omega
      refine loop_up i (fun j s => s = p2 ++ List.replicate j xs[n]) (by simp) fun K3 j p3 hj hp3 hK3 => ?_
      have hp3l : p3.length = p2.length + j := by rw [hp3]; simp
      show ref33_Make_l3 _ _ _ _ _ p3 (j : Int)
      unfold ref33_Make_l3
      rw [gi_nat hnx]
      refine ⟨fun c => ⟨by omega, by simp only [List.length_cons, List.length_nil]; omega, by unfold I64; omega, hK3 (j + 1) _ (by omega) (by omega) (by rw [hp3, List.replicate_succ', List.append_assoc])⟩, fun c => ⟨by unfold I64; omega, hK2 (n + 1) _ (by omega) (by omega) ?_⟩⟩
      have : j = i := by omega
      subst this
      rw [hp3, hp2, List.take_succ_eq_append_getElem hnx, ← List.cons_append, List.flatMap_append]; simp only [List.flatMap_cons, List.flatMap_nil, List.append_nil]
    · have hn2 : n = k := by omega
      subst hn2
      generalize hss : xs.take n = ss at hsl h2 hp2 hct
      subst hsl
      have hkn := hk.1
      have hb : ss.length + ms.length ≤ (ss.length + 1) * i := by
        have h3 : ss.length * (i - 1) + ss.length = ss.length * i := by rw [← Nat.mul_succ]; congr 1; omega
        rw [Nat.add_mul]; omega
      refine loop_up (ss.length + ms.length) (fun j s => s = (List.range j).map (mkb r ss ms i)) (by simp) fun K4 j s hj hs hK4 => ?_
      have hsl : s.length = j := by rw [hs]; simp
      show ref33_Make_l4 _ _ _ _ _ _ _ s (j : Int)
      unfold ref33_Make_l4
      simp only [List.nil_append]
      rw [show cut xs 0 (ss.length : Int) = ss from hct]
      have hlen : ((ss ++ ms).length : Int) = ((ss.length + ms.length : Nat) : Int) := by simp
      rw [hlen]
      refine ⟨fun c => ?_, fun c => ?_⟩
      · have hlt : j < ss.length + ms.length := by omega
        have hpg := places_get (r := r) (ss := ss) hf.1 (i := j) (by omega) hp2
        rw [hpg]
        have em : mkb r ss ms i j = (gi (r :: ss) ((j / i : Nat) : Int), gi (ss ++ ms) (j : Int)) := rfl
        rw [← em]
        refine ⟨by rw [hp2l]; rw [Nat.add_mul] at hb; omega, by omega, by simp only [List.length_cons, List.length_nil]; omega, by unfold I64; omega, hK4 (j + 1) _ (by omega) hlt ?_⟩
        rw [List.range_succ, List.map_append, hs]; rfl
      · have : j = ss.length + ms.length := by omega
        subst this
        have hs' : s = mkl r ss ms i := hs
        subst hs'
        exact sorted_ok (by omega) fun L hp hsrt => h2 ss.length hk hkx L (by rw [hss]; exact hp) hsrt
  · have hd : decide ((xs.length : Int) < (k : Int)) = true := by simp; omega
    rw [hd]
    exact star (fun ⟨k', hk', q⟩ => by rw [← hk.uniq hk'] at q; omega) _
/-! ### Lists that rise -/
theorem adj_of {l : List Int} {i : Nat} (hi : i ≤ l.length) (h : ∀ j, (hj : j + 1 < i) → l[j]'(by omega) < l[j + 1]'(by omega)) : (l.take i).Pairwise (· < ·) := by
  induction i with
  | zero => simp
  | succ i ih =>
    rw [List.take_succ_eq_append_getElem (by omega)]
    refine pw_snoc (fun a b c => by omega) (ih (by omega) fun j hj => h j (by omega)) fun y hy => ?_
    rcases Nat.eq_zero_or_pos i with rfl | hpos
    · simp at hy
    · rw [last_take (by omega) (by omega)] at hy
      injection hy with hy; subst hy
      have := h (i - 1) (by omega)
      simpa [show i - 1 + 1 = i by omega] using this
theorem rise33_ok {l : List Int} {Q : Bool → Prop} (hl : l.length ≤ 100000) (h : ∀ b : Bool, (b = true ↔ l.Pairwise (· < ·)) → Q b) : plan_rising_W l Q := by
  refine loop_up1 l.length (fun i => ∀ j, (hj : j + 1 < i) → (hi : i ≤ l.length) → l[j]'(by omega) < l[j + 1]'(by omega)) (by omega) fun K i hi hI hK => ?_
  unfold plan_rising_l1
  refine ⟨fun c => ⟨fun d => ?_, fun d => ⟨by unfold I64; omega, hK (i + 1) (by omega) (by omega) fun j hj _ => by omega⟩⟩, fun c => ?_⟩
  · have hlt : i < l.length := by omega
    have hi1 : i - 1 < l.length := by omega
    rw [show (i : Int) - 1 = ((i - 1 : Nat) : Int) by omega, gi_nat hi1, gi_nat hlt]
    refine ⟨by unfold I64; omega, by omega, by omega, fun e => h false ⟨(fun q => by cases q), fun q => ?_⟩, fun e => ⟨by unfold I64; omega, hK (i + 1) (by omega) hlt fun j hj _ => ?_⟩⟩
    · have := List.pairwise_iff_getElem.1 q (i - 1) i hi1 hlt (by omega); omega
    · by_cases e2 : j + 1 = i
      · subst e2; simp only [Nat.add_sub_cancel] at e; omega
      · exact hI j (by omega) (by omega)
  · have : i = l.length := by omega
    subst this
    refine h true ⟨fun _ => ?_, fun _ => rfl⟩
    have := adj_of (l := l) (Nat.le_refl _) fun j hj => hI j hj (Nat.le_refl _)
    rwa [List.take_length] at this
theorem refRises_ok {l : List Int} {Q : Bool → Prop} (hl : l.length ≤ 100000) (h : ∀ b : Bool, (b = true ↔ l.Pairwise (· < ·)) → Q b) : ref33_Rises_W l Q := by
  refine loop_from (fun s => s) 1 (l.length + 1) (fun i _ => (1 ≤ i ∧ (i ≤ l.length ∨ i = 1)) ∧ ∀ j, (hj : j + 1 < i) → (hi : i ≤ l.length) → l[j]'(by omega) < l[j + 1]'(by omega)) rfl (by omega) ⟨by omega, by omega⟩ ?_
  rintro K i _ rfl hi ⟨⟨h1, h1'⟩, hI⟩ hK
  unfold ref33_Rises_l1
  refine ⟨fun c => ?_, fun c => ?_⟩
  · have hlt : i < l.length := by omega
    have hi1 : i - 1 < l.length := by omega
    rw [show (i : Int) - 1 = ((i - 1 : Nat) : Int) by omega, gi_nat hi1, gi_nat hlt]
    refine ⟨by unfold I64; omega, by omega, by omega, fun e => h false ⟨(fun q => by cases q), fun q => ?_⟩, fun e => ⟨by unfold I64; omega, hK (i + 1) _ rfl (by omega) (by omega) ⟨by omega, fun j hj _ => ?_⟩⟩⟩
    · have := List.pairwise_iff_getElem.1 q (i - 1) i hi1 hlt (by omega); omega
    · by_cases e2 : j + 1 = i
      · subst e2; simp only [Nat.add_sub_cancel] at e; omega
      · exact hI j (by omega) (by omega)
  · refine h true ⟨fun _ => ?_, fun _ => rfl⟩
    by_cases e : l.length = 0
    · rw [List.length_eq_zero_iff.1 e]; simp
    · have hil : i = l.length := by omega
      subst hil
      have := adj_of (l := l) (Nat.le_refl _) fun j hj => hI j hj (Nat.le_refl _)
      rwa [List.take_length] at this
end Go.Wk
