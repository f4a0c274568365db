/- Plain words on Plan's mirrors: how many service nodes it takes, trees made, texts; that a tree is made. -/
import Derived.Test.YtjliljlmgepmpaaPlnP1
import Derived.Test.YtjliljlmgepmpaaNumP
set_option linter.unusedSimpArgs false
set_option linter.unusedVariables false
set_option linter.unusedSectionVars false
namespace Go.Wk
open Go.HL
variable [DM]
theorem u8b {x : Int} (h : IntKind.min .u8 ≤ x ∧ x ≤ IntKind.max .u8) : 0 ≤ x ∧ x < 256 := ⟨h.1, Int.lt_of_le_of_lt h.2 (by decide)⟩
/-! ### How many service nodes it takes -/
def NeedIs (m f k : Nat) : Prop := m ≤ f + k * (f - 1) ∧ ∀ j, j < k → f + j * (f - 1) < m
theorem NeedIs.uniq {m f k k' : Nat} (h : NeedIs m f k) (h' : NeedIs m f k') : k = k' := by
  rcases Nat.lt_trichotomy k k' with e | e | e
  · have := h'.2 k e; have := h.1; omega
  · exact e
  · have := h.2 k' e; have := h'.1; omega
theorem NeedIs.le {m f k : Nat} (h : NeedIs m f k) : k ≤ m := by
  rcases Nat.eq_zero_or_pos k with rfl | hk
  · omega
  · have h1 := h.2 (k - 1) (by omega)
    have h0 := h.1
    by_cases c : f - 1 = 0
    · rw [c] at h1 h0; omega
    · have : (k - 1) * 1 ≤ (k - 1) * (f - 1) := Nat.mul_le_mul_left _ (by omega)
      omega
theorem need_ok {m f : Nat} {Q : Int → Bool → Prop} (hm : m ≤ 100000) (hf : 1 ≤ f ∧ f ≤ 1000) (h1 : ∀ k : Nat, NeedIs m f k → Q (k : Int) true) (h2 : (∀ k, f + k * (f - 1) < m) → Q 0 false) : plan_need_W (m : Int) (f : Int) Q := by
  refine ⟨fun c => h1 0 ⟨by omega, by omega⟩, fun c => ⟨fun d => h2 fun k => ?_, fun d => ?_⟩⟩
  · have : f - 1 = 0 := by omega
    rw [this]; omega
  · have e1 : ((m : Int) - (f : Int) + (f : Int) - 2) = ((m - 2 : Nat) : Int) := by omega
    have e2 : ((f : Int) - 1) = ((f - 1 : Nat) : Int) := by omega
    have e3 : (((m - 2 : Nat) : Int).tdiv ((f - 1 : Nat) : Int)) = (((m - 2) / (f - 1) : Nat) : Int) := by rw [Int.tdiv_eq_ediv_of_nonneg (by omega)]; rfl
    have hq := Nat.div_le_self (m - 2) (f - 1)
    have h5 := Nat.lt_mul_div_succ (m - 2) (show 0 < f - 1 by omega)
    have h4 := Nat.div_mul_le_self (m - 2) (f - 1)
    refine ⟨by unfold I64; omega, by unfold I64; omega, by unfold I64; omega, by unfold I64; omega, by omega, ?_⟩
    rw [e1, e2, e3]
    generalize (m - 2) / (f - 1) = k at *
    refine ⟨by unfold I64; omega, h1 _ ⟨?_, fun j hj => ?_⟩⟩
    · rw [Nat.mul_add, Nat.mul_one, Nat.mul_comm] at h5
      omega
    · have h3 : (j + 1) * (f - 1) ≤ k * (f - 1) := Nat.mul_le_mul_right _ hj
      rw [Nat.add_mul, Nat.one_mul] at h3
      omega
theorem fits_ok {m s f : Nat} {Q : Bool → Prop} (hm : m ≤ 100000) (hf : 1 ≤ f ∧ f ≤ 1000) (h1 : ∀ k : Nat, NeedIs m f k → Q (decide (k ≤ s))) (h2 : (∀ k, f + k * (f - 1) < m) → Q false) : plan_fits_W (m : Int) (s : Int) (f : Int) Q := by
  refine need_ok hm hf (fun k hk => ⟨fun _ => ?_, fun c => by cases c⟩) (fun hk => ⟨(fun c => by cases c), fun _ => h2 hk⟩)
  have : decide ((k : Int) ≤ (s : Int)) = decide (k ≤ s) := by rw [decide_eq_decide]; omega
  rw [this]; exact h1 k hk
theorem refNeed_ok {m f : Nat} {Q : Int → Prop} (hm : m ≤ 400) (hf : 1 ≤ f ∧ f ≤ 1000) (h1 : ∀ k : Nat, NeedIs m f k → Q (k : Int)) (h2 : (∀ k, f + k * (f - 1) < m) → Q (-1)) : ref33_Need_W (m : Int) (f : Int) Q := by
  refine loop_up1 401 (fun k => ∀ j, j < k → f + j * (f - 1) < m) (by omega) fun K k hk hI hK => ?_
  unfold ref33_Need_l1
  have e2 : ((f : Int) - 1) = ((f - 1 : Nat) : Int) := by omega
  have e3 : (k : Int) * ((f - 1 : Nat) : Int) = ((k * (f - 1) : Nat) : Int) := by rw [Int.natCast_mul]
  have hb : k * (f - 1) ≤ 401 * 1000 := Nat.mul_le_mul hk (by omega)
  rw [e2, e3]
  refine ⟨fun c => ⟨by unfold I64; omega, by unfold I64; omega, by unfold I64; omega, fun d => h1 k ⟨by omega, hI⟩, fun d => ⟨by unfold I64; omega, hK (k + 1) (by omega) (by omega) fun j hj => ?_⟩⟩, fun c => ?_⟩
  · by_cases e : j = k
    · subst e; omega
    · exact hI j (by omega)
  · refine h2 fun j => ?_
    have := hI 400 (by omega)
    have : f - 1 = 0 := by omega
    rw [this]; omega
/-! ### slices.Concat -/
theorem flat_take_len {α β : Type} (g : α → List β) (l : List α) (i : Nat) : ((l.take i).flatMap g).length ≤ (l.flatMap g).length := by
  conv => rhs; rw [← List.take_append_drop i l, List.flatMap_append, List.length_append]
  omega
theorem concat_ok {l : List T_s_int} {Q : List Int → Prop} (hl : l.length ≤ 100000) (hn : (l.flatMap (·.2)).length ≤ 100000) (h : Q (l.flatMap (·.2))) : slices_Concat_s_int_int_W l Q := by
  refine loop_up l.length (fun i s => s = (((l.take i).flatMap (·.2)).length : Int)) (by simp) fun K i s hi hs hK => ?_
  have hb := flat_take_len (fun x : T_s_int => x.2) l i
  show slices_Concat_s_int_int_l1 _ _ _ s (i : Int)
  unfold slices_Concat_s_int_int_l1
  refine ⟨fun c => ?_, fun c => ?_⟩
  · have hlt : i < l.length := by omega
    have hb2 := flat_take_len (fun x : T_s_int => x.2) l (i + 1)
    rw [List.take_succ_eq_append_getElem hlt, List.flatMap_append, List.length_append] at hb2
    simp only [List.flatMap_cons, List.flatMap_nil, List.append_nil] at hb2
    rw [gi_nat hlt, hs]
    refine ⟨by omega, by unfold I64; omega, fun c => by omega, fun _ => ⟨by unfold I64; omega, hK (i + 1) _ (by omega) hlt ?_⟩⟩
    rw [List.take_succ_eq_append_getElem hlt, List.flatMap_append, List.length_append]
    simp only [List.flatMap_cons, List.flatMap_nil, List.append_nil]; omega
  · have : i = l.length := by omega
    subst this
    rw [List.take_length] at hs hb
    refine ⟨by omega, ?_⟩
    refine loop_up l.length (fun i s => s = (l.take i).flatMap (·.2)) (by simp) fun K i s hi hs hK => ?_
    have hb := flat_take_len (fun x : T_s_int => x.2) l i
    show slices_Concat_s_int_int_l2 _ _ _ s (i : Int)
    unfold slices_Concat_s_int_int_l2
    refine ⟨fun c => ?_, fun c => ?_⟩
    · have hlt : i < l.length := by omega
      have hb2 := flat_take_len (fun x : T_s_int => x.2) l (i + 1)
      rw [List.take_succ_eq_append_getElem hlt, List.flatMap_append, List.length_append] at hb2
      simp only [List.flatMap_cons, List.flatMap_nil, List.append_nil] at hb2
      rw [gi_nat hlt, hs]
      refine ⟨by omega, by omega, by unfold I64; omega, hK (i + 1) _ (by omega) hlt ?_⟩
      rw [List.take_succ_eq_append_getElem hlt, List.flatMap_append]
      simp only [List.flatMap_cons, List.flatMap_nil, List.append_nil]
    · have : i = l.length := by omega
      subst this; rw [List.take_length] at hs; rw [hs]; exact h
/-! ### Stars, trees -/
theorem star_ok {r : Int} {ms : List Int} {Q : Int → List Br → Prop} (hm : ms.length ≤ 100000) (h : Q r (ms.map fun m => (r, m))) : plan_star_W r ms Q := by
  refine loop_up ms.length (fun i s => s = (ms.take i).map fun m => (r, m)) (by simp) fun K i s hi hs hK => ?_
  show plan_star_l1 _ _ _ _ s (i : Int)
  unfold plan_star_l1
  have hsl : s.length = i := by rw [hs]; simp; omega
  refine ⟨fun c => ?_, fun c => ?_⟩
  · have hlt : i < ms.length := by omega
    refine ⟨by omega, by simp only [List.length_cons, List.length_nil]; omega, by unfold I64; omega, hK (i + 1) _ (by omega) hlt ?_⟩
    rw [hs, List.take_succ_eq_append_getElem hlt, gi_nat hlt, List.map_append]; rfl
  · have : i = ms.length := by omega
    subst this; rw [hs, List.take_length]; exact h
/-- The branches of a tree that is made. -/
def mkb (r : Int) (ss ms : List Int) (fan : Nat) (i : Nat) : Br := (gi (r :: ss) ((i / fan : Nat) : Int), gi (ss ++ ms) (i : Int))
def mkl (r : Int) (ss ms : List Int) (fan : Nat) : List Br := (List.range (ss.length + ms.length)).map (mkb r ss ms fan)
theorem mkl_len (r : Int) (ss ms : List Int) (fan : Nat) : (mkl r ss ms fan).length = ss.length + ms.length := by unfold mkl; simp
theorem make_ok {r : Int} {ms xs : List Int} {fan : Nat} {Q : Int → List Br → Prop} (hm : ms.length + xs.length < 256) (hf : 1 ≤ fan ∧ fan ≤ 1000)
    (h1 : (∀ k, NeedIs ms.length fan k → xs.length < k) → Q r (ms.map fun m => (r, m)))
    (h2 : ∀ k, NeedIs ms.length fan k → k ≤ xs.length → ∀ L, L.Perm (mkl r (xs.take k) ms fan) → (L.Pairwise fun x y => ¬ blt y x) → (Gd r L → Q r L) ∧ (¬ Gd r L → Q 0 [])) : plan_Make_W r ms xs (fan : Int) Q := by
  refine fits_ok (by omega) hf (fun k hk => ⟨fun c => star_ok (by omega) (h1 fun k' hk' => ?_), fun c => ?_⟩) (fun hn => ⟨fun _ => star_ok (by omega) (h1 fun k hk => ?_), fun c => by cases c⟩)
  · rw [hk'.uniq hk]; simpa using c
  · have hkx : k ≤ xs.length := by simpa using c
    refine need_ok (by omega) hf (fun k' hk' => ?_) (fun hn => absurd hk.1 (by have := hn k; omega))
    have := hk'.uniq hk; subst this
    refine ⟨by omega, ?_, fun vs vm => ?_⟩
    · rw [cut0n]; simp; omega
    have hct : cut xs 0 (k' : Int) = xs.take k' := cut0n _ _
    simp only [hct]
    refine concat_ok (by simp) (by simp; omega) ?_
    simp only [List.flatMap_cons, List.flatMap_nil, List.append_nil]
    have hsl : (xs.take k').length = k' := by simp; omega
    generalize hss : xs.take k' = ss at hsl h2
    subst hsl
    have hn := hk.1
    refine loop_up (ss.length + ms.length) (fun i s => s = (List.range i).map (mkb r ss ms fan)) (by simp) fun K i s hi hs hK => ?_
    have hsl : s.length = i := by rw [hs]; simp
    show plan_Make_l2 _ _ _ _ _ _ _ s (i : Int)
    unfold plan_Make_l2
    rw [show cut xs 0 (ss.length : Int) = ss by rw [hct, hss]]
    have hlen : ((ss ++ ms).length : Int) = ((ss.length + ms.length : Nat) : Int) := by simp
    refine ⟨fun c => ?_, fun c => ?_⟩
    · have hlt : i < ss.length + ms.length := by omega
      have e : ((i : Int).tdiv (fan : Int)) = ((i / fan : Nat) : Int) := by rw [Int.tdiv_eq_ediv_of_nonneg (by omega)]; rfl
      have hd : i / fan < ss.length + 1 := by
        rw [Nat.div_lt_iff_lt_mul (by omega)]
        have h3 : ss.length * (fan - 1) + ss.length = ss.length * fan := by
          rw [← Nat.mul_succ]; congr 1; omega
        rw [Nat.add_mul]; omega
      have hdi := Nat.div_le_self i fan
      rw [e]
      have eg : gi ([r] ++ ss) ((i / fan : Nat) : Int) = gi (r :: ss) ((i / fan : Nat) : Int) := rfl
      rw [eg]
      have em : mkb r ss ms fan i = (gi (r :: ss) ((i / fan : Nat) : Int), gi (ss ++ ms) (i : Int)) := rfl
      rw [← em]
      generalize hq : i / fan = q at hd hdi
      refine ⟨by omega, by omega, by unfold I64; omega, ?_, by simp only [List.length_cons, List.length_nil]; omega, by unfold I64; omega, hK (i + 1) _ (by omega) hlt ?_⟩
      · simp only [List.length_append, List.length_cons, List.length_nil]; omega
      · rw [List.range_succ, List.map_append, hs]; rfl
    · have : i = ss.length + ms.length := by omega
      subst this
      have hs' : s = mkl r ss ms fan := hs
      subst hs'
      refine of_ok (by rw [hsl]; have := congrArg List.length hss; simp at this; omega) fun L hp hsrt => ?_
      exact h2 ss.length hk hkx L (by rw [hss]; exact hp) hsrt
  · have := hn k; have := hk.1; omega
/-! ### Texts -/
theorem rnum_ok {n : Nat} (hn : n ≤ 100000) {Q : Str → Prop} (h : Q (numL 10 n)) : ref32_num_W (n : Int) Q :=
  ⟨1, fun _ => num_ok (by decide) hn h, fun c => absurd (Int.natCast_nonneg n) c⟩
def nm (n : Int) : Str := numL 10 n.toNat
def txt (r : Int) (L : List Br) : Str := nm r ++ L.flatMap fun e => [32] ++ nm e.1 ++ [62] ++ nm e.2
theorem nm_len {n : Int} (h : 0 ≤ n ∧ n ≤ 100000) : (nm n).length ≤ 100001 := by have := numL_len (b := 10) (by decide) n.toNat; unfold nm; omega
theorem rnm_ok {n : Int} (hn : 0 ≤ n ∧ n ≤ 100000) {Q : Str → Prop} (h : Q (nm n)) : ref32_num_W n Q := by
  obtain ⟨m, rfl⟩ := Int.eq_ofNat_of_zero_le hn.1
  exact rnum_ok (by omega) (by simpa [nm] using h)
theorem rprint_ok {r : Int} {L : List Br} {Q : Str → Prop} (hr : 0 ≤ r ∧ r ≤ 100000) (hL : ∀ e ∈ L, (0 ≤ e.1 ∧ e.1 ≤ 100000) ∧ 0 ≤ e.2 ∧ e.2 ≤ 100000) (hl : L.length ≤ 100) (h : Q (txt r L)) : ref32_Print_W r L Q := by
  refine rnm_ok hr ?_
  have h0 := nm_len hr
  refine loop_up L.length (fun i s => s = txt r (L.take i) ∧ s.length ≤ 100001 + i * 200004) ⟨by simp [txt], by omega⟩ fun K i s hi ⟨hs, hsl⟩ hK => ?_
  show ref32_Print_l1 _ _ _ s (i : Int)
  unfold ref32_Print_l1
  refine ⟨fun c => ?_, fun c => ?_⟩
  · have hlt : i < L.length := by omega
    have hi100 : i * 200004 ≤ 100 * 200004 := Nat.mul_le_mul_right _ (by omega)
    obtain ⟨e1, e2⟩ := hL L[i] (List.getElem_mem hlt)
    have l1 := nm_len e1; have l2 := nm_len e2
    rw [gi_nat hlt]
    refine ⟨by simp only [List.length_cons, List.length_nil]; omega, by omega, rnm_ok e1 ⟨?_, ?_, rnm_ok e2 ⟨?_, by unfold I64; omega, hK (i + 1) _ (by omega) hlt ⟨?_, ?_⟩⟩⟩⟩
    · simp only [List.length_append, List.length_cons, List.length_nil]; omega
    · simp only [List.length_append, List.length_cons, List.length_nil]; omega
    · simp only [List.length_append, List.length_cons, List.length_nil]; omega
    · rw [List.take_succ_eq_append_getElem hlt, hs]; simp only [txt, List.flatMap_append, List.flatMap_cons, List.flatMap_nil, List.append_nil, List.append_assoc]
    · simp only [List.length_append, List.length_cons, List.length_nil]; omega
  · have : i = L.length := by omega
    subst this; rw [List.take_length] at hs; rw [hs]; exact h
/-! ### That a tree is made -/
theorem need32 {k : Nat} (h : NeedIs 3 2 k) : k = 1 := h.uniq ⟨by decide, by decide⟩
theorem need42 {k : Nat} (h : NeedIs 4 2 k) : k = 2 := h.uniq ⟨by decide, by decide⟩
theorem liveT : Gd 1 [(1, 2), (1, 9), (9, 3), (9, 4)] where
  root := by decide
  ends := by decide
  all := by
    have h9 : Rch [(1, 2), (1, 9), (9, 3), (9, 4)] 1 9 := Rch.refl.step (x := 1) (by decide)
    intro e he
    simp only [List.mem_cons, List.not_mem_nil, or_false] at he
    rcases he with rfl | rfl | rfl | rfl
    · exact Rch.refl.step (x := 1) (by decide)
    · exact h9
    · exact h9.step (by decide)
    · exact h9.step (by decide)
  ris := by decide
  few := by decide
theorem lives_ok {Q : Bool → Prop} (h : Q true) : law33_lives_W Q := by
  refine make_ok (fan := 2) (by decide) (by decide) (fun hk => absurd (hk 1 ⟨by decide, by decide⟩) (by decide)) fun k hk hkx L hp hs => ?_
  obtain rfl := need32 hk
  have hL : L = [(1, 2), (1, 9), (9, 3), (9, 4)] := sorted_uniq (hp.trans (by decide)) hs (by decide)
  subst hL
  refine ⟨fun _ => rprint_ok (by decide) (by decide) (by decide) ⟨fun _ => ?_, fun c => absurd (by decide +kernel) c⟩, fun c => absurd liveT c⟩
  refine fits_ok (m := 3) (s := 1) (f := 2) (by decide) (by decide) (fun k hk => ?_) (fun hn => absurd (hn 1) (by decide))
  obtain rfl := need32 hk
  refine ⟨fun _ => fits_ok (m := 4) (s := 1) (f := 2) (by decide) (by decide) (fun k hk => ?_) (fun hn => absurd (hn 2) (by decide)), fun c => by simp at c⟩
  obtain rfl := need42 hk
  exact h
end Go.Wk
