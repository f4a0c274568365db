/- Plain words: reports that are good; the law HostPacks. -/
import Derived.Test.YtmbkoonblmfdpaaGreatHzV
set_option linter.unusedSimpArgs false
set_option linter.unusedVariables false
set_option linter.unusedSectionVars false
namespace Go.Wk
open Go.HL
variable [DM]
theorem nott {b : Bool} (h : (!b) = false) : b = true := by cases b <;> simp_all
def srB (v6 : Bool) (l : List Ad) : Bool := l.all (fun a => (a.1 == v6) && (v6 || aGood a)) && decide ((l.length : Int) < 65)
def rgB (v6 : Bool) (r : Rb) : Bool := decide (1 ≤ r.1) && decide (r.1 ≤ 6) && ((r.2.1.1 == v6) && (v6 || aGood r.2.1) && aGrp r.2.1) && srB v6 r.2.2
def sumB (v6 : Bool) (l : List Rb) : Int := (l.map (szB v6)).sum
theorem sumB_nil (v6 : Bool) : sumB v6 [] = 0 := rfl
theorem sumB_cons (v6 : Bool) (r : Rb) (l : List Rb) : sumB v6 (r :: l) = szB v6 r + sumB v6 l := by unfold sumB; simp
theorem sumB_app (v6 : Bool) (a b : List Rb) : sumB v6 (a ++ b) = sumB v6 a + sumB v6 b := by
  induction a with
  | nil => simp [sumB]
  | cons r l ih => rw [List.cons_append, sumB_cons, sumB_cons, ih]; omega
theorem sumB_rng {v6 : Bool} {l : List Rb} (h : ∀ r ∈ l, r.2.2.length ≤ 100000) : 0 ≤ sumB v6 l ∧ sumB v6 l ≤ 2000000 * (l.length : Int) := by
  induction l with
  | nil => simp [sumB]
  | cons r l ih =>
    have h1 := ih fun r hr => h r (List.mem_cons_of_mem _ hr)
    have h2 := szB_rng (v6 := v6) (h r (List.mem_cons_self ..))
    rw [sumB_cons, List.length_cons]; omega
theorem g08_ok {a : Ad} {Q : Bool → Prop} (h : Q ((a.1 == false) && (false || aGood a) && aGrp a)) : ref08_Group_W a Q := by
  refine ⟨fun c => goodR_ok ⟨fun d => grpR_ok ?_, fun d => ?_⟩, fun c => ?_⟩
  · have : a.1 = false := by simpa using c
    rw [this, d] at h; exact h
  · have : a.1 = false := by simpa using c
    rw [this, d] at h; exact h
  · have : a.1 = true := by simpa using c
    rw [this] at h; exact h
theorem g09_ok {a : Ad} {Q : Bool → Prop} (h : Q ((a.1 == true) && (true || aGood a) && aGrp a)) : ref09_Group_W a Q := by
  refine ⟨fun c => grpR_ok ?_, fun c => ?_⟩
  · rw [c] at h; simpa using h
  · rw [c] at h; exact h
theorem all_take {α : Type} {l : List α} {p : α → Bool} {i : Nat} (h : i < l.length) : (l.take (i + 1)).all p = ((l.take i).all p && p l[i]) := by
  rw [List.take_succ_eq_append_getElem h, List.all_append]; simp
theorem all_not {α : Type} {l : List α} {p : α → Bool} {i : Nat} (h : i < l.length) (hp : p l[i] = false) : l.all p = false := by
  rw [List.all_eq_false]; exact ⟨_, List.getElem_mem h, by rw [hp]; simp⟩
theorem s08_ok {l : List Ad} {Q : Bool → Prop} (hl : l.length ≤ 1000000) (h : Q (srB false l)) : ref08_Sources_W l Q := by
  refine loop_up1 l.length (fun i => (l.take i).all (fun a => (a.1 == false) && (false || aGood a)) = true) (by simp) fun K i hi hI hK => ?_
  show ref08_Sources_l1 l Q _ (i : Int)
  unfold ref08_Sources_l1
  have bad : ∀ hi : i < l.length, ((l[i].1 == false) && (false || aGood l[i])) = false → Q false := by
    intro hi q
    have := all_not (p := fun a : Ad => (a.1 == false) && (false || aGood a)) hi q
    unfold srB at h; rw [this, Bool.false_and] at h; exact h
  refine ⟨fun d => ?_, fun d => ?_⟩
  · have i1 : i < l.length := by omega
    rw [gi_nat i1]
    refine ⟨by (first | omega | (unfold I64; omega) | (simp only [List.length_append, List.length_cons, List.length_nil, List.length_take, List.length_drop] at *; omega) | (unfold I64; simp only [List.length_append, List.length_cons, List.length_nil, List.length_take, List.length_drop] at *; omega)), fun c => bad i1 (by rw [c]; rfl), fun c => goodR_ok ⟨fun e => bad i1 ?_, fun e => ⟨by (first | omega | (unfold I64; omega) | (simp only [List.length_append, List.length_cons, List.length_nil, List.length_take, List.length_drop] at *; omega) | (unfold I64; simp only [List.length_append, List.length_cons, List.length_nil, List.length_take, List.length_drop] at *; omega)), hK (i + 1) (by omega) (by omega) ?_⟩⟩⟩
    · have : aGood l[i] = false := by simpa using e
      rw [this]; simp
    · have : aGood l[i] = true := by simpa using e
      rw [all_take i1, hI, c, this]; rfl
  · have i1 : i = l.length := by omega
    subst i1
    rw [List.take_length] at hI
    unfold srB at h; rw [hI, Bool.true_and] at h; exact h
theorem s09_ok {l : List Ad} {Q : Bool → Prop} (hl : l.length ≤ 1000000) (h : Q (srB true l)) : ref09_Sources_W l Q := by
  refine loop_up1 l.length (fun i => (l.take i).all (fun a => (a.1 == true) && (true || aGood a)) = true) (by simp) fun K i hi hI hK => ?_
  show ref09_Sources_l1 l Q _ (i : Int)
  unfold ref09_Sources_l1
  refine ⟨fun d => ?_, fun d => ?_⟩
  · have i1 : i < l.length := by omega
    rw [gi_nat i1]
    refine ⟨by (first | omega | (unfold I64; omega) | (simp only [List.length_append, List.length_cons, List.length_nil, List.length_take, List.length_drop] at *; omega) | (unfold I64; simp only [List.length_append, List.length_cons, List.length_nil, List.length_take, List.length_drop] at *; omega)), fun c => ?_, fun c => ⟨by (first | omega | (unfold I64; omega) | (simp only [List.length_append, List.length_cons, List.length_nil, List.length_take, List.length_drop] at *; omega) | (unfold I64; simp only [List.length_append, List.length_cons, List.length_nil, List.length_take, List.length_drop] at *; omega)), hK (i + 1) (by omega) (by omega) ?_⟩⟩
    · have e : l[i].1 = false := by simpa using c
      have := all_not (p := fun a : Ad => (a.1 == true) && (true || aGood a)) i1 (by rw [e]; rfl)
      unfold srB at h; rw [this, Bool.false_and] at h; exact h
    · have e : l[i].1 = true := by simpa using c
      rw [all_take i1, hI, e]; rfl
  · have i1 : i = l.length := by omega
    subst i1
    rw [List.take_length] at hI
    unfold srB at h; rw [hI, Bool.true_and] at h; exact h
theorem sum_take {v6 : Bool} {l : List Rec} {i : Nat} (h : i < l.length) : sumB v6 ((l.take (i + 1)).map rk) = sumB v6 ((l.take i).map rk) + szB v6 (rk l[i]) := by
  rw [List.take_succ_eq_append_getElem h, List.map_append, sumB_app]; simp [sumB]
theorem sum_tk {v6 : Bool} {l : List Rec} (hs : ∀ r ∈ l, r.2.2.2.length ≤ 100000) (i : Nat) : 0 ≤ sumB v6 ((l.take i).map rk) ∧ sumB v6 ((l.take i).map rk) ≤ 2000000 * (i : Int) := by
  have := sumB_rng (v6 := v6) (l := (l.take i).map rk) fun r hr => by
    obtain ⟨x, hx, rfl⟩ := List.mem_map.1 hr
    exact hs x (List.mem_of_mem_take hx)
  rw [List.length_map, List.length_take] at this
  omega
theorem recs4_ok {l : List Rec} {Q : Bool → Prop} (hs : ∀ r ∈ l, r.2.2.2.length ≤ 100000) (hl : l.length ≤ 1000000) (bad : (∃ r ∈ l, rgB false (rk r) = false) → Q false)
    (good : (∀ r ∈ l, rgB false (rk r) = true) → Q (decide ((l.length : Int) < 65) && decide (8 + sumB false (l.map rk) < 1401))) :
    loopW (fun (K_1 : (Int × Int) → Prop) (s : Int × Int) => ref08_Good_l1 (false, (default : Ba 16)) l Q (fun n_1 i_1 => K_1 (n_1, i_1)) s.1 s.2) (8, 0) := by
  refine loop_up l.length (fun i n => n = 8 + sumB false ((l.take i).map rk) ∧ ∀ r ∈ l.take i, rgB false (rk r) = true) ⟨by simp [sumB], by simp⟩ fun K i n hi ⟨hn, hI⟩ hK => ?_
  show ref08_Good_l1 (false, (default : Ba 16)) l Q _ n (i : Int)
  unfold ref08_Good_l1
  have hb := sum_tk (v6 := false) hs i
  refine ⟨fun d => ?_, fun d => ?_⟩
  · have i1 : i < l.length := by omega
    have hsi := hs _ (List.getElem_mem i1)
    rw [gi_nat i1]
    have yes : rgB false (rk l[i]) = true → ref08_Good_j7 Q n (i : Int) (fun n_1 i_1 => K (n_1, i_1)) l[i].2.2.2 false := by
      intro q
      refine ⟨fun c => (by cases c), fun _ => ⟨by (first | omega | (unfold I64; omega) | (simp only [List.length_append, List.length_cons, List.length_nil, List.length_take, List.length_drop] at *; omega) | (unfold I64; simp only [List.length_append, List.length_cons, List.length_nil, List.length_take, List.length_drop] at *; omega)), by (first | omega | (unfold I64; omega) | (simp only [List.length_append, List.length_cons, List.length_nil, List.length_take, List.length_drop] at *; omega) | (unfold I64; simp only [List.length_append, List.length_cons, List.length_nil, List.length_take, List.length_drop] at *; omega)), by (first | omega | (unfold I64; omega) | (simp only [List.length_append, List.length_cons, List.length_nil, List.length_take, List.length_drop] at *; omega) | (unfold I64; simp only [List.length_append, List.length_cons, List.length_nil, List.length_take, List.length_drop] at *; omega)), by (first | omega | (unfold I64; omega) | (simp only [List.length_append, List.length_cons, List.length_nil, List.length_take, List.length_drop] at *; omega) | (unfold I64; simp only [List.length_append, List.length_cons, List.length_nil, List.length_take, List.length_drop] at *; omega)), hK (i + 1) _ (by omega) (by omega) ⟨?_, ?_⟩⟩⟩
      · rw [sum_take i1, hn]; show _ = 8 + (_ + (8 + 4 * (l[i].2.2.2.length : Int))); omega
      · intro r hr; rw [List.take_succ_eq_append_getElem i1] at hr
        rcases List.mem_append.1 hr with e | e
        · exact hI r e
        · rw [List.mem_singleton.1 e]; exact q
    have no : rgB false (rk l[i]) = false → ref08_Good_j7 Q n (i : Int) (fun n_1 i_1 => K (n_1, i_1)) l[i].2.2.2 true := fun q => ⟨fun _ => bad ⟨_, List.getElem_mem i1, q⟩, fun c => by cases c⟩
    refine ⟨by (first | omega | (unfold I64; omega) | (simp only [List.length_append, List.length_cons, List.length_nil, List.length_take, List.length_drop] at *; omega) | (unfold I64; simp only [List.length_append, List.length_cons, List.length_nil, List.length_take, List.length_drop] at *; omega)), fun c => no ?_, fun c => ⟨fun e => no ?_, fun e => g08_ok ⟨fun f => no ?_, fun f => s08_ok (by omega) ?_⟩⟩⟩
    · unfold rgB; rw [show decide (1 ≤ (rk l[i]).1) = false from decide_eq_false (by show ¬ 1 ≤ l[i].1; omega)]; rfl
    · unfold rgB; rw [show decide ((rk l[i]).1 ≤ 6) = false from decide_eq_false (by show ¬ l[i].1 ≤ 6; omega)]; simp
    · unfold rgB; simp only [Bool.not_eq_true'] at f
      have f' : (((rk l[i]).2.1.1 == false) && (false || aGood (rk l[i]).2.1) && aGrp (rk l[i]).2.1) = false := f
      rw [f']; simp
    · have f' : (((rk l[i]).2.1.1 == false) && (false || aGood (rk l[i]).2.1) && aGrp (rk l[i]).2.1) = true := nott f
      have e1 : rgB false (rk l[i]) = srB false l[i].2.2.2 := by
        unfold rgB
        rw [show decide (1 ≤ (rk l[i]).1) = true from decide_eq_true (by show 1 ≤ l[i].1; omega), show decide ((rk l[i]).1 ≤ 6) = true from decide_eq_true (by show l[i].1 ≤ 6; omega), f']; rfl
      cases q : srB false l[i].2.2.2 with
      | true => exact yes (e1.trans q)
      | false => exact no (e1.trans q)
  · have i1 : i = l.length := by omega
    subst i1
    rw [List.take_length] at hI hn
    have g := good hI
    refine ⟨fun _ => ⟨fun c => ?_, fun c => ?_⟩, fun q => absurd rfl q⟩
    · show Q (decide (n < 1401))
      rw [decide_eq_true c, Bool.true_and, ← hn] at g; exact g
    · show Q false
      rw [decide_eq_false c, Bool.false_and] at g; exact g
theorem zeroR_ok {b : Bool} {Q : Bool → Prop} (h : Q true) : ref03_Zero_W (b, (default : Ba 16)) Q := by
  refine loop_up1 16 (fun _ => True) trivial fun K i hi _ hK => ?_
  show ref03_Zero_l1 (b, (default : Ba 16)) Q _ (i : Int)
  unfold ref03_Zero_l1
  have hz : ∀ j : Nat, j < 16 → b8 (default : Ba 16) (j : Int) = 0 := by decide +kernel
  exact ⟨fun c => ⟨by (first | omega | (unfold I64; omega) | (simp only [List.length_append, List.length_cons, List.length_nil, List.length_take, List.length_drop] at *; omega) | (unfold I64; simp only [List.length_append, List.length_cons, List.length_nil, List.length_take, List.length_drop] at *; omega)), fun q => absurd (hz i (by omega)) q, fun _ => ⟨by (first | omega | (unfold I64; omega) | (simp only [List.length_append, List.length_cons, List.length_nil, List.length_take, List.length_drop] at *; omega) | (unfold I64; simp only [List.length_append, List.length_cons, List.length_nil, List.length_take, List.length_drop] at *; omega)), hK (i + 1) (by omega) (by omega) trivial⟩⟩, fun _ => h⟩
theorem recs6_ok {l : List Rec} {Q : Bool → Prop} (hs : ∀ r ∈ l, r.2.2.2.length ≤ 100000) (hl : l.length ≤ 1000000) (bad : (∃ r ∈ l, rgB true (rk r) = false) → Q false)
    (good : (∀ r ∈ l, rgB true (rk r) = true) → Q (decide ((l.length : Int) < 65) && decide (8 + sumB true (l.map rk) < 1401))) :
    loopW (fun (K_1 : (Int × Int) → Prop) (s : Int × Int) => ref09_Good_l1 (false, (default : Ba 16)) l Q (fun n_1 i_1 => K_1 (n_1, i_1)) s.1 s.2) (8, 0) := by
  refine loop_up l.length (fun i n => n = 8 + sumB true ((l.take i).map rk) ∧ ∀ r ∈ l.take i, rgB true (rk r) = true) ⟨by simp [sumB], by simp⟩ fun K i n hi ⟨hn, hI⟩ hK => ?_
  show ref09_Good_l1 (false, (default : Ba 16)) l Q _ n (i : Int)
  unfold ref09_Good_l1
  have hb := sum_tk (v6 := true) hs i
  refine ⟨fun d => ?_, fun d => ?_⟩
  · have i1 : i < l.length := by omega
    have hsi := hs _ (List.getElem_mem i1)
    rw [gi_nat i1]
    have yes : rgB true (rk l[i]) = true → ref09_Good_j5 Q n (i : Int) (fun n_1 i_1 => K (n_1, i_1)) l[i].2.2.2 false := by
      intro q
      refine ⟨fun c => (by cases c), fun _ => ⟨by (first | omega | (unfold I64; omega) | (simp only [List.length_append, List.length_cons, List.length_nil, List.length_take, List.length_drop] at *; omega) | (unfold I64; simp only [List.length_append, List.length_cons, List.length_nil, List.length_take, List.length_drop] at *; omega)), by (first | omega | (unfold I64; omega) | (simp only [List.length_append, List.length_cons, List.length_nil, List.length_take, List.length_drop] at *; omega) | (unfold I64; simp only [List.length_append, List.length_cons, List.length_nil, List.length_take, List.length_drop] at *; omega)), by (first | omega | (unfold I64; omega) | (simp only [List.length_append, List.length_cons, List.length_nil, List.length_take, List.length_drop] at *; omega) | (unfold I64; simp only [List.length_append, List.length_cons, List.length_nil, List.length_take, List.length_drop] at *; omega)), by (first | omega | (unfold I64; omega) | (simp only [List.length_append, List.length_cons, List.length_nil, List.length_take, List.length_drop] at *; omega) | (unfold I64; simp only [List.length_append, List.length_cons, List.length_nil, List.length_take, List.length_drop] at *; omega)), hK (i + 1) _ (by omega) (by omega) ⟨?_, ?_⟩⟩⟩
      · rw [sum_take i1, hn]; show _ = 8 + (_ + (20 + 16 * (l[i].2.2.2.length : Int))); omega
      · intro r hr; rw [List.take_succ_eq_append_getElem i1] at hr
        rcases List.mem_append.1 hr with e | e
        · exact hI r e
        · rw [List.mem_singleton.1 e]; exact q
    have no : rgB true (rk l[i]) = false → ref09_Good_j5 Q n (i : Int) (fun n_1 i_1 => K (n_1, i_1)) l[i].2.2.2 true := fun q => ⟨fun _ => bad ⟨_, List.getElem_mem i1, q⟩, fun c => by cases c⟩
    refine ⟨by (first | omega | (unfold I64; omega) | (simp only [List.length_append, List.length_cons, List.length_nil, List.length_take, List.length_drop] at *; omega) | (unfold I64; simp only [List.length_append, List.length_cons, List.length_nil, List.length_take, List.length_drop] at *; omega)), fun c => no ?_, fun c => ⟨fun e => no ?_, fun e => g09_ok ⟨fun f => no ?_, fun f => s09_ok (by omega) ?_⟩⟩⟩
    · unfold rgB; rw [show decide (1 ≤ (rk l[i]).1) = false from decide_eq_false (by show ¬ 1 ≤ l[i].1; omega)]; rfl
    · unfold rgB; rw [show decide ((rk l[i]).1 ≤ 6) = false from decide_eq_false (by show ¬ l[i].1 ≤ 6; omega)]; simp
    · unfold rgB; simp only [Bool.not_eq_true'] at f
      have f' : (((rk l[i]).2.1.1 == true) && (true || aGood (rk l[i]).2.1) && aGrp (rk l[i]).2.1) = false := f
      rw [f']; simp
    · have f' : (((rk l[i]).2.1.1 == true) && (true || aGood (rk l[i]).2.1) && aGrp (rk l[i]).2.1) = true := nott f
      have e1 : rgB true (rk l[i]) = srB true l[i].2.2.2 := by
        unfold rgB
        rw [show decide (1 ≤ (rk l[i]).1) = true from decide_eq_true (by show 1 ≤ l[i].1; omega), show decide ((rk l[i]).1 ≤ 6) = true from decide_eq_true (by show l[i].1 ≤ 6; omega), f']; rfl
      cases q : srB true l[i].2.2.2 with
      | true => exact yes (e1.trans q)
      | false => exact no (e1.trans q)
  · have i1 : i = l.length := by omega
    subst i1
    rw [List.take_length] at hI hn
    have g := good hI
    refine ⟨fun _ => zeroR_ok ⟨fun _ => ⟨fun c => ?_, fun c => ?_⟩, fun q => (by cases q)⟩, fun q => (by cases q)⟩
    · show Q (decide (n < 1401))
      rw [decide_eq_true c, Bool.true_and, ← hn] at g; exact g
    · show Q false
      rw [decide_eq_false c, Bool.false_and] at g; exact g
theorem talkR_ok {v6 : Bool} {l : List Rec} {Q : Bool → Prop} (hs : ∀ r ∈ l, r.2.2.2.length ≤ 100000) (hl : l.length ≤ 1000000) (bad : (∃ r ∈ l, rgB v6 (rk r) = false) → Q false)
    (good : (∀ r ∈ l, rgB v6 (rk r) = true) → Q (decide ((l.length : Int) < 65) && decide (8 + sumB v6 (l.map rk) < 1401))) : ref10_Talk_W v6 (lastV v6) 2 0 (false, (default : Ba 16)) false 0 0 [] l Q := by
  refine ⟨fun c => ?_, fun c => ?_⟩
  · subst c
    show ref09_Good_W true 2 2 0 (false, (default : Ba 16)) false 0 0 [] l _
    have fin : loopW (fun (K_1 : (Int × Int) → Prop) (s : Int × Int) => ref09_Good_l1 (false, (default : Ba 16)) l (fun r_2 => (r_2 = true → Q true) ∧ (r_2 = false → Q false)) (fun n_1 i_1 => K_1 (n_1, i_1)) s.1 s.2) (8, 0) := by
      refine recs6_ok hs hl (fun q => ⟨fun c => (by cases c), fun _ => bad q⟩) fun q => ?_
      have g := good q
      cases e : (decide ((l.length : Int) < 65) && decide (8 + sumB true (l.map rk) < 1401)) with
      | true => rw [e] at g; exact ⟨fun _ => g, fun c => by cases c⟩
      | false => rw [e] at g; exact ⟨fun c => (by cases c), fun _ => g⟩
    refine ⟨fun c => (by cases c), fun _ => ⟨fun c => absurd c (by decide), fun _ => ⟨fun c => absurd c (by decide), fun _ => ⟨fun c => absurd c (by decide), fun _ => ⟨fun c => absurd c (by decide), fun _ => ⟨fun _ => ⟨fun c => absurd c (by decide), fun _ => ?_⟩, fun c => absurd rfl c⟩⟩⟩⟩⟩⟩
    refine ⟨fun _ => ⟨fun _ => ⟨fun c => (by cases c), fun _ => ⟨fun c => absurd rfl c, fun _ => ⟨fun c => absurd rfl c, fun _ => ⟨fun c => absurd c (by decide), fun _ => ⟨fun _ => ⟨fun c => absurd rfl c, fun _ => ?_⟩, fun c => absurd c (by decide)⟩⟩⟩⟩⟩, fun c => (by cases c)⟩, fun c => absurd rfl c⟩
    exact ⟨fun _ => ⟨fun _ => fin, fun c => (by cases c)⟩, fun c => absurd rfl c⟩
  · subst c
    show ref08_Good_W false 3 2 0 (false, (default : Ba 16)) false 0 0 [] l _
    have j4 : ref08_Good_j4 3 2 0 (false, (default : Ba 16)) 0 0 [] l Q := by
      refine ⟨fun c => absurd c (by decide), fun _ => ⟨fun _ => ⟨fun c => (by cases c), fun _ => ⟨fun _ => recs4_ok hs hl bad good, fun c => absurd rfl c⟩⟩, fun c => absurd rfl c⟩⟩
    refine ⟨fun c => (by cases c), fun _ => ⟨fun c => absurd c (by decide), fun _ => ⟨fun c => absurd c (by decide), fun _ => ⟨fun c => absurd c (by decide), fun _ => ?_⟩⟩⟩⟩
    refine ⟨fun c => (by cases c), fun _ => ⟨fun _ => ⟨fun _ => ⟨fun c => (by cases c), fun _ => ⟨fun c => absurd rfl c, fun _ => ⟨fun c => absurd rfl c, fun _ => ⟨fun c => absurd c (by decide), fun _ => ?_⟩⟩⟩⟩, fun c => (by cases c)⟩, fun c => absurd rfl c⟩⟩
    exact ⟨fun _ => ⟨fun c => absurd rfl c, fun _ => ⟨fun _ => ⟨fun c => absurd c (by decide), fun _ => ⟨fun c => absurd rfl c, fun _ => j4⟩⟩, fun _ => j4⟩⟩, fun c => absurd c (by decide)⟩
theorem sizeR_ok {v6 : Bool} {l : List Rec} {Q : Int → Prop} (hs : ∀ r ∈ l, r.2.2.2.length ≤ 100000) (hl : l.length ≤ 1000000) (h : Q (8 + sumB v6 (l.map rk))) : ref20_Size_W v6 l Q := by
  refine loop_up l.length (fun i n => n = 8 + sumB v6 ((l.take i).map rk)) (by simp [sumB]) fun K i n hi hn hK => ?_
  show ref20_Size_l1 v6 l Q _ n (i : Int)
  unfold ref20_Size_l1
  have hb := sum_tk (v6 := v6) hs i
  refine ⟨fun d => ?_, fun d => ?_⟩
  · have i1 : i < l.length := by omega
    have hsi := hs _ (List.getElem_mem i1)
    rw [gi_nat i1]
    have hz := sum_take (v6 := v6) i1
    refine ⟨fun c => ?_, fun c => ?_⟩
    · subst c
      have e : szB true (rk l[i]) = 20 + 16 * (l[i].2.2.2.length : Int) := rfl
      exact ⟨by (first | omega | (unfold I64; omega) | (simp only [List.length_append, List.length_cons, List.length_nil, List.length_take, List.length_drop] at *; omega) | (unfold I64; simp only [List.length_append, List.length_cons, List.length_nil, List.length_take, List.length_drop] at *; omega)), by (first | omega | (unfold I64; omega) | (simp only [List.length_append, List.length_cons, List.length_nil, List.length_take, List.length_drop] at *; omega) | (unfold I64; simp only [List.length_append, List.length_cons, List.length_nil, List.length_take, List.length_drop] at *; omega)), by (first | omega | (unfold I64; omega) | (simp only [List.length_append, List.length_cons, List.length_nil, List.length_take, List.length_drop] at *; omega) | (unfold I64; simp only [List.length_append, List.length_cons, List.length_nil, List.length_take, List.length_drop] at *; omega)), by (first | omega | (unfold I64; omega) | (simp only [List.length_append, List.length_cons, List.length_nil, List.length_take, List.length_drop] at *; omega) | (unfold I64; simp only [List.length_append, List.length_cons, List.length_nil, List.length_take, List.length_drop] at *; omega)), by (first | omega | (unfold I64; omega) | (simp only [List.length_append, List.length_cons, List.length_nil, List.length_take, List.length_drop] at *; omega) | (unfold I64; simp only [List.length_append, List.length_cons, List.length_nil, List.length_take, List.length_drop] at *; omega)), hK (i + 1) _ (by omega) (by omega) (by rw [hz, e]; omega)⟩
    · subst c
      have e : szB false (rk l[i]) = 8 + 4 * (l[i].2.2.2.length : Int) := rfl
      exact ⟨by (first | omega | (unfold I64; omega) | (simp only [List.length_append, List.length_cons, List.length_nil, List.length_take, List.length_drop] at *; omega) | (unfold I64; simp only [List.length_append, List.length_cons, List.length_nil, List.length_take, List.length_drop] at *; omega)), by (first | omega | (unfold I64; omega) | (simp only [List.length_append, List.length_cons, List.length_nil, List.length_take, List.length_drop] at *; omega) | (unfold I64; simp only [List.length_append, List.length_cons, List.length_nil, List.length_take, List.length_drop] at *; omega)), by (first | omega | (unfold I64; omega) | (simp only [List.length_append, List.length_cons, List.length_nil, List.length_take, List.length_drop] at *; omega) | (unfold I64; simp only [List.length_append, List.length_cons, List.length_nil, List.length_take, List.length_drop] at *; omega)), by (first | omega | (unfold I64; omega) | (simp only [List.length_append, List.length_cons, List.length_nil, List.length_take, List.length_drop] at *; omega) | (unfold I64; simp only [List.length_append, List.length_cons, List.length_nil, List.length_take, List.length_drop] at *; omega)), by (first | omega | (unfold I64; omega) | (simp only [List.length_append, List.length_cons, List.length_nil, List.length_take, List.length_drop] at *; omega) | (unfold I64; simp only [List.length_append, List.length_cons, List.length_nil, List.length_take, List.length_drop] at *; omega)), hK (i + 1) _ (by omega) (by omega) (by rw [hz, e]; omega)⟩
  · have i1 : i = l.length := by omega
    subst i1
    rw [List.take_length] at hn
    rw [hn]; exact h
theorem packA_stop {v6 : Bool} {c : List Rb} {room : Int} {l : List Rb} (h : ∀ r rest, l = r :: rest → c.length = 64 ∨ room < szB v6 r) : packA v6 c room l = c :: packL v6 l := by
  cases l with
  | nil => rfl
  | cons r rest => rw [packA, if_pos (h r rest rfl)]; rfl
theorem packA_go {v6 : Bool} {c : List Rb} {room : Int} {r : Rb} {l : List Rb} (h1 : c.length ≠ 64) (h2 : szB v6 r ≤ room) : packA v6 c room (r :: l) = packA v6 (c ++ [r]) (room - szB v6 r) l := by
  rw [packA, if_neg (by omega)]
theorem packRef_ok {v6 : Bool} {l : List Rec} {Q : List Tk → Prop} (hl : l.length ≤ 1000000) (hs : ∀ r ∈ l, r.2.2.2.length ≤ 100000) (h : ∀ out, out.map tb = (packL v6 (l.map rk)).map (mkT v6) → Q out) : ref20_Pack_W v6 l Q := by
  refine ⟨fun s => s.2.map tb ++ (packL v6 (s.1.map rk)).map (mkT v6) = (packL v6 (l.map rk)).map (mkT v6) ∧ s.2.length + s.1.length ≤ l.length ∧ ∀ r ∈ s.1, r ∈ l, fun s => s.1.length, ⟨by simp, by simp, fun r hr => hr⟩, ?_⟩
  rintro ⟨l1, out⟩ ⟨hI, hn, hm⟩
  replace hI : out.map tb ++ (packL v6 (l1.map rk)).map (mkT v6) = (packL v6 (l.map rk)).map (mkT v6) := hI
  replace hn : out.length + l1.length ≤ l.length := hn
  replace hm : ∀ r ∈ l1, r ∈ l := hm
  show ref20_Pack_l2 v6 Q _ l1 out
  unfold ref20_Pack_l2
  refine ⟨fun d => ?_, fun d => h _ ?_⟩
  · have hs1 : ∀ r ∈ l1, r.2.2.2.length ≤ 100000 := fun r hr => hs r (hm r hr)
    have h0 : 0 < l1.length := by omega
    have stop : ∀ n : Nat, 1 ≤ n → n ≤ l1.length → packL v6 (l1.map rk) = (l1.take n).map rk :: packL v6 ((l1.drop n).map rk) →
        ref20_Pack_j1 v6 l1 out (fun l_1 out_1 => (out_1.map tb ++ (packL v6 (l_1.map rk)).map (mkT v6) = (packL v6 (l.map rk)).map (mkT v6) ∧ out_1.length + l_1.length ≤ l.length ∧ ∀ r ∈ l_1, r ∈ l) ∧ l_1.length < l1.length) (n : Int) := by
      intro n h1 h2 h3
      have hc : cut l1 (n : Int) (l1.length : Int) = l1.drop n := by unfold cut; simp
      have hlast : ∀ {Q' : Int → Prop}, Q' (lastV v6) → ref16_Last_W v6 Q' := fun h => ⟨fun c => by subst c; exact h, fun c => by subst c; exact h⟩
      refine ⟨by (first | omega | (unfold I64; omega) | (simp only [List.length_append, List.length_cons, List.length_nil, List.length_take, List.length_drop] at *; omega) | (unfold I64; simp only [List.length_append, List.length_cons, List.length_nil, List.length_take, List.length_drop] at *; omega)), hlast fun v => ⟨by simp only [List.length_cons, List.length_nil]; omega, ⟨?_, ?_, ?_⟩, ?_⟩⟩
      · rw [hc, List.map_append, ← hI, h3, List.append_assoc]
        congr 1
      · rw [hc, List.length_append, List.length_drop, List.length_cons, List.length_nil]; omega
      · intro r hr; rw [hc] at hr; exact hm r (List.mem_of_mem_drop hr)
      · rw [hc, List.length_drop]; omega
    refine loop_from (fun s => s) 1 l1.length (fun n _ => n ≤ 64 ∧ packA v6 ((l1.take n).map rk) (1392 - sumB v6 ((l1.take n).map rk)) ((l1.drop n).map rk) = packL v6 (l1.map rk)) rfl (by omega) ⟨by omega, ?_⟩ ?_
    · cases l1 with
      | nil => simp at h0
      | cons r rest => simp [packL, sumB]
    · rintro K n _ rfl hi ⟨h64, hP⟩ hK
      have h1n : 1 ≤ n ∨ n = 0 := by omega
      show ref20_Pack_l3 v6 l1 out _ K (n : Int)
      unfold ref20_Pack_l3
      have hlen : ((l1.take n).map rk).length = n := by rw [List.length_map, List.length_take]; omega
      by_cases hz : n = 0
      · -- never
        subst hz
        refine ⟨fun c => ⟨fun e => ⟨by (first | omega | (unfold I64; omega) | (simp only [List.length_append, List.length_cons, List.length_nil, List.length_take, List.length_drop] at *; omega) | (unfold I64; simp only [List.length_append, List.length_cons, List.length_nil, List.length_take, List.length_drop] at *; omega)), by (first | omega | (unfold I64; omega) | (simp only [List.length_append, List.length_cons, List.length_nil, List.length_take, List.length_drop] at *; omega) | (unfold I64; simp only [List.length_append, List.length_cons, List.length_nil, List.length_take, List.length_drop] at *; omega)), sizeR_ok (fun r hr => hs1 r (cut_sub hr)) (by unfold cut; simp <;> omega) ⟨fun f => ?_, fun f => ?_⟩⟩, fun e => absurd e (by decide)⟩, fun c => absurd (by omega) c⟩
        · exact hK 1 _ rfl (by omega) (by omega) ⟨by omega, by cases l1 with
            | nil => simp at h0
            | cons r rest => simp [packL, sumB]⟩
        · exfalso
          have := hP
          simp only [List.take_zero, List.map_nil, sumB_nil, List.drop_zero] at this
          cases l1 with
          | nil => simp at h0
          | cons r rest =>
            have e2 := congrArg List.head? this
            by_cases g : szB v6 (rk r) ≤ 1392
            · apply f; unfold cut; simp [sumB]; omega
            · rw [List.map_cons, packA, if_pos (.inr (by omega))] at this
              have hx : packL v6 (rk r :: List.map rk rest) = packA v6 [rk r] (1392 - szB v6 (rk r)) (rest.map rk) := rfl
              rw [hx] at this
              have hh := congrArg List.length this
              simp at hh
      · have h1 : 1 ≤ n := by omega
        refine ⟨fun c => ?_, fun c => stop n h1 (by omega) ?_⟩
        · have i1 : n < l1.length := by omega
          have hdr : (l1.drop n).map rk = rk l1[n] :: (l1.drop (n + 1)).map rk := by rw [List.drop_eq_getElem_cons i1]; rfl
          have hst := sum_take (v6 := v6) i1
          have hct : cut l1 0 ((n : Int) + 1) = l1.take (n + 1) := by
            unfold cut; rw [show ((n : Int) + 1).toNat = n + 1 by omega]; simp
          refine ⟨fun e => ⟨by (first | omega | (unfold I64; omega) | (simp only [List.length_append, List.length_cons, List.length_nil, List.length_take, List.length_drop] at *; omega) | (unfold I64; simp only [List.length_append, List.length_cons, List.length_nil, List.length_take, List.length_drop] at *; omega)), by (first | omega | (unfold I64; omega) | (simp only [List.length_append, List.length_cons, List.length_nil, List.length_take, List.length_drop] at *; omega) | (unfold I64; simp only [List.length_append, List.length_cons, List.length_nil, List.length_take, List.length_drop] at *; omega)), ?_⟩, fun e => stop n h1 (by omega) ?_⟩
          · rw [hct]
            refine sizeR_ok (fun r hr => hs1 r (List.mem_of_mem_take hr)) (by rw [List.length_take]; omega) ⟨fun f => ?_, fun f => stop n h1 (by omega) ?_⟩
            · refine hK (n + 1) _ (by simp) (by omega) (by omega) ⟨by omega, ?_⟩
              rw [← hP, hdr, packA_go (by rw [hlen]; omega) (by omega), hst, List.take_succ_eq_append_getElem i1, List.map_append]
              congr 1; omega
            · rw [← hP]; refine packA_stop fun r rest e => .inr ?_
              rw [hdr] at e; injection e with e _; rw [← e]; omega
          · rw [← hP]; exact packA_stop fun r rest _ => .inl (by rw [hlen]; omega)
        · have i1 : n = l1.length := by omega
          rw [← hP]; refine packA_stop fun r rest e => ?_
          rw [i1, List.drop_length] at e; cases e
  · have : l1 = [] := List.length_eq_zero_iff.1 (by omega)
    subst this
    rw [← hI]; simp [packL]
theorem packA_mem {v6 : Bool} : ∀ (l c0 : List Rb) (room : Int), c0 ≠ [] → c0.length ≤ 64 → sumB v6 c0 = 1392 - room → 0 ≤ room → (∀ r ∈ l, szB v6 r ≤ 1392) →
    ∀ c ∈ packA v6 c0 room l, c ≠ [] ∧ c.length ≤ 64 ∧ sumB v6 c ≤ 1392 ∧ ∀ r ∈ c, r ∈ c0 ∨ r ∈ l
  | [], c0, room, h0, h1, h2, h3, h4, c, hc => by
    have : c = c0 := by simpa [packA] using hc
    subst this; exact ⟨h0, h1, by omega, fun r hr => .inl hr⟩
  | r :: l, c0, room, h0, h1, h2, h3, h4, c, hc => by
    have hr := h4 r (List.mem_cons_self ..)
    have h5 : ∀ x ∈ l, szB v6 x ≤ 1392 := fun x hx => h4 x (List.mem_cons_of_mem _ hx)
    rw [packA] at hc
    split at hc
    · rcases List.mem_cons.1 hc with e | e
      · subst e; exact ⟨h0, h1, by omega, fun r hr => .inl hr⟩
      · obtain ⟨a1, a2, a3, a4⟩ := packA_mem l [r] (1392 - szB v6 r) (by simp) (by simp) (by rw [sumB_cons, sumB_nil]; omega) (by omega) h5 c e
        refine ⟨a1, a2, a3, fun x hx => ?_⟩
        rcases a4 x hx with q | q
        · rw [List.mem_singleton.1 q]; exact .inr (List.mem_cons_self ..)
        · exact .inr (List.mem_cons_of_mem _ q)
    · rename_i hn
      obtain ⟨a1, a2, a3, a4⟩ := packA_mem l (c0 ++ [r]) (room - szB v6 r) (by simp) (by simp; omega) (by rw [sumB_app, sumB_cons, sumB_nil]; omega) (by omega) h5 c hc
      refine ⟨a1, a2, a3, fun x hx => ?_⟩
      rcases a4 x hx with q | q
      · rcases List.mem_append.1 q with q | q
        · exact .inl q
        · rw [List.mem_singleton.1 q]; exact .inr (List.mem_cons_self ..)
      · exact .inr (List.mem_cons_of_mem _ q)
theorem packL_mem {v6 : Bool} {l : List Rb} (h : ∀ r ∈ l, szB v6 r ≤ 1392) : ∀ c ∈ packL v6 l, c ≠ [] ∧ c.length ≤ 64 ∧ sumB v6 c ≤ 1392 ∧ ∀ r ∈ c, r ∈ l := by
  cases l with
  | nil => intro c hc; cases hc
  | cons r l =>
    intro c hc
    have hr := h r (List.mem_cons_self ..)
    obtain ⟨a1, a2, a3, a4⟩ := packA_mem l [r] (1392 - szB v6 r) (by simp) (by simp) (by rw [sumB_cons, sumB_nil]; omega) (by omega) (fun x hx => h x (List.mem_cons_of_mem _ hx)) c hc
    refine ⟨a1, a2, a3, fun x hx => ?_⟩
    rcases a4 x hx with q | q
    · rw [List.mem_singleton.1 q]; exact List.mem_cons_self ..
    · exact List.mem_cons_of_mem _ q
theorem packA_flat {v6 : Bool} : ∀ (l c0 : List Rb) (room : Int), (packA v6 c0 room l).flatten = c0 ++ l
  | [], c0, room => by simp [packA]
  | r :: l, c0, room => by
    rw [packA]; split
    · rw [List.flatten_cons, packA_flat l]; simp
    · rw [packA_flat l]; simp
theorem packL_flat {v6 : Bool} (l : List Rb) : (packL v6 l).flatten = l := by
  cases l with
  | nil => rfl
  | cons r l => rw [packL, packA_flat]; rfl
theorem sameTalk_ok {a b : Tk} {Q : Bool → Prop} (h : tb a = tb b) (h1 : a.2.2.2.2.2.2.2.2.1.2.length ≤ 1000) (h2 : a.2.2.2.2.2.2.2.2.2.2.length ≤ 1000) (h3 : ∀ r ∈ b.2.2.2.2.2.2.2.2.2.2, r.2.2.2.length ≤ 1000) (hQ : Q true) :
    ref08_Same_W a.1 a.2.1 a.2.2.1 a.2.2.2.1 a.2.2.2.2.1 a.2.2.2.2.2.1 a.2.2.2.2.2.2.1 a.2.2.2.2.2.2.2.1 a.2.2.2.2.2.2.2.2.1.2 a.2.2.2.2.2.2.2.2.2.2 b.1 b.2.1 b.2.2.1 b.2.2.2.1 b.2.2.2.2.1 b.2.2.2.2.2.1 b.2.2.2.2.2.2.1 b.2.2.2.2.2.2.2.1 b.2.2.2.2.2.2.2.2.1.2 b.2.2.2.2.2.2.2.2.2.2 Q := by
  unfold tb at h
  simp only [Prod.mk.injEq] at h
  obtain ⟨e1, e2, e3, e4, e5, e6, e7, e8, e9, e10⟩ := h
  rw [← e1, ← e2, ← e3, ← e4, ← e5, ← e6, ← e7, ← e8, ← e9]
  refine ⟨fun c => (by simp at c), fun _ => ⟨fun c => absurd rfl c, fun _ => ⟨fun c => absurd rfl c, fun _ => ⟨fun c => absurd rfl c, fun _ => ⟨fun c => absurd rfl c, fun _ => ⟨fun c => (by simp at c), fun _ => ⟨fun c => absurd rfl c, fun _ => ?_⟩⟩⟩⟩⟩⟩⟩
  rw [show (!decide (a.2.2.2.2.2.2.2.1 = a.2.2.2.2.2.2.2.1)) = false by simp]
  exact ⟨fun c => (by cases c), fun _ => sameA_ok (by omega) ⟨fun _ => sameRecs_ok e10 h3 h2 hQ, fun c => by cases c⟩⟩
theorem sameTalks_ok {a b : List Tk} {Q : Bool → Prop} (h : a.map tb = b.map tb) (hl : a.length ≤ 1000000) (h1 : ∀ t ∈ a, t.2.2.2.2.2.2.2.2.1.2.length ≤ 1000 ∧ t.2.2.2.2.2.2.2.2.2.2.length ≤ 1000) (h3 : ∀ t ∈ b, ∀ r ∈ t.2.2.2.2.2.2.2.2.2.2, r.2.2.2.length ≤ 1000) (hQ : Q true) : law20_SameTalks_W a b Q := by
  have hlen : a.length = b.length := by have := congrArg List.length h; simpa using this
  refine ⟨fun c => absurd (by omega) c, fun _ => loop_up1 a.length (fun _ => True) trivial fun K i hi _ hK => ?_⟩
  show law20_SameTalks_l1 a b Q _ (i : Int)
  unfold law20_SameTalks_l1
  refine ⟨fun c => ⟨by (first | omega | (unfold I64; omega) | (simp only [List.length_append, List.length_cons, List.length_nil, List.length_take, List.length_drop] at *; omega) | (unfold I64; simp only [List.length_append, List.length_cons, List.length_nil, List.length_take, List.length_drop] at *; omega)), by (first | omega | (unfold I64; omega) | (simp only [List.length_append, List.length_cons, List.length_nil, List.length_take, List.length_drop] at *; omega) | (unfold I64; simp only [List.length_append, List.length_cons, List.length_nil, List.length_take, List.length_drop] at *; omega)), ?_⟩, fun _ => hQ⟩
  have i1 : i < a.length := by omega
  have i2 : i < b.length := by omega
  rw [gi_nat i1, gi_nat i2]
  have e : tb a[i] = tb b[i] := by
    have := congrArg (fun z => z[i]?) h
    simp only [List.getElem?_map, List.getElem?_eq_getElem i1, List.getElem?_eq_getElem i2, Option.map_some, Option.some.injEq] at this
    exact this
  have q := h1 _ (List.getElem_mem i1)
  exact sameTalk_ok e q.1 q.2 (h3 _ (List.getElem_mem i2)) ⟨fun c => (by cases c), fun _ => ⟨by (first | omega | (unfold I64; omega) | (simp only [List.length_append, List.length_cons, List.length_nil, List.length_take, List.length_drop] at *; omega) | (unfold I64; simp only [List.length_append, List.length_cons, List.length_nil, List.length_take, List.length_drop] at *; omega)), hK (i + 1) (by omega) (by omega) trivial⟩⟩
def fewRb (r : Rec) : Rb := (r.1, r.2.1, r.2.2.2.take 6)
theorem recs08_ok {l : List Rec} {Q : List Rec → Prop} (h : ∀ r, r.map rk = (l.take 6).map fewRb → Q r) : law08_Records_W l 6 Q := by
  refine loop_up l.length (fun i s => s.map rk = (l.take i).map fewRb ∧ i ≤ 6) ⟨rfl, by omega⟩ fun K i s hi ⟨hs, h6⟩ hK => ?_
  have e : s.length = i := by have := congrArg List.length hs; simp at this; omega
  have fin : ¬ (i < l.length ∧ i < 6) → Q s := fun q => h s (by
    rw [hs]
    by_cases c : i = 6
    · rw [c]
    · rw [List.take_of_length_le (by omega), List.take_of_length_le (by omega)])
  show law08_Records_l1 l 6 Q _ s (i : Int)
  unfold law08_Records_l1 law08_Records_j1
  refine ⟨fun h1 => ⟨fun h2 => ⟨by (first | omega | (unfold I64; omega) | (simp only [List.length_append, List.length_cons, List.length_nil, List.length_take, List.length_drop] at *; omega) | (unfold I64; simp only [List.length_append, List.length_cons, List.length_nil, List.length_take, List.length_drop] at *; omega)), ?_⟩, fun h2 => ?_⟩, fun h1 => ⟨fun h => (by cases h), fun _ => fin (by omega)⟩⟩
  · have i1 : i < l.length := by omega
    have := of_decide_eq_true h2
    rw [gi_nat i1]
    refine addrs_ok fun v => ⟨by (first | omega | (unfold I64; omega) | (simp only [List.length_append, List.length_cons, List.length_nil, List.length_take, List.length_drop] at *; omega) | (unfold I64; simp only [List.length_append, List.length_cons, List.length_nil, List.length_take, List.length_drop] at *; omega)), by (first | omega | (unfold I64; omega) | (simp only [List.length_append, List.length_cons, List.length_nil, List.length_take, List.length_drop] at *; omega) | (unfold I64; simp only [List.length_append, List.length_cons, List.length_nil, List.length_take, List.length_drop] at *; omega)), hK (i + 1) _ (by omega) (by omega) ⟨?_, by omega⟩⟩
    rw [List.map_append, hs, List.take_succ_eq_append_getElem i1, List.map_append]; rfl
  · have := of_decide_eq_false h2; exact fin (by omega)
theorem few_again {r : List Rec} (h1 : r.length ≤ 6) (h2 : ∀ x ∈ r, x.2.2.2.length ≤ 6) : (r.take 6).map fewRb = r.map rk := by
  rw [List.take_of_length_le h1]
  refine List.map_congr_left fun x hx => ?_
  unfold fewRb rk; rw [List.take_of_length_le (h2 x hx)]
theorem tb_recs {v6 : Bool} {t : Tk} {c : List Rb} (h : tb t = mkT v6 c) : t.2.2.2.2.2.2.2.2.2.2.map rk = c := congrArg (fun z : Tb => z.2.2.2.2.2.2.2.2.2) h
theorem hostPacks_ok {v6 : Bool} {l : List Rec} {times : Int} {Q : Bool → Prop} (ht : 0 ≤ times ∧ times ≤ 255) (h : Q true) : law20_HostPacks_W v6 l times Q := by
  have htm := tmodR (a := 30) (by decide) ht.1
  obtain ⟨T, hT⟩ : ∃ T : Nat, (T : Int) = times.tmod 30 := ⟨(times.tmod 30).toNat, by omega⟩
  refine recs08_ok fun r hr => ?_
  have rl : r.length ≤ 6 := by have := congrArg List.length hr; simp at this; omega
  have r6 : ∀ x ∈ r, x.2.2.2.length ≤ 6 := by
    intro x hx
    have : rk x ∈ (l.take 6).map fewRb := by rw [← hr]; exact List.mem_map_of_mem hx
    obtain ⟨y, _, e⟩ := List.mem_map.1 this
    have e2 : x.2.2.2 = y.2.2.2.take 6 := (congrArg (fun z : Rb => z.2.2) e).symm
    rw [e2, List.length_take]; omega
  refine loop_up1 r.length (fun i => ∀ x ∈ r.take i, rgB v6 (rk x) = true) (by simp) fun K i hi hI hK => ?_
  show law20_HostPacks_l1 v6 times Q r _ (i : Int)
  unfold law20_HostPacks_l1
  refine ⟨fun d => ⟨by (first | omega | (unfold I64; omega) | (simp only [List.length_append, List.length_cons, List.length_nil, List.length_take, List.length_drop] at *; omega) | (unfold I64; simp only [List.length_append, List.length_cons, List.length_nil, List.length_take, List.length_drop] at *; omega)), by (first | omega | (unfold I64; omega) | (simp only [List.length_append, List.length_cons, List.length_nil, List.length_take, List.length_drop] at *; omega) | (unfold I64; simp only [List.length_append, List.length_cons, List.length_nil, List.length_take, List.length_drop] at *; omega)), ?_⟩, fun d => ?_⟩
  · have i1 : i < r.length := by omega
    have hct : cut r (i : Int) ((i : Int) + 1) = [r[i]] := by
      unfold cut; rw [show ((i : Int) + 1).toNat = i + 1 by omega, Int.toNat_natCast, List.take_succ_eq_append_getElem i1, List.drop_left' (by rw [List.length_take]; omega)]
    rw [hct]
    have hlast : ∀ {Q' : Int → Prop}, Q' (lastV v6) → ref16_Last_W v6 Q' := fun h => ⟨fun c => by subst c; exact h, fun c => by subst c; exact h⟩
    refine hlast (talkR_ok (by intro x hx; rw [List.mem_singleton.1 hx]; have := r6 _ (List.getElem_mem i1); omega) (by simp) (fun _ => ⟨fun _ => livesH_ok h, fun c => by cases c⟩) fun hg => ⟨fun _ => livesH_ok h, fun _ => hK (i + 1) (by omega) (by omega) ?_⟩)
    intro x hx; rw [List.take_succ_eq_append_getElem i1] at hx
    rcases List.mem_append.1 hx with e | e
    · exact hI x e
    · rw [List.mem_singleton.1 e]; exact hg _ (List.mem_singleton.2 rfl)
  · have i1 : i = r.length := by omega
    subst i1
    rw [List.take_length] at hI
    refine loop_by (fun s => s.2.2) T (fun k s => s.1 = r ∧ s.2.1.length ≤ 6 * k ∧ ∀ x ∈ s.2.1, rgB v6 (rk x) = true ∧ x.2.2.2.length ≤ 6) rfl ⟨rfl, by simp, by simp⟩ ?_
    rintro K2 k ⟨l2, all, _⟩ rfl hk ⟨e1, hal, hall⟩ hK2
    replace e1 : l2 = r := e1
    subst e1
    replace hal : all.length ≤ 6 * k := hal
    replace hall : ∀ x ∈ all, rgB v6 (rk x) = true ∧ x.2.2.2.length ≤ 6 := hall
    show law20_HostPacks_l3 v6 times Q _ l2 all (k : Int)
    unfold law20_HostPacks_l3
    rw [← hT]
    refine ⟨by (first | omega | (unfold I64; omega) | (simp only [List.length_append, List.length_cons, List.length_nil, List.length_take, List.length_drop] at *; omega) | (unfold I64; simp only [List.length_append, List.length_cons, List.length_nil, List.length_take, List.length_drop] at *; omega)), fun c => recs08_ok fun s hs => ?_, fun c => ?_⟩
    · rw [few_again rl r6] at hs
      have sl : s.length ≤ 6 := by have := congrArg List.length hs; simp at this; omega
      refine ⟨by omega, by (first | omega | (unfold I64; omega) | (simp only [List.length_append, List.length_cons, List.length_nil, List.length_take, List.length_drop] at *; omega) | (unfold I64; simp only [List.length_append, List.length_cons, List.length_nil, List.length_take, List.length_drop] at *; omega)), hK2 (k + 1) _ (by simp) (by omega) (by omega) ⟨rfl, by show (all ++ s).length ≤ _; rw [List.length_append]; omega, ?_⟩⟩
      intro x hx
      rcases List.mem_append.1 hx with e | e
      · exact hall x e
      · have : rk x ∈ l2.map rk := by rw [← hs]; exact List.mem_map_of_mem e
        obtain ⟨y, hy, ey⟩ := List.mem_map.1 this
        exact ⟨by rw [← ey]; exact hI y hy, by have := r6 y hy; have e3 : y.2.2.2 = x.2.2.2 := congrArg (fun z : Rb => z.2.2) ey; rw [← e3]; exact this⟩
    · have k1 : k = T := by omega
      have hall5 : ∀ x ∈ all, x.2.2.2.length ≤ 100000 := fun x hx => by have := (hall x hx).2; omega
      have halln : all.length ≤ 200 := by omega
      have hsz : ∀ x ∈ all.map rk, szB v6 x ≤ 1392 := by
        intro x hx; obtain ⟨y, hy, rfl⟩ := List.mem_map.1 hx
        have := (hall y hy).2
        unfold szB; show (if v6 = true then 20 + 16 * (y.2.2.2.length : Int) else 8 + 4 * (y.2.2.2.length : Int)) ≤ 1392
        split <;> omega
      have hmem := packL_mem (v6 := v6) hsz
      refine packP_ok (by omega) hall5 fun out ho => ?_
      have ol : out.length = (packL v6 (all.map rk)).length := by have := congrArg List.length ho; simpa using this
      have oln : out.length ≤ 200 := by have := packL_len v6 (all.map rk); rw [List.length_map] at this; omega
      have rep : ∀ t ∈ out, ∃ c ∈ packL v6 (all.map rk), tb t = mkT v6 c := by
        intro t ht
        have : tb t ∈ (packL v6 (all.map rk)).map (mkT v6) := by rw [← ho]; exact List.mem_map_of_mem ht
        obtain ⟨c, hc, e⟩ := List.mem_map.1 this
        exact ⟨c, hc, e.symm⟩
      have inall : ∀ t ∈ out, ∀ x ∈ t.2.2.2.2.2.2.2.2.2.2, ∃ y ∈ all, rk y = rk x := by
        intro t ht x hx
        obtain ⟨c, hc, e⟩ := rep t ht
        have : rk x ∈ c := by rw [← tb_recs e]; exact List.mem_map_of_mem hx
        exact List.mem_map.1 ((hmem c hc).2.2.2 _ this)
      refine loop_up out.length (fun i s => s.map rk = ((packL v6 (all.map rk)).take i).flatten ∧ s.length ≤ 64 * i) ⟨by simp, by simp⟩ fun K3 i s hi ⟨hs, hsl⟩ hK3 => ?_
      show law20_HostPacks_l4 v6 Q all out _ s (i : Int)
      unfold law20_HostPacks_l4
      refine ⟨fun c2 => ⟨by (first | omega | (unfold I64; omega) | (simp only [List.length_append, List.length_cons, List.length_nil, List.length_take, List.length_drop] at *; omega) | (unfold I64; simp only [List.length_append, List.length_cons, List.length_nil, List.length_take, List.length_drop] at *; omega)), ?_⟩, fun c2 => ?_⟩
      · have i1 : i < out.length := by omega
        rw [gi_nat i1]
        obtain ⟨c, hc, e⟩ := rep _ (List.getElem_mem i1)
        have hq := hmem c hc
        have hrec := tb_recs e
        have hrl : out[i].2.2.2.2.2.2.2.2.2.2.length = c.length := by rw [← hrec, List.length_map]
        have hci : (packL v6 (all.map rk))[i]'(by omega) = c := by
          have h1 := congrArg (fun z => z[i]?) ho
          simp only [List.getElem?_map, List.getElem?_eq_getElem i1, List.getElem?_eq_getElem (show i < (packL v6 (all.map rk)).length by omega), Option.map_some, Option.some.injEq] at h1
          rw [e] at h1
          exact (congrArg (fun z : Tb => z.2.2.2.2.2.2.2.2.2) h1).symm
        have e' := e
        unfold tb mkT at e'
        simp only [Prod.mk.injEq] at e'
        obtain ⟨q1, q2, q3, q4, q5, q6, q7, q8, q9, _⟩ := e'
        rw [q1, q2, q3, q4, q5, q6, q7, q8, q9]
        refine talkR_ok (fun x hx => ?_) (by omega) (fun ⟨x, hx, q⟩ => ?_) fun _ => ?_
        · obtain ⟨y, hy, ey⟩ := inall _ (List.getElem_mem i1) x hx
          have e3 : y.2.2.2 = x.2.2.2 := congrArg (fun z : Rb => z.2.2) ey
          rw [← e3]; exact hall5 y hy
        · obtain ⟨y, hy, ey⟩ := inall _ (List.getElem_mem i1) x hx
          rw [← ey, (hall y hy).1] at q; cases q
        · rw [hrec, decide_eq_true (show (out[i].2.2.2.2.2.2.2.2.2.2.length : Int) < 65 by omega), decide_eq_true (show 8 + sumB v6 c < 1401 by omega)]
          refine ⟨fun q => (by cases q), fun _ => ?_⟩
          have hpos : out[i].2.2.2.2.2.2.2.2.2.2.length ≠ 0 := by rw [hrl]; exact fun q => hq.1 (List.length_eq_zero_iff.1 q)
          rw [decide_eq_false (show ¬ (out[i].2.2.2.2.2.2.2.2.2.2.length : Int) = 0 by omega)]
          refine ⟨fun q => (by cases q), fun _ => ?_⟩
          rw [gi_nat i1]
          refine ⟨by (first | omega | (unfold I64; omega) | (simp only [List.length_append, List.length_cons, List.length_nil, List.length_take, List.length_drop] at *; omega) | (unfold I64; simp only [List.length_append, List.length_cons, List.length_nil, List.length_take, List.length_drop] at *; omega)), by omega, by (first | omega | (unfold I64; omega) | (simp only [List.length_append, List.length_cons, List.length_nil, List.length_take, List.length_drop] at *; omega) | (unfold I64; simp only [List.length_append, List.length_cons, List.length_nil, List.length_take, List.length_drop] at *; omega)), hK3 (i + 1) _ (by omega) (by omega) ⟨?_, by rw [List.length_append]; omega⟩⟩
          rw [List.map_append, hs, hrec, List.take_succ_eq_append_getElem (show i < (packL v6 (all.map rk)).length by omega), List.flatten_append, hci]; simp
      · have i1 : i = out.length := by omega
        have hsaid : s.map rk = all.map rk := by
          rw [hs, List.take_of_length_le (by omega), packL_flat]
        refine packRef_ok (by omega) hall5 fun out2 ho2 => ?_
        refine sameTalks_ok (ho.trans ho2.symm) (by omega) (fun t ht => ?_) (fun t ht x hx => ?_) ⟨fun _ => sameRecs_ok hsaid (fun x hx => by have := (hall x hx).2; omega) (by have e0 := congrArg List.length hsaid; rw [List.length_map, List.length_map] at e0; omega) ⟨fun _ => livesH_ok h, fun q => (by cases q)⟩, fun q => (by cases q)⟩
        · obtain ⟨c, hc, e⟩ := rep t ht
          have hrec := tb_recs e
          have := (hmem c hc).2.1
          have h9 : t.2.2.2.2.2.2.2.2.1.2 = [] := congrArg (fun z : Tb => z.2.2.2.2.2.2.2.2.1) e
          refine ⟨by rw [h9]; simp, ?_⟩
          have hrl : t.2.2.2.2.2.2.2.2.2.2.length = c.length := by rw [← hrec, List.length_map]
          omega
        · have : tb t ∈ (packL v6 (all.map rk)).map (mkT v6) := by rw [← ho2]; exact List.mem_map_of_mem ht
          obtain ⟨c, hc, e⟩ := List.mem_map.1 this
          have hrec := tb_recs e.symm
          have h1 : rk x ∈ c := by rw [← hrec]; exact List.mem_map_of_mem hx
          obtain ⟨y, hy, ey⟩ := List.mem_map.1 ((hmem c hc).2.2.2 _ h1)
          have e3 : y.2.2.2 = x.2.2.2 := congrArg (fun z : Rb => z.2.2) ey
          rw [← e3]; have := (hall y hy).2; omega
end Go.Wk
