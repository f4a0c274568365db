/- Plain words: two sets gone through at once; who is in a set; which lists are sets. -/
import Derived.Test.YtokodpeigafenaaDoorMrgP
set_option linter.unusedSimpArgs false
set_option linter.unusedVariables false
set_option linter.unusedSectionVars false
namespace Go.Wk
open Go.HL
variable [DM]
def sel (f : Bool) (x : Ad) : List Ad := if f then [x] else []
def selL (f : Bool) (a : List Ad) : List Ad := if f then a else []
def walkL (f g h : Bool) : List Ad → List Ad → List Ad
  | [], b => selL h b
  | x :: a, [] => selL f (x :: a)
  | x :: a, y :: b => if aCmp x y < 0 then sel f x ++ walkL f g h a (y :: b) else if 0 < aCmp x y then sel h y ++ walkL f g h (x :: a) b else sel g x ++ walkL f g h a b
termination_by a b => a.length + b.length
theorem mem_sel {f : Bool} {x z : Ad} : z ∈ sel f x ↔ f = true ∧ z = x := by unfold sel; cases f <;> simp
theorem mem_selL {f : Bool} {a : List Ad} {z : Ad} : z ∈ selL f a ↔ f = true ∧ z ∈ a := by unfold selL; cases f <;> simp
theorem ASet.tail {x : Ad} {a : List Ad} (h : ASet (x :: a)) : ASet a := ⟨(List.pairwise_cons.1 h.rise).2, fun y hy => h.good y (by simp [hy])⟩
theorem ASet.head {x : Ad} {a : List Ad} (h : ASet (x :: a)) : ∀ z ∈ a, aLt x z := (List.pairwise_cons.1 h.rise).1
theorem aLt_ne {x y : Ad} (h : aLt x y) : x ≠ y := fun e => by subst e; exact aLt_irrefl _ h
theorem walkL_set (f g h : Bool) : ∀ (n : Nat) (a b : List Ad), a.length + b.length ≤ n → ASet a → ASet b →
    (∀ z, z ∈ walkL f g h a b ↔ (f = true ∧ z ∈ a ∧ z ∉ b) ∨ (g = true ∧ z ∈ a ∧ z ∈ b) ∨ (h = true ∧ z ∉ a ∧ z ∈ b)) ∧ (walkL f g h a b).Pairwise aLt
  | n, [], b, hn, ha, hb => by
    rw [walkL]
    refine ⟨fun z => by rw [mem_selL]; simp, ?_⟩
    unfold selL; split
    · exact hb.rise
    · exact List.Pairwise.nil
  | n, x :: a, [], hn, ha, hb => by
    rw [walkL]
    refine ⟨fun z => by rw [mem_selL]; simp, ?_⟩
    unfold selL; split
    · exact ha.rise
    · exact List.Pairwise.nil
  | 0, x :: a, y :: b, hn, ha, hb => by simp at hn
  | n + 1, x :: a, y :: b, hn, ha, hb => by
    simp only [List.length_cons] at hn
    rw [walkL]
    have hxa : x ∉ a := fun q => aLt_irrefl _ (ha.head x q)
    have hyb : y ∉ b := fun q => aLt_irrefl _ (hb.head y q)
    split
    · rename_i c
      have c' : aLt x y := c
      obtain ⟨i1, i2⟩ := walkL_set f g h n a (y :: b) (by simp only [List.length_cons]; omega) ha.tail hb
      have hxb : ∀ z ∈ y :: b, aLt x z := by
        intro z hz
        rcases List.mem_cons.1 hz with rfl | hz
        · exact c'
        · exact aLt_trans _ _ _ c' (hb.head z hz)
      have hxn : x ∉ y :: b := fun q => aLt_irrefl _ (hxb x q)
      refine ⟨fun z => ?_, ?_⟩
      · rw [List.mem_append, mem_sel, i1]
        by_cases e : z = x
        · subst e; simp [hxa, hxn]
        · simp [e]
      · rw [List.pairwise_append]
        refine ⟨by unfold sel; split <;> simp, i2, fun p hp q hq => ?_⟩
        obtain ⟨_, rfl⟩ := mem_sel.1 hp
        rcases (i1 q).1 hq with ⟨_, k, _⟩ | ⟨_, k, _⟩ | ⟨_, _, k⟩
        · exact ha.head q k
        · exact ha.head q k
        · exact hxb q k
    · rename_i c
      split
      · rename_i d
        have d' : aLt y x := by unfold aLt; have := aCmp_flip x y; omega
        obtain ⟨i1, i2⟩ := walkL_set f g h n (x :: a) b (by simp only [List.length_cons]; omega) ha hb.tail
        have hya : ∀ z ∈ x :: a, aLt y z := by
          intro z hz
          rcases List.mem_cons.1 hz with rfl | hz
          · exact d'
          · exact aLt_trans _ _ _ d' (ha.head z hz)
        have hyn : y ∉ x :: a := fun q => aLt_irrefl _ (hya y q)
        refine ⟨fun z => ?_, ?_⟩
        · rw [List.mem_append, mem_sel, i1]
          by_cases e : z = y
          · subst e; simp [hyb, hyn]
          · simp [e]
        · rw [List.pairwise_append]
          refine ⟨by unfold sel; split <;> simp, i2, fun p hp q hq => ?_⟩
          obtain ⟨_, rfl⟩ := mem_sel.1 hp
          rcases (i1 q).1 hq with ⟨_, k, _⟩ | ⟨_, k, _⟩ | ⟨_, _, k⟩
          · exact hya q k
          · exact hya q k
          · exact hb.head q k
      · rename_i d
        have exy : x = y := aCmp_eq (ha.good x (by simp)) (hb.good y (by simp)) (by omega)
        subst exy
        obtain ⟨i1, i2⟩ := walkL_set f g h n a b (by omega) ha.tail hb.tail
        refine ⟨fun z => ?_, ?_⟩
        · rw [List.mem_append, mem_sel, i1]
          by_cases e : z = x
          · subst e; simp [hxa, hyb]
          · simp [e]
        · rw [List.pairwise_append]
          refine ⟨by unfold sel; split <;> simp, i2, fun p hp q hq => ?_⟩
          obtain ⟨_, rfl⟩ := mem_sel.1 hp
          rcases (i1 q).1 hq with ⟨_, k, _⟩ | ⟨_, k, _⟩ | ⟨_, _, k⟩
          · exact ha.head q k
          · exact ha.head q k
          · exact hb.head q k
theorem walkL_aset (f g h : Bool) {a b : List Ad} (ha : ASet a) (hb : ASet b) : ASet (walkL f g h a b) :=
  ⟨(walkL_set f g h _ a b (Nat.le_refl _) ha hb).2, fun x hx => by
    rcases ((walkL_set f g h _ a b (Nat.le_refl _) ha hb).1 x).1 hx with ⟨_, k, _⟩ | ⟨_, k, _⟩ | ⟨_, _, k⟩
    · exact ha.good x k
    · exact ha.good x k
    · exact hb.good x k⟩
theorem walkL_or {a b : List Ad} (ha : ASet a) (hb : ASet b) : walkL true true true a b = orL a b :=
  (walkL_aset _ _ _ ha hb).ext (orL_set a b) fun x => by rw [(walkL_set _ _ _ _ a b (Nat.le_refl _) ha hb).1, mem_orL ha hb]; by_cases p : x ∈ a <;> by_cases q : x ∈ b <;> simp [p, q]
theorem walkL_and {a b : List Ad} (ha : ASet a) (hb : ASet b) : walkL false true false a b = andL a b :=
  (walkL_aset _ _ _ ha hb).ext (ha.filter _) fun x => by rw [(walkL_set _ _ _ _ a b (Nat.le_refl _) ha hb).1]; show _ ↔ x ∈ andL a b; rw [mem_andL]; simp
theorem walkL_minus {a b : List Ad} (ha : ASet a) (hb : ASet b) : walkL true false false a b = minusL a b :=
  (walkL_aset _ _ _ ha hb).ext (ha.filter _) fun x => by rw [(walkL_set _ _ _ _ a b (Nat.le_refl _) ha hb).1]; show _ ↔ x ∈ minusL a b; rw [mem_minusL]; simp
/-! ### The walk -/
theorem takeP_ok {x : Ad} {is : Bool} {c : List Ad} {Q : List Ad → Prop} (hc : c.length ≤ 1000000) (h : Q (c ++ sel is x)) : srcs_walk_1_api_Addr_W x is c Q := by
  unfold srcs_walk_1_api_Addr_W
  refine ⟨fun q => ⟨by (first | omega | (unfold I64; omega) | (simp only [List.length_append, List.length_cons, List.length_nil, List.length_take, List.length_drop] at *; omega) | (unfold I64; simp only [List.length_append, List.length_cons, List.length_nil, List.length_take, List.length_drop] at *; omega)), by subst q; exact h⟩, fun q => by subst q; simpa [sel] using h⟩
theorem sel_snoc {f : Bool} {a : List Ad} {i : Nat} (h : i < a.length) : selL f (a.take (i + 1)) = selL f (a.take i) ++ sel f a[i] := by
  unfold selL sel; split
  · rw [List.take_succ_eq_append_getElem h]
  · rfl
theorem selL_len (f : Bool) (a : List Ad) : (selL f a).length ≤ a.length := by unfold selL; split <;> simp
theorem tailP_ok {f h : Bool} {a b out : List Ad} {Q : List Ad → Prop} (hl : out.length + a.length + b.length ≤ 100000) (hQ : Q (out ++ selL f a ++ selL h b)) :
    loopW (fun (K_2 : (List T_api_Addr × Int) → Prop) (s : List T_api_Addr × Int) => srcs_walk_api_Addr_l2 f h Q a b (fun out_0_2 n_1 => K_2 (out_0_2, n_1)) s.1 s.2) (out, 0) := by
  refine loop_up a.length (fun i s => s = out ++ selL f (a.take i)) (by unfold selL; split <;> simp) fun K i s hi hs hK => ?_
  have e : s.length ≤ out.length + a.length := by rw [hs, List.length_append]; have := selL_len f (a.take i); rw [List.length_take] at this; omega
  simp only
  unfold srcs_walk_api_Addr_l2
  refine ⟨fun c => ⟨by (first | omega | (unfold I64; omega) | (simp only [List.length_append, List.length_cons, List.length_nil, List.length_take, List.length_drop] at *; omega) | (unfold I64; simp only [List.length_append, List.length_cons, List.length_nil, List.length_take, List.length_drop] at *; omega)), takeP_ok (by omega) ⟨by (first | omega | (unfold I64; omega) | (simp only [List.length_append, List.length_cons, List.length_nil, List.length_take, List.length_drop] at *; omega) | (unfold I64; simp only [List.length_append, List.length_cons, List.length_nil, List.length_take, List.length_drop] at *; omega)), ?_⟩⟩, fun c => ?_⟩
  · rw [gi_nat (by omega)]
    refine hK (i + 1) _ (by omega) (by omega) ?_
    rw [hs, sel_snoc (by omega), List.append_assoc]
  · rw [List.take_of_length_le (by omega)] at hs
    subst hs
    refine loop_up b.length (fun i s => s = out ++ selL f a ++ selL h (b.take i)) (by unfold selL; split <;> simp) fun K i s hi hs hK => ?_
    have e : s.length ≤ out.length + a.length + b.length := by rw [hs, List.length_append, List.length_append]; have := selL_len f a; have := selL_len h (b.take i); rw [List.length_take] at this; omega
    simp only
    unfold srcs_walk_api_Addr_l3
    refine ⟨fun c => ⟨by (first | omega | (unfold I64; omega) | (simp only [List.length_append, List.length_cons, List.length_nil, List.length_take, List.length_drop] at *; omega) | (unfold I64; simp only [List.length_append, List.length_cons, List.length_nil, List.length_take, List.length_drop] at *; omega)), takeP_ok (by omega) ⟨by (first | omega | (unfold I64; omega) | (simp only [List.length_append, List.length_cons, List.length_nil, List.length_take, List.length_drop] at *; omega) | (unfold I64; simp only [List.length_append, List.length_cons, List.length_nil, List.length_take, List.length_drop] at *; omega)), ?_⟩⟩, fun c => ?_⟩
    · rw [gi_nat (by omega)]
      refine hK (i + 1) _ (by omega) (by omega) ?_
      rw [hs, sel_snoc (by omega), ← List.append_assoc]
    · rw [List.take_of_length_le (by omega)] at hs
      rw [hs]; exact hQ
theorem cut1 {x : Ad} {a : List Ad} : cut (x :: a) 1 ((x :: a).length : Int) = a := by
  have := cutn (x :: a) 1; simpa using this
theorem walkP_ok {f g h : Bool} {a b : List Ad} {Q : List Ad → Prop} (hl : a.length + b.length ≤ 10000) (hQ : Q (walkL f g h a b)) : srcs_walk_api_Addr_W a b aCmp f g h Q := by
  refine ⟨fun s => s.2.2 ++ walkL f g h s.1 s.2.1 = walkL f g h a b ∧ s.2.2.length + s.1.length + s.2.1.length ≤ 10000, fun s => s.1.length + s.2.1.length, ⟨rfl, by simpa using hl⟩, ?_⟩
  rintro ⟨x, y, out⟩ ⟨hw, hn⟩
  simp only at hw hn ⊢
  unfold srcs_walk_api_Addr_l1 srcs_walk_api_Addr_j1
  have fin : x = [] ∨ y = [] → Q (out ++ selL f x ++ selL h y) := by
    intro q
    have : walkL f g h x y = selL f x ++ selL h y := by
      rcases x with _ | ⟨u, x⟩
      · rw [walkL]; unfold selL; split <;> simp
      · rcases q with q | rfl
        · cases q
        · rw [walkL]; unfold selL; split <;> simp
    rw [List.append_assoc, ← this, hw]; exact hQ
  refine ⟨fun c => ⟨fun d => ?_, fun d => tailP_ok (by omega) (fin (.inr ?_))⟩, fun c => ⟨fun d => (by cases d), fun _ => tailP_ok (by omega) (fin (.inl ?_))⟩⟩
  · have d := of_decide_eq_true d
    rcases x with _ | ⟨u, x⟩
    · simp at c
    · rcases y with _ | ⟨v, y⟩
      · simp at d
      · have g0 : ∀ (z : Ad) (r : List Ad), gi (z :: r) 0 = z := fun _ _ => rfl
        rw [g0, g0, cut1, cut1]
        simp only [List.length_cons] at hn c d ⊢
        rw [walkL] at hw
        refine ⟨by omega, by omega, fun p => ?_, fun p => ⟨fun q => ?_, fun q => ?_⟩⟩
        · rw [if_pos p] at hw
          refine takeP_ok (by omega) ⟨by omega, ⟨by rw [List.append_assoc]; exact hw, ?_⟩, by omega⟩
          rw [List.length_append]; have : (sel f u).length ≤ 1 := by unfold sel; split <;> simp
          first | omega | (simp only [List.length_cons]; omega)
        · rw [if_neg p, if_pos q] at hw
          refine takeP_ok (by omega) ⟨by omega, ⟨by rw [List.append_assoc]; exact hw, ?_⟩, by omega⟩
          rw [List.length_append]; have : (sel h v).length ≤ 1 := by unfold sel; split <;> simp
          first | omega | (simp only [List.length_cons]; omega)
        · rw [if_neg p, if_neg q] at hw
          refine takeP_ok (by omega) ⟨by omega, by omega, ⟨by rw [List.append_assoc]; exact hw, ?_⟩, by omega⟩
          rw [List.length_append]; have : (sel g u).length ≤ 1 := by unfold sel; split <;> simp
          omega
  · have := of_decide_eq_false d
    exact List.length_eq_zero_iff.1 (by omega)
  · exact List.length_eq_zero_iff.1 (by omega)
theorem orP_ok {a b : List Ad} {Q : List Ad → Prop} (ha : ASet a) (hb : ASet b) (hl : a.length + b.length ≤ 10000) (h : Q (orL a b)) : srcs_Or_W a b Q :=
  ⟨aCmp, fun _ _ => cmpP_ok rfl, walkP_ok hl (by rw [walkL_or ha hb]; exact h)⟩
theorem andP_ok {a b : List Ad} {Q : List Ad → Prop} (ha : ASet a) (hb : ASet b) (hl : a.length + b.length ≤ 10000) (h : Q (andL a b)) : srcs_And_W a b Q :=
  ⟨aCmp, fun _ _ => cmpP_ok rfl, walkP_ok hl (by rw [walkL_and ha hb]; exact h)⟩
theorem minusP_ok {a b : List Ad} {Q : List Ad → Prop} (ha : ASet a) (hb : ASet b) (hl : a.length + b.length ≤ 10000) (h : Q (minusL a b)) : srcs_Minus_W a b Q :=
  ⟨aCmp, fun _ _ => cmpP_ok rfl, walkP_ok hl (by rw [walkL_minus ha hb]; exact h)⟩
/-! ### Any addresses as a set -/
theorem swo_ad : Swo aCmp where
  irrefl x := by unfold Go.Proofs.ltOf; rw [decide_eq_false_iff_not, aCmp_refl]; omega
  trans x y z := by unfold Go.Proofs.ltOf; rw [decide_eq_true_eq, decide_eq_true_eq, decide_eq_true_eq]; exact aLt_trans x y z
  ntrans x y z := by
    unfold Go.Proofs.ltOf
    rw [decide_eq_false_iff_not, decide_eq_false_iff_not, decide_eq_false_iff_not]
    intro h k q
    -- x is not before y, y not before z: x is not before z
    have h1 := aCmp_flip x y
    have h2 := aCmp_flip y z
    rcases Int.lt_trichotomy (aCmp x y) 0 with c | c | c
    · exact h c
    · have e := scmp_eq _ _ c
      apply k; unfold aCmp at q ⊢; rw [← e]; exact q
    · have c' : aLt y x := by unfold aLt; omega
      exact k (aLt_trans y x z c' q)
theorem ofP_ok {l : List Ad} {Q : List Ad → Prop} (hl : l.length ≤ 10000) (h : Q (ofL l)) : srcs_Of_W l Q := by
  refine clone_Ad (by omega) ⟨fun x => !aGood x, fun x => goodP_ok rfl, deleteFunc_Ad (by omega) ⟨aCmp, swo_ad, fun x y => cmpP_ok rfl, ?_, fun m hp hs => compact_Ad (by
    have := hp.length_eq; have h2 := List.length_filter_le (fun x => !(!aGood x)) l; omega) ?_⟩⟩
  · have h2 := List.length_filter_le (fun x => !(!aGood x)) l; omega
  · have hmem : ∀ x, x ∈ m ↔ x ∈ l ∧ aGood x = true := fun x => by rw [hp.mem_iff, List.mem_filter]; simp
    have hset : ASet (dd m) := by
      -- neighbours that stand alike are one, all being good
      have key : ∀ (m : List Ad), (∀ x ∈ m, aGood x = true) → m.Pairwise (fun x y => ¬ aCmp y x < 0) → (dd m).Pairwise aLt ∧ ∀ x ∈ dd m, ∀ y, m.getLast? = some y → x = y ∨ aLt x y := by
        intro m
        induction m using snoc_ind with
        | h0 => intro _ _; exact ⟨List.Pairwise.nil, fun x hx => absurd hx (by simp [dd])⟩
        | h1 l y ih =>
          intro hg hs
          rw [List.pairwise_append] at hs
          obtain ⟨i1, i2⟩ := ih (fun x hx => hg x (by simp [hx])) hs.1
          have hy : aGood y = true := hg y (by simp)
          have key : ∀ x ∈ dd l, x = y ∨ aLt x y := by
            intro x hx
            have hx' := (dd_mem l x).1 hx
            have hn := hs.2.2 x hx' y (by simp)
            by_cases e : aLt x y
            · exact .inr e
            · left
              have := aCmp_flip x y
              exact aCmp_eq (hg x (by simp [hx'])) hy (by unfold aLt at e; omega)
          rw [dd_snoc]
          refine ⟨?_, fun x hx z hz => ?_⟩
          · split
            · exact i1
            · rename_i hne
              rw [List.pairwise_append]
              refine ⟨i1, by simp, fun x hx z hz => ?_⟩
              rw [List.mem_singleton] at hz; subst hz
              rcases key x hx with rfl | e
              · exfalso
                have hl := dd_last l
                have hxl := (dd_mem l x).1 hx
                rcases hq : l.getLast? with _ | q
                · rw [List.getLast?_eq_none_iff] at hq; subst hq; cases hxl
                · rcases i2 x hx q hq with rfl | e
                  · rw [hl] at hne; exact hne hq
                  · exact hs.2.2 q (List.mem_of_getLast? hq) x (by simp) e
              · exact e
          · simp at hz; subst hz
            split at hx
            · exact key x hx
            · rw [List.mem_append, List.mem_singleton] at hx
              rcases hx with hx | rfl
              · exact key x hx
              · exact .inl rfl
      exact ⟨(key m (fun x hx => ((hmem x).1 hx).2) hs).1, fun x hx => ((hmem x).1 ((dd_mem m x).1 hx)).2⟩
    have : dd m = ofL l := hset.ext (ofL_set l) fun x => by rw [dd_mem, hmem, mem_ofL]
    rw [this]; exact h
/-! ### Who is in a set -/
theorem mid_eq {i j : Int} (h0 : 0 ≤ i + j) (h1 : i + j ≤ 4611686018427387904) : (IntKind.u64.wrap (i + j)).fdiv (2 ^ (min (1 : Int).toNat IntKind.u64.bits)) = (i + j) / 2 := by
  have hw : IntKind.u64.wrap (i + j) = i + j := by
    unfold IntKind.wrap; simp only [IntKind.signed, IntKind.bits, Bool.false_eq_true, if_false]
    first | exact Int.emod_eq_of_lt h0 (by omega) | (simp; omega)
  rw [hw, show ((2 : Int) ^ (min (1 : Int).toNat IntKind.u64.bits)) = 2 from rfl, Int.fdiv_eq_ediv_of_nonneg _ (by decide)]
theorem hasP_ok {l : List Ad} {a : Ad} {Q : Bool → Prop} (hs : ASet l) (hl : l.length ≤ 1000000) (h : Q (aIn l a)) : srcs_Has_W l a Q := by
  refine ⟨aCmp, fun _ _ => cmpP_ok rfl, ?_⟩
  unfold slices_BinarySearchFunc_s_api_Addr_api_Addr_api_Addr_W
  refine ⟨fun s => ∃ i j : Nat, s.1 = i ∧ s.2 = j ∧ i ≤ j ∧ j ≤ l.length ∧ (∀ k (hk : k < l.length), k < i → aCmp l[k] a < 0) ∧ (∀ k (hk : k < l.length), j ≤ k → ¬ aCmp l[k] a < 0), fun s => (s.2 - s.1).toNat, ⟨0, l.length, rfl, rfl, Nat.zero_le _, Nat.le_refl _, fun k hk h => by omega, fun k hk h => by omega⟩, ?_⟩
  rintro ⟨_, _⟩ ⟨i, j, rfl, rfl, hij, hj, h1, h2⟩
  simp only
  unfold slices_BinarySearchFunc_s_api_Addr_api_Addr_api_Addr_l1
  have hrise : ∀ p q (hp : p < l.length) (hq : q < l.length), p < q → aLt l[p] l[q] := fun p q hp hq hpq => List.pairwise_iff_getElem.1 hs.rise p q hp hq hpq
  refine ⟨fun c => ?_, fun c => ?_⟩
  · rw [mid_eq (by omega) (by omega)]
    obtain ⟨m, hm, hm1, hm2⟩ : ∃ m : Nat, ((i : Int) + (j : Int)) / 2 = m ∧ i ≤ m ∧ m < j := ⟨(i + j) / 2, by omega, by omega, by omega⟩
    rw [hm, gi_nat (show m < l.length by omega)]
    refine ⟨by (first | omega | (unfold I64; omega) | (simp only [List.length_append, List.length_cons, List.length_nil, List.length_take, List.length_drop] at *; omega) | (unfold I64; simp only [List.length_append, List.length_cons, List.length_nil, List.length_take, List.length_drop] at *; omega)), by (first | omega | (unfold I64; omega) | (simp only [List.length_append, List.length_cons, List.length_nil, List.length_take, List.length_drop] at *; omega) | (unfold I64; simp only [List.length_append, List.length_cons, List.length_nil, List.length_take, List.length_drop] at *; omega)), by (first | omega | (unfold I64; omega) | (simp only [List.length_append, List.length_cons, List.length_nil, List.length_take, List.length_drop] at *; omega) | (unfold I64; simp only [List.length_append, List.length_cons, List.length_nil, List.length_take, List.length_drop] at *; omega)), fun q => ⟨by (first | omega | (unfold I64; omega) | (simp only [List.length_append, List.length_cons, List.length_nil, List.length_take, List.length_drop] at *; omega) | (unfold I64; simp only [List.length_append, List.length_cons, List.length_nil, List.length_take, List.length_drop] at *; omega)), ⟨m + 1, j, by simp, rfl, by omega, hj, fun k hk hkm => ?_, h2⟩, by omega⟩, fun q => ⟨⟨i, m, rfl, rfl, hm1, by omega, h1, fun k hk hkm => ?_⟩, by omega⟩⟩
    · by_cases e : k = m
      · subst e; exact q
      · exact aLt_trans _ _ _ (hrise k m hk (by omega) (by omega)) q
    · by_cases e : k = m
      · subst e; exact q
      · intro r; exact q (aLt_trans _ _ _ (hrise m k (by omega) hk (by omega)) r)
  · have hij' : i = j := by omega
    subst hij'
    have hno : (∀ k (hk : k < l.length), aCmp l[k] a ≠ 0) → aIn l a = false := by
      intro hk
      refine decide_eq_false fun hm => ?_
      obtain ⟨k, hk', e⟩ := List.mem_iff_getElem.1 hm
      exact hk k hk' (by rw [e, aCmp_refl])
    have honly : ∀ k (hk : k < l.length), aCmp l[k] a = 0 → k = i := by
      intro k hk e
      rcases Nat.lt_trichotomy k i with q | q | q
      · have := h1 k hk q; omega
      · exact q
      · exfalso
        have hi' : i < l.length := by omega
        have e' := scmp_eq _ _ e
        have := hrise i k hi' hk q
        apply h2 i hi' (Nat.le_refl _)
        unfold aLt aCmp at this; unfold aCmp; rw [← e']; exact this
    refine ⟨fun d => ?_, fun d => ⟨fun q => (by cases q), fun _ => ?_⟩⟩
    · have hi' : i < l.length := by omega
      rw [gi_nat hi']
      refine ⟨by (first | omega | (unfold I64; omega) | (simp only [List.length_append, List.length_cons, List.length_nil, List.length_take, List.length_drop] at *; omega) | (unfold I64; simp only [List.length_append, List.length_cons, List.length_nil, List.length_take, List.length_drop] at *; omega)), fun q => ⟨by (first | omega | (unfold I64; omega) | (simp only [List.length_append, List.length_cons, List.length_nil, List.length_take, List.length_drop] at *; omega) | (unfold I64; simp only [List.length_append, List.length_cons, List.length_nil, List.length_take, List.length_drop] at *; omega)), ?_⟩, fun q => ?_⟩
      · rw [gi_nat hi']
        have : decide ((l[i] : T_api_Addr) = a) = aIn l a := by
          by_cases e : l[i] = a
          · rw [decide_eq_true e]; exact (decide_eq_true (e ▸ List.getElem_mem hi')).symm
          · rw [decide_eq_false e]
            refine (decide_eq_false fun hm => ?_).symm
            obtain ⟨k, hk', e2⟩ := List.mem_iff_getElem.1 hm
            have := honly k hk' (by rw [e2, aCmp_refl])
            subst this; exact e e2
        rw [this]; exact h
      · have := of_decide_eq_false q
        rw [hno fun k hk e => this (by have := honly k hk e; subst this; exact e)] at h; exact h
    · rw [hno fun k hk e => by have := honly k hk e; omega] at h; exact h
/-! ### Which lists are sets -/
theorem setP_ok {l : List Ad} {Q : Bool → Prop} (hl : l.length ≤ 1000000) (h : ∀ b, (b = true ↔ ASet l) → Q b) : srcs_Good_W l Q := by
  refine loop_up1 l.length (fun i => ASet (l.take i)) (by simpa using ASet.nil) fun K i hi hI hK => ?_
  show srcs_Good_l1 _ _ _ _
  unfold srcs_Good_l1
  refine ⟨fun c => ⟨by (first | omega | (unfold I64; omega) | (simp only [List.length_append, List.length_cons, List.length_nil, List.length_take, List.length_drop] at *; omega) | (unfold I64; simp only [List.length_append, List.length_cons, List.length_nil, List.length_take, List.length_drop] at *; omega)), goodP_ok ⟨fun q => ?_, fun q => ⟨fun d => ⟨by (first | omega | (unfold I64; omega) | (simp only [List.length_append, List.length_cons, List.length_nil, List.length_take, List.length_drop] at *; omega) | (unfold I64; simp only [List.length_append, List.length_cons, List.length_nil, List.length_take, List.length_drop] at *; omega)), by (first | omega | (unfold I64; omega) | (simp only [List.length_append, List.length_cons, List.length_nil, List.length_take, List.length_drop] at *; omega) | (unfold I64; simp only [List.length_append, List.length_cons, List.length_nil, List.length_take, List.length_drop] at *; omega)), cmpP_ok ⟨fun r => ?_, fun r => ⟨by (first | omega | (unfold I64; omega) | (simp only [List.length_append, List.length_cons, List.length_nil, List.length_take, List.length_drop] at *; omega) | (unfold I64; simp only [List.length_append, List.length_cons, List.length_nil, List.length_take, List.length_drop] at *; omega)), hK (i + 1) (by omega) (by omega) ?_⟩⟩⟩, fun d => ⟨by (first | omega | (unfold I64; omega) | (simp only [List.length_append, List.length_cons, List.length_nil, List.length_take, List.length_drop] at *; omega) | (unfold I64; simp only [List.length_append, List.length_cons, List.length_nil, List.length_take, List.length_drop] at *; omega)), hK (i + 1) (by omega) (by omega) ?_⟩⟩⟩⟩, fun c => ?_⟩
  · refine h false ⟨fun q => (by cases q), fun hs => ?_⟩
    rw [gi_nat (show i < l.length by omega)] at q
    have := hs.good l[i] (List.getElem_mem _)
    rw [this] at q; cases q
  · refine h false ⟨fun q => (by cases q), fun hs => ?_⟩
    have e1 : ((i : Int) - 1) = ((i - 1 : Nat) : Int) := by omega
    rw [e1, gi_nat (show i - 1 < l.length by omega), gi_nat (show i < l.length by omega)] at r
    have := List.pairwise_iff_getElem.1 hs.rise (i - 1) i (by omega) (by omega) (by omega)
    unfold aLt at this; omega
  · have hi' : i < l.length := by omega
    have e1 : ((i : Int) - 1) = ((i - 1 : Nat) : Int) := by omega
    rw [e1, gi_nat (show i - 1 < l.length by omega), gi_nat hi'] at r
    rw [gi_nat hi'] at q
    have hg : aGood l[i] = true := by simpa using q
    rw [List.take_succ_eq_append_getElem hi']
    refine ⟨?_, fun x hx => ?_⟩
    · rw [List.pairwise_append]
      refine ⟨hI.rise, by simp, fun x hx y hy => ?_⟩
      rw [List.mem_singleton] at hy; subst hy
      obtain ⟨k, hk, rfl⟩ := List.mem_iff_getElem.1 hx
      rw [List.length_take] at hk
      rw [List.getElem_take]
      have hlast : aLt l[i - 1] l[i] := by unfold aLt; omega
      by_cases e : k = i - 1
      · subst e; exact hlast
      · have := List.pairwise_iff_getElem.1 hI.rise k (i - 1) (by rw [List.length_take]; omega) (by rw [List.length_take]; omega) (by omega)
        rw [List.getElem_take, List.getElem_take] at this
        exact aLt_trans _ _ _ this hlast
    · rw [List.mem_append, List.mem_singleton] at hx
      rcases hx with hx | rfl
      · exact hI.good x hx
      · exact hg
  · have hi' : i < l.length := by omega
    rw [gi_nat hi'] at q
    have hg : aGood l[i] = true := by simpa using q
    have : i = 0 := by omega
    subst this
    rw [List.take_succ_eq_append_getElem hi', List.take_zero, List.nil_append]
    exact ⟨by simp, by simpa using hg⟩
  · rw [List.take_of_length_le (by omega)] at hI
    exact h true ⟨fun _ => hI, fun _ => rfl⟩
end Go.Wk
