/- Plain words: an address of Ethernet, written and read. -/
import Derived.Test.YtamiodnbinhmhaaDoorAdrP5
set_option linter.unusedSimpArgs false
set_option linter.unusedVariables false
set_option linter.unusedSectionVars false
namespace Go.Wk
open Go.HL
variable [DM]
def by6 (m : Ba 6) (k : Nat) : Nat := (m.1.getD k 0).toNat
theorem by6_lt (m : Ba 6) (k : Nat) : by6 m k < 256 := UInt8.toNat_lt _
theorem gi6 (m : Ba 6) {k : Nat} (h : k < 6) : gi m.1 (k : Int) = m.1.getD k 0 := by
  have hl : k < m.1.length := by rw [m.2]; exact h
  rw [gi_nat hl, List.getD_eq_getElem?_getD, List.getElem?_eq_getElem hl]; rfl
theorem b86 (m : Ba 6) {k : Nat} (h : k < 6) : b8 m (k : Int) = ((by6 m k : Nat) : Int) := by unfold b8 by6; rw [gi6 m h]
def hx (n : Nat) : Str := [dig (n / 16), dig (n % 16)]
def mL (m : Ba 6) (i : Nat) : List Str := (List.range i).map fun k => hx (by6 m k)
theorem mL_succ (m : Ba 6) (i : Nat) : mL m (i + 1) = mL m i ++ [hx (by6 m i)] := by unfold mL; rw [List.range_succ, List.map_append]; rfl
theorem mL_len (m : Ba 6) (i : Nat) : (mL m i).length = i := by simp [mL]
def macT (m : Ba 6) : Str := joinS (mL m 6) [58]
theorem hx_no (n : Nat) (h : n < 256) : (58 : UInt8) ∉ hx n := by
  unfold hx
  intro q
  simp only [List.mem_cons, List.not_mem_nil, or_false] at q
  rcases q with q | q
  · exact (dig_ne (n / 16) (by omega)).1 q.symm
  · exact (dig_ne (n % 16) (by omega)).1 q.symm
theorem mL_good (m : Ba 6) (i : Nat) : ∀ x ∈ mL m i, x ≠ [] ∧ (58 : UInt8) ∉ x ∧ x.length ≤ 2 := by
  intro x hx'
  obtain ⟨k, _, rfl⟩ := List.mem_map.1 hx'
  exact ⟨by simp [hx], hx_no _ (by6_lt m k), by simp [hx]⟩
theorem mJ_len (m : Ba 6) (i : Nat) : (joinS (mL m i) [58]).length ≤ i * 3 := by
  have := joinS_len (c := 58) (m := 2) fun x hx => (mL_good m i x hx).2.2
  rw [mL_len] at this; exact this
theorem d16 : ∀ k < 16, gi ([48, 49, 50, 51, 52, 53, 54, 55, 56, 57, 97, 98, 99, 100, 101, 102] : Str) ((k : Nat) : Int) = dig k := by decide +kernel
theorem hi4 {n : Nat} (h : n < 256) : ((n : Int)).fdiv (2 ^ (min (4 : Int).toNat IntKind.u8.bits)) = ((n / 16 : Nat) : Int) := by
  have e : (2 : Int) ^ (min (4 : Int).toNat IntKind.u8.bits) = 16 := by decide +kernel
  rw [e, Int.fdiv_eq_ediv_of_nonneg _ (by decide)]; rfl
theorem lo4 {n : Nat} (h : n < 256) : bits .and .u8 (n : Int) 15 = ((n % 16 : Nat) : Int) := by
  have e := Go.u8_and_nat n 15 h (by decide)
  rw [show ((15 : Nat) : Int) = 15 from rfl] at e
  rw [e]; congr 1
  exact Nat.and_two_pow_sub_one_eq_mod n 4
theorem hex_ok {x : UInt8} {Q : Str → Prop} (h : Q (hx x.toNat)) : octet_Hex_W [x] Q := by
  have hx256 := x.toNat_lt
  refine ⟨by (first | omega | (unfold I64; omega) | (simp only [List.length_append, List.length_cons, List.length_nil, List.length_take, List.length_drop] at *; omega) | (unfold I64; simp only [List.length_append, List.length_cons, List.length_nil, List.length_take, List.length_drop] at *; omega)), by simp, ?_⟩
  refine loop_up 1 (fun i o => o = if i = 0 then [] else hx x.toNat) rfl fun K i o hi ho hK => ?_
  show octet_Hex_l1 [x] Q _ o (i : Int)
  unfold octet_Hex_l1
  refine ⟨fun c => ?_, fun c => ?_⟩
  · have i0 : i = 0 := by simp only [List.length_cons, List.length_nil] at c; omega
    subst i0
    have hg : ((gi ([x] : Str) ((0 : Nat) : Int)).toNat : Int) = ((x.toNat : Nat) : Int) := rfl
    rw [hg, hi4 hx256, lo4 hx256, u8w_nat (by omega), u8w_nat (by omega), d16 _ (by omega), d16 _ (by omega)]
    subst ho
    exact ⟨by simp, by omega, by simp only [List.length_cons, List.length_nil]; omega, by omega, by simp only [List.length_cons, List.length_nil]; omega, by simp, by decide, hK 1 _ (by omega) (by omega) rfl⟩
  · have i1 : i = 1 := by simp only [List.length_cons, List.length_nil] at c; omega
    subst i1; rw [ho]; exact h
theorem pmacP_ok {m : Ba 6} {Q : Str → Prop} (h : Q (macT m)) : addr_PrintMac_W m Q := by
  refine loop_up 6 (fun i l => l = mL m i) rfl fun K i l hi hl hK => ?_
  have hlen := mL_len m i
  rw [← hl] at hlen
  show addr_PrintMac_l2 m Q _ l (i : Int)
  unfold addr_PrintMac_l2
  refine ⟨fun c => ⟨by omega, ?_⟩, fun c => ?_⟩
  · rw [gi6 m (by omega)]
    exact hex_ok ⟨by simp only [List.length_cons, List.length_nil]; omega, by unfold I64; omega, hK (i + 1) _ (by omega) (by omega) (by rw [mL_succ, hl]; rfl)⟩
  · have i6 : i = 6 := by omega
    subst i6
    have := mJ_len m 6
    rw [hl]
    exact ⟨⟨by rw [mL_len]; decide, by omega⟩, h⟩
theorem pmacR_ok {m : Ba 6} {Q : Str → Prop} (h : Q (macT m)) : ref03_PrintMac_W m Q := by
  refine loop_up 6 (fun i s => s = joinS (mL m i) [58]) rfl fun K i s hi hs hK => ?_
  have hl := mJ_len m i
  rw [← hs] at hl
  have h6 := by6_lt m i
  have j1 : ∀ t : Str, t.length ≤ 100 → t ++ hx (by6 m i) = joinS (mL m (i + 1)) [58] → i < 6 → ref03_PrintMac_j1 m (i : Int) (fun s_1 i_1 => K (s_1, i_1)) t := by
    intro t ht he i6
    have e1 : ((by6 m i : Nat) : Int).tdiv 16 = ((by6 m i / 16 : Nat) : Int) := by rw [Int.tdiv_eq_ediv_of_nonneg (by omega)]; rfl
    have e2 : ((by6 m i : Nat) : Int).tmod 16 = ((by6 m i % 16 : Nat) : Int) := by rw [Int.tmod_eq_emod_of_nonneg (by omega)]; rfl
    unfold ref03_PrintMac_j1
    rw [b86 m i6, e1, e2, u8w_nat (by omega), u8w_nat (by omega)]
    refine ⟨by omega, by omega, sign_ok (by omega) ⟨by simp only [List.length_cons, List.length_nil]; omega, sign_ok (by omega) ⟨by simp only [List.length_append, List.length_cons, List.length_nil]; omega, by unfold I64; omega, hK (i + 1) _ (by omega) (by omega) ?_⟩⟩⟩
    rw [← he, List.append_assoc]; rfl
  show ref03_PrintMac_l1 m Q _ s (i : Int)
  unfold ref03_PrintMac_l1
  refine ⟨fun d => ⟨fun q => ⟨by simp only [List.length_cons, List.length_nil]; omega, j1 _ (by simp only [List.length_append, List.length_cons, List.length_nil]; omega) ?_ (by omega)⟩, fun q => j1 _ (by omega) ?_ (by omega)⟩, fun d => ?_⟩
  · have hne : mL m i ≠ [] := by intro e; have := congrArg List.length e; rw [mL_len] at this; simp at this; omega
    rw [mL_succ, joinS_snoc hne, hs]
  · have : i = 0 := by omega
    subst this
    rw [hs, mL_succ]
    show _ = joinS [hx (by6 m 0)] [58]
    rw [joinS_one]; rfl
  · have : i = 6 := by omega
    subst this
    rw [hs]; exact h
/-! ### Read -/
theorem replS_filter (s : Str) (c : UInt8) : replS s [c] [] = s.filter (fun x => decide (x ≠ c)) := by
  have e : ∀ s : Str, replS s [c] [] = Lib.replaceK [c] [] (s.count c) s := by
    intro s
    unfold replS Lib.replaceAll Lib.replace Lib.replaceNum
    rw [if_neg (by simp), if_pos (.inl (by decide)), Lib.count_one]
  rw [e]
  refine split_ind (P := fun s => Lib.replaceK [c] [] (s.count c) s = s.filter (fun x => decide (x ≠ c))) c (fun s h => ?_) (fun x r h ih => ?_) s
  · rw [List.count_eq_zero.2 h]
    have hs : s.filter (fun x => decide (x ≠ c)) = s := List.filter_eq_self.2 fun y hy => decide_eq_true fun (q : y = c) => h (q ▸ hy)
    rw [hs]; rfl
  · have hx : x.filter (fun x => decide (x ≠ c)) = x := List.filter_eq_self.2 fun y hy => decide_eq_true fun (q : y = c) => h (q ▸ hy)
    rw [List.count_append, List.count_eq_zero.2 h, List.count_cons_self, Nat.zero_add, Lib.replaceK_hit _ _ _ _ _ (idx_at h), List.take_left' rfl]
    have hd : (x ++ c :: r).drop (x.length + [c].length) = r := by
      rw [List.drop_append]
      have : List.drop (x.length + [c].length) x = [] := List.drop_eq_nil_of_le (by simp)
      simp [this]
    rw [hd, ih, List.filter_append, hx, List.filter_cons_of_neg (by simp), List.append_nil]
theorem fl_get : ∀ (ns : List Nat) (k : Nat), (ns.flatMap hx)[2 * k]? = (ns[k]?).map (fun n => dig (n / 16)) ∧ (ns.flatMap hx)[2 * k + 1]? = (ns[k]?).map (fun n => dig (n % 16))
  | [], k => by simp
  | n :: ns, 0 => ⟨rfl, rfl⟩
  | n :: ns, k + 1 => by
    have ih := fl_get ns k
    have e1 : ((n :: ns).flatMap hx)[2 * (k + 1)]? = (ns.flatMap hx)[2 * k]? := rfl
    have e2 : ((n :: ns).flatMap hx)[2 * (k + 1) + 1]? = (ns.flatMap hx)[2 * k + 1]? := rfl
    rw [e1, e2]; exact ih
theorem digit_any {c : Int} {Q : Int → Bool → Prop} (h : ∀ (v : Int) (b : Bool), 0 ≤ v → v < 256 → Q v b) : octet_digit_W c Q := by
  have r := fun t : Int => u8_rng (u8w t)
  have j3 : ∀ b, octet_digit_j3 c Q b := fun b => ⟨fun _ => h _ _ (r _).1 (r _).2, fun _ => h _ _ (by decide) (by decide)⟩
  have j2 : ∀ b, octet_digit_j2 c Q b := fun b => ⟨fun _ => h _ _ (r _).1 (r _).2, fun _ => ⟨fun _ => j3 _, fun _ => j3 _⟩⟩
  have j1 : ∀ b, octet_digit_j1 c Q b := fun b => ⟨fun _ => h _ _ (r _).1 (r _).2, fun _ => ⟨fun _ => j2 _, fun _ => j2 _⟩⟩
  exact ⟨fun _ => j1 _, fun _ => j1 _⟩
theorem digit_good {k : Nat} (hk : k < 16) {Q : Int → Bool → Prop} (h : Q (k : Int) true) : octet_digit_W (((dig k).toNat : Nat) : Int) Q := by
  have hd := digN k hk
  have a1 : ∀ t : Nat, t < 256 → ((u8w (t : Int)).toNat : Int) = t := fun t ht => u8w_nat ht
  by_cases h10 : k < 10
  · rw [if_pos h10] at hd
    rw [hd]
    refine ⟨fun _ => ⟨fun _ => ?_, fun q => by have := of_decide_eq_false q; omega⟩, fun q => by omega⟩
    rw [show (((48 + k : Nat) : Int) - 48) = ((k : Nat) : Int) by omega, a1 k (by omega)]; exact h
  · rw [if_neg h10] at hd
    rw [hd]
    refine ⟨fun _ => ⟨fun q => by have := of_decide_eq_true q; omega, fun _ => ⟨fun _ => ⟨fun _ => ?_, fun q => by have := of_decide_eq_false q; omega⟩, fun q => by omega⟩⟩, fun q => by omega⟩
    rw [show (((87 + k : Nat) : Int) - 97) = ((k - 10 : Nat) : Int) by omega, a1 _ (by omega), show (((k - 10 : Nat) : Int) + 10) = ((k : Nat) : Int) by omega, a1 k (by omega)]; exact h
theorem or4 {u v : Int} (hu : 0 ≤ u ∧ u < 256) (hv : 0 ≤ v ∧ v < 256) : (0 : Int) ≤ bits .or .u8 u v ∧ bits .or .u8 u v < 256 := by
  have e := Go.u8_or u v hu.1 hu.2 hv.1 hv.2
  rw [e]
  have : u.toNat ||| v.toNat < 2 ^ 8 := Nat.or_lt_two_pow (by omega) (by omega)
  omega
theorem join4 {n : Nat} (h : n < 256) : u8w (bits .or .u8 ((u8w (((n / 16 : Nat) : Int) * 2 ^ (min (4 : Int).toNat IntKind.u8.bits))).toNat : Int) ((n % 16 : Nat) : Int)) = UInt8.ofNat n := by
  have e : (2 : Int) ^ (min (4 : Int).toNat IntKind.u8.bits) = 16 := by decide +kernel
  rw [e, show (((n / 16 : Nat) : Int) * 16) = ((16 * (n / 16) : Nat) : Int) by omega, u8w_nat (by omega), Go.u8_or_nat _ _ (by omega) (by omega), Go.nat_join 4 _ _ (by omega) (by omega), show 16 * (n / 16) + n % 16 = n by omega]
  have q1 := u8w_nat h
  refine UInt8.toNat_inj.1 ?_
  rw [UInt8.toNat_ofNat']
  have : n % 2 ^ 8 = n := Nat.mod_eq_of_lt (by omega)
  omega
theorem i64_and1 (n : Nat) (hn : n < 9223372036854775808) : bits .and .i64 (n : Int) 1 = ((n % 2 : Nat) : Int) := by
  have h1 : (BitVec.ofInt 64 1).toNat = 2 ^ 1 - 1 := by decide
  have key : (BitVec.ofInt 64 (n : Int) &&& BitVec.ofInt 64 1).toNat = ((n : Int) % ((2 ^ 64 : Nat) : Int)).toNat % 2 ^ 1 := by
    rw [BitVec.toNat_and, BitVec.toNat_ofInt, h1, Nat.and_two_pow_sub_one_eq_mod]
  show IntKind.i64.wrap ((BitVec.ofInt 64 (n : Int) &&& BitVec.ofInt 64 1).toNat : Nat) = _
  rw [key, IntKind.wrap_i64]
  omega
theorem unhex_ok {s : Str} (hl : s.length ≤ 1000) {Q : Str → Int → Prop} (h : ∀ (r : Str) (e : Int), r.length ≤ 1000 → (e = 0 ∨ e = 2) → (∀ ns : List Nat, (∀ n ∈ ns, n < 256) → s = ns.flatMap hx → r = ns.map UInt8.ofNat ∧ e = 0) → Q r e) : octet_Unhex_W s Q := by
  have hodd : bits .and .i64 (s.length : Int) 1 = ((s.length % 2 : Nat) : Int) := by
    exact i64_and1 s.length (by omega)
  have flen : ∀ ns : List Nat, (ns.flatMap hx).length = 2 * ns.length := by
    intro ns
    induction ns with
    | nil => rfl
    | cons a ns ih => rw [List.flatMap_cons, List.length_append, ih]; simp only [hx, List.length_cons, List.length_nil]; omega
  unfold octet_Unhex_W
  rw [hodd]
  refine ⟨fun c => h _ _ (by simp) (.inr rfl) fun ns _ e => ?_, fun c => ?_⟩
  · rw [e, flen] at c; omega
  · refine ⟨fun q => ∃ k : Nat, q.2 = ((2 * k : Nat) : Int) ∧ 2 * k ≤ s.length ∧ q.1.length ≤ k ∧ ∀ ns : List Nat, (∀ n ∈ ns, n < 256) → s = ns.flatMap hx → q.1 = (ns.take k).map UInt8.ofNat, fun q => ((s.length : Int) + 1 - q.2).toNat, ⟨0, rfl, by omega, by simp, fun _ _ _ => by simp⟩, ?_⟩
    rintro ⟨o, _⟩ ⟨k, rfl, hk, ho, hns⟩
    dsimp only at ho hns ⊢
    unfold octet_Unhex_l1
    have he : s.length % 2 = 0 := by omega
    refine ⟨fun d => ⟨by omega, ?_⟩, fun d => h _ _ (by omega) (.inl rfl) fun ns h1 h2 => ⟨?_, rfl⟩⟩
    · have i1 : 2 * k < s.length := by omega
      have i2 : 2 * k + 1 < s.length := by omega
      have g1 : gi s ((2 * k : Nat) : Int) = s[2 * k] := gi_nat i1
      have g2 : gi s (((2 * k : Nat) : Int) + 1) = s[2 * k + 1] := by rw [show ((2 * k : Nat) : Int) + 1 = ((2 * k + 1 : Nat) : Int) by omega]; exact gi_nat i2
      have at_ : ∀ ns : List Nat, s = ns.flatMap hx → ∃ hk : k < ns.length, s[2 * k] = dig (ns[k] / 16) ∧ s[2 * k + 1] = dig (ns[k] % 16) := by
        intro ns e
        have hkn : k < ns.length := by have := flen ns; rw [← e] at this; omega
        obtain ⟨a1, a2⟩ := fl_get ns k
        rw [← e, List.getElem?_eq_getElem i1, List.getElem?_eq_getElem hkn] at a1
        rw [← e, List.getElem?_eq_getElem i2, List.getElem?_eq_getElem hkn] at a2
        exact ⟨hkn, Option.some.inj a1, Option.some.inj a2⟩
      by_cases hg : ∃ ns : List Nat, (∀ n ∈ ns, n < 256) ∧ s = ns.flatMap hx
      · obtain ⟨ns, h1, h2⟩ := hg
        obtain ⟨hkn, e1, e2⟩ := at_ ns h2
        have hn := h1 _ (List.getElem_mem hkn)
        rw [g1, g2, e1, e2]
        refine digit_good (by omega) ⟨by unfold I64; omega, by omega, digit_good (by omega) ⟨fun c => (by cases c), fun _ => ⟨fun c => (by cases c), fun _ => ?_⟩⟩⟩
        rw [join4 hn]
        refine ⟨or4 (u8_rng _) (by omega), by simp only [List.length_cons, List.length_nil]; omega, by unfold I64; omega, ⟨k + 1, by omega, by omega, by simp only [List.length_append, List.length_cons, List.length_nil]; omega, fun ns' h1' h2' => ?_⟩, by show ((s.length : Int) + 1 - (((2 * k : Nat) : Int) + 2)).toNat < ((s.length : Int) + 1 - ((2 * k : Nat) : Int)).toNat; omega⟩
        obtain ⟨hkn', e1', e2'⟩ := at_ ns' h2'
        have en : ns'[k] = ns[k] := by
          have hn' := h1' _ (List.getElem_mem hkn')
          have a1 := congrArg dval (e1.symm.trans e1')
          have a2 := congrArg dval (e2.symm.trans e2')
          rw [dval_dig _ (by omega), dval_dig _ (by omega)] at a1 a2
          omega
        rw [List.take_succ_eq_append_getElem hkn', List.map_append, ← hns ns' h1' h2', en]; rfl
      · have no : ∀ r (e : Int), r.length ≤ 1000 → (e = 0 ∨ e = 2) → Q r e := fun r e hr he => h r e hr he fun ns h1 h2 => absurd ⟨ns, h1, h2⟩ hg
        refine digit_any fun v b v0 v1 => ⟨by unfold I64; omega, by omega, digit_any fun v' b' v0' v1' => ?_⟩
        have j1 : ∀ q, octet_Unhex_j1 Q o ((2 * k : Nat) : Int) (fun out_1 i_1 => (∃ k : Nat, i_1 = ((2 * k : Nat) : Int) ∧ 2 * k ≤ s.length ∧ out_1.length ≤ k ∧ ∀ ns : List Nat, (∀ n ∈ ns, n < 256) → s = ns.flatMap hx → out_1 = (ns.take k).map UInt8.ofNat) ∧ ((s.length : Int) + 1 - i_1).toNat < ((s.length : Int) + 1 - ((2 * k : Nat) : Int)).toNat) v v' q := by
          intro q
          refine ⟨fun _ => no _ _ (by simp) (.inr rfl), fun _ => ⟨or4 (u8_rng _) ⟨v0', v1'⟩, by simp only [List.length_cons, List.length_nil]; omega, by unfold I64; omega, ⟨k + 1, by omega, by omega, by simp only [List.length_append, List.length_cons, List.length_nil]; omega, fun ns h1 h2 => absurd ⟨ns, h1, h2⟩ hg⟩, by omega⟩⟩
        exact ⟨fun _ => j1 _, fun _ => j1 _⟩
    · have hl2 := flen ns
      rw [← h2] at hl2
      rw [hns ns h1 h2, List.take_of_length_le (by omega)]
theorem macT_filter (m : Ba 6) : (macT m).filter (fun x => decide (x ≠ 58)) = ((List.range 6).map (by6 m)).flatMap hx := by
  have key : ∀ l : List Str, (∀ x ∈ l, (58 : UInt8) ∉ x) → (joinS l [58]).filter (fun x => decide (x ≠ 58)) = l.flatten := by
    intro l hl
    induction l with
    | nil => rfl
    | cons a l ih =>
      have ha : a.filter (fun x => decide (x ≠ (58 : UInt8))) = a := List.filter_eq_self.2 fun y hy => decide_eq_true fun (q : y = 58) => hl a (by simp) (q ▸ hy)
      have ih := ih fun x hx => hl x (List.mem_cons_of_mem _ hx)
      cases l with
      | nil => rw [joinS_one, ha]; simp
      | cons b l =>
        rw [joinS_cons, List.filter_append, List.filter_append, ha, ih]
        simp
  unfold macT
  rw [key _ fun x hx => (mL_good m 6 x hx).2.1]
  unfold mL
  rw [List.flatMap_map]; rfl
theorem ba6 (m : Ba 6) : m.1 = [m.1.getD 0 0, m.1.getD 1 0, m.1.getD 2 0, m.1.getD 3 0, m.1.getD 4 0, m.1.getD 5 0] := by
  match m with
  | ⟨[_, _, _, _, _, _], _⟩ => rfl
theorem parseMac_any {s : Str} (hl : s.length ≤ 800) {Q : Ba 6 → Int → Prop} (h1 : ∀ m, macT m = s → Q m 0) (h2 : (∀ m, macT m ≠ s) → Q (mkB 6 [0, 0, 0, 0, 0, 0]) 2) (hall : ∀ m n : Ba 6, macT m = s → macT n = s → m = n → True) : addr_ParseMac_W s Q := by
  have hf := List.length_filter_le (fun x => decide (x ≠ (58 : UInt8))) s
  refine ⟨⟨by omega, by decide, by decide⟩, ?_⟩
  rw [replS_filter]
  refine unhex_ok (by omega) fun r e hr he hns => ?_
  have bad : ∀ m, macT m = s → cpyB (default : Ba 6) r = m ∧ e = 0 := by
    intro m hm
    obtain ⟨e1, e2⟩ := hns ((List.range 6).map (by6 m)) (by intro n hn; obtain ⟨k, _, rfl⟩ := List.mem_map.1 hn; exact by6_lt m k) (by rw [← hm]; exact macT_filter m)
    refine ⟨Subtype.ext ?_, e2⟩
    have hr6 : r = m.1 := by
      rw [e1, List.map_map]
      conv => rhs; rw [ba6 m]
      show [UInt8.ofNat (by6 m 0), UInt8.ofNat (by6 m 1), UInt8.ofNat (by6 m 2), UInt8.ofNat (by6 m 3), UInt8.ofNat (by6 m 4), UInt8.ofNat (by6 m 5)] = _
      unfold by6
      simp only [UInt8.ofNat_toNat]
    have hm6 := m.2
    show r.take 6 ++ (default : Ba 6).1.drop (r.take 6).length = m.1
    rw [hr6, List.take_of_length_le (by omega), List.drop_eq_nil_of_le (by rw [(default : Ba 6).2]; omega), List.append_nil]
  refine ⟨fun c => ⟨fun _ => h2 fun m hm => c (bad m hm).2, fun q => (by cases q)⟩, fun c => pmacP_ok ⟨fun d => h2 fun m hm => ?_, fun d => h1 _ (by simpa using d)⟩⟩
  have d : macT (cpyB (default : Ba 6) r) ≠ s := by simpa using d
  rw [(bad m hm).1] at d; exact d hm
theorem parseMac_good {m : Ba 6} {Q : Ba 6 → Int → Prop} (h : Q m 0) : addr_ParseMac_W (macT m) Q := by
  have hl := mJ_len m 6
  have hl : (macT m).length ≤ 18 := hl
  have hf := List.length_filter_le (fun x => decide (x ≠ (58 : UInt8))) (macT m)
  refine ⟨⟨by omega, by decide, by decide⟩, ?_⟩
  rw [replS_filter]
  refine unhex_ok (by omega) fun r e hr he hns => ?_
  obtain ⟨e1, e2⟩ := hns ((List.range 6).map (by6 m)) (by intro n hn; obtain ⟨k, _, rfl⟩ := List.mem_map.1 hn; exact by6_lt m k) (macT_filter m)
  have hr6 : r = m.1 := by
    rw [e1, List.map_map]
    conv => rhs; rw [ba6 m]
    show [UInt8.ofNat (by6 m 0), UInt8.ofNat (by6 m 1), UInt8.ofNat (by6 m 2), UInt8.ofNat (by6 m 3), UInt8.ofNat (by6 m 4), UInt8.ofNat (by6 m 5)] = _
    unfold by6
    simp only [UInt8.ofNat_toNat]
  have hm6 := m.2
  have e3 : cpyB (default : Ba 6) r = m := by
    refine Subtype.ext ?_
    show r.take 6 ++ (default : Ba 6).1.drop (r.take 6).length = m.1
    rw [hr6, List.take_of_length_le (by omega), List.drop_eq_nil_of_le (by rw [(default : Ba 6).2]; omega), List.append_nil]
  rw [e3]
  exact ⟨fun c => absurd e2 c, fun _ => pmacP_ok ⟨fun d => by simp at d, fun _ => by rw [e3]; exact h⟩⟩
end Go.Wk
