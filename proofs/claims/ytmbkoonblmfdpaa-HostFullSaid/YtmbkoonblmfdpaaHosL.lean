/- Plain words: a host lives; the laws HostFull and HostNil. -/
import Derived.Test.YtmbkoonblmfdpaaHosR
set_option linter.unusedSimpArgs false
set_option linter.unusedVariables false
set_option linter.unusedSectionVars false
namespace Go.Wk
open Go.HL
variable [DM]
theorem u8b {n : Int} (h : IntKind.u8.min ≤ n ∧ n ≤ IntKind.u8.max) : 0 ≤ n ∧ n ≤ 255 := h
def fourA (f n : Int) : Ad := (false, mkB 16 [f, 1, 1, n, 0, 0, 0, 0, 0, 0, 0, 0, 0, 0, 0, 0])
theorem u8wrap {n : Int} (h : 0 ≤ n ∧ n < 256) : IntKind.u8.wrap n = n := by
  rw [IntKind.wrap_u8]; omega
theorem four20_ok {f n : Int} {Q : Ad → Prop} (hf : 0 ≤ f ∧ f < 256) (hn : 0 ≤ n ∧ n < 256) (h : Q (fourA f n)) : law20_four_W f n Q := ⟨hn, hf, h⟩
theorem fourA_good (f n : Int) : aGood (fourA f n) = true := by
  unfold aGood fourA; simp only [Bool.false_or, decide_eq_true_eq]; rfl
theorem fourA_grp (n : Int) : aGrp (fourA 239 n) = true := by
  unfold aGrp fourA
  simp only [Bool.false_eq_true, if_false, decide_eq_true_eq]
  have : b8 (mkB 16 [239, 1, 1, n, 0, 0, 0, 0, 0, 0, 0, 0, 0, 0, 0, 0]) 0 = 239 := rfl
  rw [this]; decide
theorem fourA_inj {f m n : Int} (hm : 0 ≤ m ∧ m < 256) (hn : 0 ≤ n ∧ n < 256) (h : fourA f m = fourA f n) : m = n := by
  have h3 := congrArg (fun a : Ad => b8 a.2 3) h
  have e : ∀ z : Int, 0 ≤ z ∧ z < 256 → b8 (fourA f z).2 3 = z := fun z hz => by
    show ((UInt8.ofNat z.toNat).toNat : Int) = z
    rw [UInt8.toNat_ofNat']
    have : z.toNat % 2 ^ 8 = z.toNat := Nat.mod_eq_of_lt (by omega)
    rw [this]; omega
  simp only [e m hm, e n hn] at h3
  exact h3
theorem fourA_loc {n : Int} {Q : Bool → Prop} (h : Q false) : addr_Local_W (fourA 239 n) Q := by
  have h0 : b8 (fourA 239 n).2 0 = 239 := rfl
  have h1 : b8 (fourA 239 n).2 1 = 1 := rfl
  have g : ∀ {Q : Bool → Prop}, Q true → addr_group_W (fourA 239 n) Q := by
    intro Q h
    refine ⟨fun c => (by cases c), fun _ => ?_⟩
    rw [h0]; exact h
  have beg : ∀ (b : Str) {Q : Bool → Prop}, b = [(224 : UInt8), (0 : UInt8), (0 : UInt8)] ∨ b = [(239 : UInt8), (255 : UInt8)] → Q false → addr_begins_W (fourA 239 n) b Q := by
    intro b Q hb h
    refine ⟨fun c => ⟨by omega, ?_⟩, fun c => ?_⟩
    · rcases hb with rfl | rfl
      · exact h
      · exact h
    · exact h
  refine g ⟨fun _ => g ⟨fun c => (by cases c), fun _ => ⟨fun c => (by cases c), fun _ => beg _ (.inl rfl) ⟨fun c => (by cases c), fun _ => beg _ (.inr rfl) ⟨fun c => (by cases c), fun _ => ⟨fun _ => ⟨fun c => ?_, fun _ => h⟩, fun c => absurd h0 c⟩⟩⟩⟩⟩, fun c => (by cases c)⟩
  rw [h1] at c; exact absurd c (by decide)
theorem mget_key {κ ν : Type} [DecidableEq κ] {m : List (κ × ν)} {k : κ} {x : ν} (h : mget m k = some x) : (k, x) ∈ m := by
  induction m with
  | nil => simp [mget_nil] at h
  | cons p r ih =>
    rw [mget_cons] at h
    split at h
    · rename_i e; injection h with h; subst h; subst e; exact List.mem_cons_self ..
    · exact List.mem_cons_of_mem _ (ih h)
theorem mget_not {κ ν : Type} [DecidableEq κ] {m : List (κ × ν)} {k : κ} (h : k ∉ m.map Prod.fst) : mget m k = none := by
  cases e : mget m k with
  | none => rfl
  | some x => exact absurd (List.mem_map.2 ⟨_, mget_key e, rfl⟩) h
theorem mgetD_cases {m : Wm} {g : Ad} : mgetD z_api_Filter m g = z_api_Filter ∨ ∃ p ∈ m, p.2 = mgetD z_api_Filter m g := by
  unfold mgetD
  cases e : mget m g with
  | none => exact .inl rfl
  | some x => exact .inr ⟨_, mget_key e, rfl⟩
theorem wantOk_of {m : Wm} (h : ∀ p ∈ m, ASet p.2.2.2 ∧ p.2.2.2.length ≤ 100) : WantOk m := ⟨fun g => by
  rcases mgetD_cases (m := m) (g := g) with e | ⟨p, hp, e⟩
  · rw [e]; exact ⟨ASet.nil, by decide⟩
  · rw [← e]; exact h p hp⟩
theorem one_rep {r : List Tk} {v6 : Bool} {x : Rb} (h : r.map tb = [mkT v6 [x]]) : ∃ (t : Tk) (c : Rec), r = [t] ∧ t.2.2.2.2.2.2.2.2.2.2 = [c] ∧ rk c = x := by
  match r, h with
  | [t], h =>
    have h1 : tb t = mkT v6 [x] := by simpa using h
    have h2 : t.2.2.2.2.2.2.2.2.2.2.map rk = [x] := congrArg (fun z : Tb => z.2.2.2.2.2.2.2.2.2) h1
    match e : t.2.2.2.2.2.2.2.2.2.2, h2 with
    | [c], h2 => exact ⟨t, c, rfl, e, by simpa using h2⟩
  | [], h => simp at h
  | _ :: _ :: _, h => simp at h
theorem perm_one {α : Type} {l : List α} {a : α} (h : l.Perm [a]) : l = [a] := List.perm_singleton.1 h
theorem livesH_ok {Q : Bool → Prop} (h : Q true) : law20_lives_W Q := by
  have e0 : nowB 0 0 = 0 := rfl
  have e1 : nowB 0 1 = 1 := rfl
  unfold law20_lives_W host_New_W
  refine four20_ok (by decide) (by decide) ?_
  refine setH_ok (fourA_good _ _) (fourA_grp _) fourA_loc rfl (by simp) (fun _ => ASet.nil) (by simp) (wantOk_of (by simp)) (by decide) (by decide) (fun c => absurd c (by simp)) (fun _ _ _ c => absurd c (by simp)) ?_
  intro _ _ r m' _ hm hr
  obtain ⟨v, rfl⟩ := hm rfl
  obtain ⟨t, c, rfl, ht, hc⟩ := one_rep (x := (4, fourA 239 1, [])) hr
  rw [e0]
  refine hearH_ok (wantOk_of ?_) (by simp [mset]) (by decide) (by decide) (by decide) (by decide) ?_
  · intro p hp; simp [mset] at hp; subst hp; exact ⟨ASet.nil, by simp⟩
  · intro r2 ks hp _ hr2
    have hks : ks = [fourA 239 1] := perm_one hp
    subst hks
    have hcur : curL (mset ([] : Wm) (fourA 239 1) (true, (v, []))) [fourA 239 1] = [(2, fourA 239 1, [])] := by
      have : mgetD z_api_Filter (mset ([] : Wm) (fourA 239 1) (true, (v, []))) (fourA 239 1) = (true, (v, [])) := by
        unfold mgetD; rw [mget_mset, if_pos rfl]; rfl
      unfold curL
      rw [List.filter_cons, this]; simp [noneB, this, kindB]
    rw [hcur] at hr2
    obtain ⟨t2, c2, rfl, ht2, hc2⟩ := one_rep (x := (2, fourA 239 1, [])) hr2
    have g1 : gi [t] 0 = t := rfl
    have g2 : gi [t2] 0 = t2 := rfl
    refine ⟨fun _ => ⟨fun _ => ⟨by simp, ?_⟩, fun q => absurd rfl q⟩, fun q => absurd rfl q⟩
    rw [g1, ht]
    refine ⟨fun _ => ⟨by simp, fun _ => ⟨fun _ => ⟨by simp, ?_⟩, fun q => absurd rfl q⟩, fun q => absurd ?_ q⟩, fun q => absurd rfl q⟩
    · rw [g2, ht2]
      refine ⟨fun _ => ⟨by simp, ?_⟩, fun q => absurd rfl q⟩
      have : (gi [c2] 0).1 = 2 := congrArg (fun z : Rb => z.1) hc2
      rw [this]; exact h
    · exact congrArg (fun z : Rb => z.1) hc
theorem tmodR {n a : Int} (ha : 0 < a) (h : 0 ≤ n) : 0 ≤ n.tmod a ∧ n.tmod a < a := by
  rw [Int.tmod_eq_emod_of_nonneg h]; exact ⟨Int.emod_nonneg _ (by omega), Int.emod_lt_of_pos _ ha⟩
theorem tens_set : ∀ c : Nat, c ≤ 74 → ASet ((List.range c).map fun j : Nat => fourA 10 (j : Int)) := by
  intro c hc
  have big : ASet ((List.range 74).map fun j : Nat => fourA 10 (j : Int)) := by
    refine ⟨?_, ?_⟩
    · rw [List.pairwise_map]
      have : ∀ i : Nat, i < 74 → ∀ j : Nat, j < 74 → i < j → aCmp (fourA 10 (i : Int)) (fourA 10 (j : Int)) < 0 := by decide +kernel
      exact List.Pairwise.imp_of_mem (fun {a b} ha hb q => this a (List.mem_range.1 ha) b (List.mem_range.1 hb) q) List.pairwise_lt_range
    · intro x hx; obtain ⟨j, _, rfl⟩ := List.mem_map.1 hx; exact fourA_good _ _
  have e : (List.range c).map (fun j : Nat => fourA 10 (j : Int)) = ((List.range 74).map fun j : Nat => fourA 10 (j : Int)).take c := by
    rw [← List.map_take, List.take_range, Nat.min_eq_left hc]
  rw [e]
  exact ⟨big.rise.sublist (List.take_sublist _ _), fun x hx => big.good x (List.mem_of_mem_take hx)⟩
structure FullInv (i : Nat) (m : Wm) : Prop where
  keys : m.map Prod.fst = (List.range (min i 64)).map fun j : Nat => fourA 239 (j : Int)
  vals : ∀ p ∈ m, p.2.2.2 = []
theorem FullInv.ok {i : Nat} {m : Wm} (h : FullInv i m) : WantOk m := wantOk_of fun p hp => by rw [h.vals p hp]; exact ⟨ASet.nil, by simp⟩
theorem FullInv.len {i : Nat} {m : Wm} (h : FullInv i m) : m.length = min i 64 := by
  have := congrArg List.length h.keys; simpa using this
theorem FullInv.new {i : Nat} {m : Wm} (h : FullInv i m) (hi : i < 70) : mget m (fourA 239 (i : Int)) = none := by
  refine mget_not ?_
  rw [h.keys]; intro q
  obtain ⟨j, hj, e⟩ := List.mem_map.1 q
  rw [List.mem_range] at hj
  have := fourA_inj (by omega) (by omega) e
  omega
theorem hostFull_ok {n k : Int} {Q : Bool → Prop} (hn : 0 ≤ n ∧ n ≤ 255) (hk : 0 ≤ k ∧ k ≤ 255) (h : Q true) : law20_HostFull_W n k Q := by
  have hm := tmodR (a := 70) (by decide) hn.1
  have hc := tmodR (a := 20) (by decide) hk.1
  obtain ⟨M, hM⟩ : ∃ M : Nat, (M : Int) = n.tmod 70 := ⟨(n.tmod 70).toNat, by omega⟩
  obtain ⟨C, hC⟩ : ∃ C : Nat, (C : Int) = 55 + k.tmod 20 := ⟨(55 + k.tmod 20).toNat, by omega⟩
  refine ⟨by (first | omega | (unfold I64; omega) | (simp only [List.length_append, List.length_cons, List.length_nil, List.length_take, List.length_drop] at *; omega) | (unfold I64; simp only [List.length_append, List.length_cons, List.length_nil, List.length_take, List.length_drop] at *; omega)), ?_⟩
  refine loop_by (fun s => s.2.2.2.2.2) M (fun i s => s.1 = false ∧ s.2.1 = 0 ∧ FullInv i s.2.2.1 ∧ s.2.2.2.1 = 0 ∧ s.2.2.2.2.1 = 0) rfl ⟨rfl, rfl, ⟨rfl, by simp⟩, rfl, rfl⟩ ?_
  rintro K i ⟨b, nw, m, o1, o2, _⟩ rfl hi ⟨e1, e2, hI, e3, e4⟩ hK
  replace e1 : b = false := e1
  replace e2 : nw = 0 := e2
  replace hI : FullInv i m := hI
  replace e3 : o1 = 0 := e3
  replace e4 : o2 = 0 := e4
  subst e1; subst e2; subst e3; subst e4
  show law20_HostFull_l1 n k Q _ false 0 m 0 0 (i : Int)
  unfold law20_HostFull_l1
  rw [← hM, ← hC]
  refine ⟨fun c => ?_, fun c => ⟨by (first | omega | (unfold I64; omega) | (simp only [List.length_append, List.length_cons, List.length_nil, List.length_take, List.length_drop] at *; omega) | (unfold I64; simp only [List.length_append, List.length_cons, List.length_nil, List.length_take, List.length_drop] at *; omega)), by (first | omega | (unfold I64; omega) | (simp only [List.length_append, List.length_cons, List.length_nil, List.length_take, List.length_drop] at *; omega) | (unfold I64; simp only [List.length_append, List.length_cons, List.length_nil, List.length_take, List.length_drop] at *; omega)), ?_⟩⟩
  · have i1 : i < M := by omega
    rw [u8wrap (by omega)]
    refine four20_ok (by decide) (by omega) ?_
    have e0 : nowB 0 0 = 0 := rfl
    have hnew := hI.new (by omega)
    refine setH_ok (fourA_good _ _) (fourA_grp _) fourA_loc rfl (by simp) (fun _ => ASet.nil) (by simp) hI.ok (by decide) (by decide) (fun c => absurd c (by simp)) ?_ ?_
    · intro _ _ _ hl
      have : 64 ≤ i := by have := hI.len; omega
      have hd : decide ((64 : Int) ≤ (i : Int)) = true := decide_eq_true (by omega)
      rw [hd]
      refine ⟨fun q => (by simp at q), fun _ => ⟨fun q => by omega, fun _ => ⟨by (first | omega | (unfold I64; omega) | (simp only [List.length_append, List.length_cons, List.length_nil, List.length_take, List.length_drop] at *; omega) | (unfold I64; simp only [List.length_append, List.length_cons, List.length_nil, List.length_take, List.length_drop] at *; omega)), hK (i + 1) _ (by simp) (by omega) (by omega) ⟨rfl, rfl, ⟨?_, hI.vals⟩, rfl, rfl⟩⟩⟩⟩
      show m.map Prod.fst = _
      rw [hI.keys, Nat.min_eq_right this, Nat.min_eq_right (by omega)]
    · intro _ hor r m' _ hm' _
      obtain ⟨v, rfl⟩ := hm' rfl
      have hlt : i < 64 := by
        have := hI.len
        rcases hor with q | q | q
        · rw [hnew] at q; cases q
        · cases q
        · omega
      have hd : decide ((64 : Int) ≤ (i : Int)) = false := decide_eq_false (by omega)
      rw [hd]
      refine ⟨fun q => (by simp at q), fun _ => ⟨fun _ => ⟨fun q => absurd rfl q, fun _ => ⟨by (first | omega | (unfold I64; omega) | (simp only [List.length_append, List.length_cons, List.length_nil, List.length_take, List.length_drop] at *; omega) | (unfold I64; simp only [List.length_append, List.length_cons, List.length_nil, List.length_take, List.length_drop] at *; omega)), hK (i + 1) _ (by simp) (by omega) (by omega) ⟨rfl, rfl, ⟨?_, ?_⟩, rfl, rfl⟩⟩⟩, fun q => absurd (by omega) q⟩⟩
      · show (mset m _ _).map Prod.fst = _
        rw [mset_none hnew, List.map_append, hI.keys, Nat.min_eq_left (by omega), Nat.min_eq_left (by omega), List.range_succ, List.map_append]; rfl
      · intro p hp
        replace hp : p ∈ mset m (fourA 239 (i : Int)) (true, (v, [])) := hp
        rw [mset_none hnew] at hp
        rcases List.mem_append.1 hp with q | q
        · exact hI.vals p q
        · rw [List.mem_singleton.1 q]
  · refine loop_up C (fun j s => s = (List.range j).map fun z : Nat => fourA 10 (z : Int)) rfl fun K2 j s hj hs hK2 => ?_
    show law20_HostFull_l3 k Q _ s (j : Int)
    unfold law20_HostFull_l3
    rw [← hC]
    have sl : s.length = j := by rw [hs]; simp
    refine ⟨fun c => ?_, fun c => ?_⟩
    · rw [u8wrap (by omega)]
      refine four20_ok (by decide) (by omega) ⟨by simp only [List.length_cons, List.length_nil]; omega, by (first | omega | (unfold I64; omega) | (simp only [List.length_append, List.length_cons, List.length_nil, List.length_take, List.length_drop] at *; omega) | (unfold I64; simp only [List.length_append, List.length_cons, List.length_nil, List.length_take, List.length_drop] at *; omega)), hK2 (j + 1) _ (by omega) (by omega) ?_⟩
      rw [hs, List.range_succ, List.map_append]; rfl
    · have j1 : j = C := by omega
      subst j1
      refine four20_ok (by decide) (by decide) ?_
      have hset := tens_set j (by omega)
      rw [← hs] at hset
      refine setH_ok (fourA_good _ _) (fourA_grp _) fourA_loc rfl (by rw [hs]; intro a ha; obtain ⟨z, _, rfl⟩ := List.mem_map.1 ha; rfl) (fun _ => hset) (by omega) (wantOk_of (by simp)) (by decide) (by decide) ?_ ?_ ?_
      · intro q
        rw [show decide ((1 : Int) = 1) = true from rfl, show decide ((64 : Int) < (j : Int)) = true from decide_eq_true (by omega)]
        exact ⟨fun _ => livesH_ok h, fun q => by cases q⟩
      · intro q _ _ q2; simp at q2
      · intro q _ r m' _ _ _
        rw [show decide ((0 : Int) = 1) = false from rfl, show decide ((64 : Int) < (j : Int)) = false from decide_eq_false (by omega)]
        exact ⟨fun _ => livesH_ok h, fun q => by cases q⟩
theorem addrs_any {l : List Ad} {Q : List Ad → Prop} (h : ∀ r, Q r) : law08_Addrs_W l 6 Q := addrs_ok (h _)
theorem recs_any {l : List Rec} {Q : List Rec → Prop} (h : ∀ r, Q r) : law08_Records_W l 6 Q := by
  refine loop_up l.length (fun i s => s.length = i ∧ i ≤ 6) ⟨rfl, by omega⟩ fun K i s hi ⟨hs, h6⟩ hK => ?_
  show law08_Records_l1 l 6 Q _ s (i : Int)
  unfold law08_Records_l1 law08_Records_j1
  refine ⟨fun d => ⟨fun c => ⟨by (first | omega | (unfold I64; omega) | (simp only [List.length_append, List.length_cons, List.length_nil, List.length_take, List.length_drop] at *; omega) | (unfold I64; simp only [List.length_append, List.length_cons, List.length_nil, List.length_take, List.length_drop] at *; omega)), addrs_any fun r v => ⟨by simp only [List.length_cons, List.length_nil]; omega, by (first | omega | (unfold I64; omega) | (simp only [List.length_append, List.length_cons, List.length_nil, List.length_take, List.length_drop] at *; omega) | (unfold I64; simp only [List.length_append, List.length_cons, List.length_nil, List.length_take, List.length_drop] at *; omega)), ?_⟩⟩, fun c => h _⟩, fun d => ⟨fun c => (by cases c), fun _ => h _⟩⟩
  have := of_decide_eq_true c
  exact hK (i + 1) _ (by omega) (by omega) ⟨by simp [hs], by omega⟩
theorem hostNil_ok {now : Int} {a : Bool} {b c d : Int} {e : Ad} {f : Bool} {i j : Int} {k : List Ad} {l : List Rec} {g : Ad} {Q : Bool → Prop} (h : Q true) : law20_HostNil_W now a b c d e f i j k l g Q := by
  refine ⟨fun _ => ⟨fun _ => addrs_any fun _ => recs_any fun _ => ?_, fun q => absurd rfl q⟩, fun q => absurd rfl q⟩
  refine ⟨fun _ => ?_, fun q => absurd rfl q⟩
  unfold host_Host_Filter_nil0_W
  exact noneR_ok ⟨fun _ => ⟨fun _ => ⟨fun _ => livesH_ok h, fun q => absurd rfl q⟩, fun q => absurd rfl q⟩, fun q => (by cases q)⟩
end Go.Wk
