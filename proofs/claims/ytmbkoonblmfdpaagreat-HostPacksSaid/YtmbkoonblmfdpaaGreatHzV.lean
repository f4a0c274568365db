/- Plain words: a host lives; what lives needs. -/
import Derived.Test.YtmbkoonblmfdpaaGreatHzR
set_option linter.unusedSimpArgs false
set_option linter.unusedVariables false
set_option linter.unusedSectionVars false
namespace Go.Wk
open Go.HL
variable [DM]
theorem u8b {n : Int} (h : IntKind.u8.min ≤ n ∧ n ≤ IntKind.u8.max) : 0 ≤ n ∧ n ≤ 255 := h
def fourA (f n : Int) : Ad := (false, mkB 16 [f, 1, 1, n, 0, 0, 0, 0, 0, 0, 0, 0, 0, 0, 0, 0])
theorem four20_ok {f n : Int} {Q : Ad → Prop} (hf : 0 ≤ f ∧ f < 256) (hn : 0 ≤ n ∧ n < 256) (h : Q (fourA f n)) : law20_four_W f n Q := ⟨hn, hf, h⟩
theorem fourA_good (f n : Int) : aGood (fourA f n) = true := by
  unfold aGood fourA; simp only [Bool.false_or, decide_eq_true_eq]; rfl
theorem fourA_grp (n : Int) : aGrp (fourA 239 n) = true := by
  unfold aGrp fourA
  simp only [Bool.false_eq_true, if_false, decide_eq_true_eq]
  have : b8 (mkB 16 [239, 1, 1, n, 0, 0, 0, 0, 0, 0, 0, 0, 0, 0, 0, 0]) 0 = 239 := rfl
  rw [this]; decide
theorem fourA_loc {n : Int} {Q : Bool → Prop} (h : Q false) : addr_Local_W (fourA 239 n) Q := by
  have h0 : b8 (fourA 239 n).2 0 = 239 := rfl
  have h1 : b8 (fourA 239 n).2 1 = 1 := rfl
  have g : ∀ {Q : Bool → Prop}, Q true → addr_group_W (fourA 239 n) Q := by
    intro Q h
    refine ⟨fun c => (by cases c), fun _ => ?_⟩
    rw [h0]; exact h
  have beg : ∀ (b : Str) {Q : Bool → Prop}, b = [(224 : UInt8), (0 : UInt8), (0 : UInt8)] ∨ b = [(239 : UInt8), (255 : UInt8)] → Q false → addr_begins_W (fourA 239 n) b Q := by
    intro b Q hb h
    refine ⟨fun c => ⟨by omega, ?_⟩, fun c => ?_⟩
    · rcases hb with rfl | rfl
      · exact h
      · exact h
    · exact h
  refine g ⟨fun _ => g ⟨fun c => (by cases c), fun _ => ⟨fun c => (by cases c), fun _ => beg _ (.inl rfl) ⟨fun c => (by cases c), fun _ => beg _ (.inr rfl) ⟨fun c => (by cases c), fun _ => ⟨fun _ => ⟨fun c => ?_, fun _ => h⟩, fun c => absurd h0 c⟩⟩⟩⟩⟩, fun c => (by cases c)⟩
  rw [h1] at c; exact absurd c (by decide)
theorem mget_key {κ ν : Type} [DecidableEq κ] {m : List (κ × ν)} {k : κ} {x : ν} (h : mget m k = some x) : (k, x) ∈ m := by
  induction m with
  | nil => simp [mget_nil] at h
  | cons p r ih =>
    rw [mget_cons] at h
    split at h
    · rename_i e; injection h with h; subst h; subst e; exact List.mem_cons_self ..
    · exact List.mem_cons_of_mem _ (ih h)
theorem mgetD_cases {m : Wm} {g : Ad} : mgetD z_api_Filter m g = z_api_Filter ∨ ∃ p ∈ m, p.2 = mgetD z_api_Filter m g := by
  unfold mgetD
  cases e : mget m g with
  | none => exact .inl rfl
  | some x => exact .inr ⟨_, mget_key e, rfl⟩
theorem wantOk_of {m : Wm} (h : ∀ p ∈ m, ASet p.2.2.2 ∧ p.2.2.2.length ≤ 100) : WantOk m := ⟨fun g => by
  rcases mgetD_cases (m := m) (g := g) with e | ⟨p, hp, e⟩
  · rw [e]; exact ⟨ASet.nil, by decide⟩
  · rw [← e]; exact h p hp⟩
theorem one_rep {r : List Tk} {v6 : Bool} {x : Rb} (h : r.map tb = [mkT v6 [x]]) : ∃ (t : Tk) (c : Rec), r = [t] ∧ t.2.2.2.2.2.2.2.2.2.2 = [c] ∧ rk c = x := by
  match r, h with
  | [t], h =>
    have h1 : tb t = mkT v6 [x] := by simpa using h
    have h2 : t.2.2.2.2.2.2.2.2.2.2.map rk = [x] := congrArg (fun z : Tb => z.2.2.2.2.2.2.2.2.2) h1
    match e : t.2.2.2.2.2.2.2.2.2.2, h2 with
    | [c], h2 => exact ⟨t, c, rfl, e, by simpa using h2⟩
  | [], h => simp at h
  | _ :: _ :: _, h => simp at h
theorem perm_one {α : Type} {l : List α} {a : α} (h : l.Perm [a]) : l = [a] := List.perm_singleton.1 h
theorem livesH_ok {Q : Bool → Prop} (h : Q true) : law20_lives_W Q := by
  have e0 : nowB 0 0 = 0 := rfl
  have e1 : nowB 0 1 = 1 := rfl
  unfold law20_lives_W host_New_W
  refine four20_ok (by decide) (by decide) ?_
  refine setH_ok (fourA_good _ _) (fourA_grp _) fourA_loc rfl (by simp) (fun _ => ASet.nil) (by simp) (wantOk_of (by simp)) (by decide) (by decide) (fun c => absurd c (by simp)) (fun _ _ _ c => absurd c (by simp)) ?_
  intro _ _ r m' _ hm hr
  obtain ⟨v, rfl⟩ := hm rfl
  obtain ⟨t, c, rfl, ht, hc⟩ := one_rep (x := (4, fourA 239 1, [])) hr
  rw [e0]
  refine hearH_ok (wantOk_of ?_) (by simp [mset]) (by decide) (by decide) (by decide) (by decide) ?_
  · intro p hp; simp [mset] at hp; subst hp; exact ⟨ASet.nil, by simp⟩
  · intro r2 ks hp _ hr2
    have hks : ks = [fourA 239 1] := perm_one hp
    subst hks
    have hcur : curL (mset ([] : Wm) (fourA 239 1) (true, (v, []))) [fourA 239 1] = [(2, fourA 239 1, [])] := by
      have : mgetD z_api_Filter (mset ([] : Wm) (fourA 239 1) (true, (v, []))) (fourA 239 1) = (true, (v, [])) := by
        unfold mgetD; rw [mget_mset, if_pos rfl]; rfl
      unfold curL
      rw [List.filter_cons, this]; simp [noneB, this, kindB]
    rw [hcur] at hr2
    obtain ⟨t2, c2, rfl, ht2, hc2⟩ := one_rep (x := (2, fourA 239 1, [])) hr2
    have g1 : gi [t] 0 = t := rfl
    have g2 : gi [t2] 0 = t2 := rfl
    refine ⟨fun _ => ⟨fun _ => ⟨by simp, ?_⟩, fun q => absurd rfl q⟩, fun q => absurd rfl q⟩
    rw [g1, ht]
    refine ⟨fun _ => ⟨by simp, fun _ => ⟨fun _ => ⟨by simp, ?_⟩, fun q => absurd rfl q⟩, fun q => absurd ?_ q⟩, fun q => absurd rfl q⟩
    · rw [g2, ht2]
      refine ⟨fun _ => ⟨by simp, ?_⟩, fun q => absurd rfl q⟩
      have : (gi [c2] 0).1 = 2 := congrArg (fun z : Rb => z.1) hc2
      rw [this]; exact h
    · exact congrArg (fun z : Rb => z.1) hc
theorem tmodR {n a : Int} (ha : 0 < a) (h : 0 ≤ n) : 0 ≤ n.tmod a ∧ n.tmod a < a := by
  rw [Int.tmod_eq_emod_of_nonneg h]; exact ⟨Int.emod_nonneg _ (by omega), Int.emod_lt_of_pos _ ha⟩
end Go.Wk
