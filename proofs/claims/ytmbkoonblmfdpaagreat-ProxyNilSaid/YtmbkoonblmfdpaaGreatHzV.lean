/- Plain words: a host lives; what lives needs. -/
import Derived.Test.YtmbkoonblmfdpaaGreatHzR
set_option linter.unusedSimpArgs false
set_option linter.unusedVariables false
set_option linter.unusedSectionVars false
namespace Go.Wk
open Go.HL
variable [DM]
def fourA (f n : Int) : Ad := (false, mkB 16 [f, 1, 1, n, 0, 0, 0, 0, 0, 0, 0, 0, 0, 0, 0, 0])
theorem fourA_good (f n : Int) : aGood (fourA f n) = true := by
  unfold aGood fourA; simp only [Bool.false_or, decide_eq_true_eq]; rfl
theorem fourA_grp (n : Int) : aGrp (fourA 239 n) = true := by
  unfold aGrp fourA
  simp only [Bool.false_eq_true, if_false, decide_eq_true_eq]
  have : b8 (mkB 16 [239, 1, 1, n, 0, 0, 0, 0, 0, 0, 0, 0, 0, 0, 0, 0]) 0 = 239 := rfl
  rw [this]; decide
theorem fourA_inj {f m n : Int} (hm : 0 ≤ m ∧ m < 256) (hn : 0 ≤ n ∧ n < 256) (h : fourA f m = fourA f n) : m = n := by
  have h3 := congrArg (fun a : Ad => b8 a.2 3) h
  have e : ∀ z : Int, 0 ≤ z ∧ z < 256 → b8 (fourA f z).2 3 = z := fun z hz => by
    show ((UInt8.ofNat z.toNat).toNat : Int) = z
    rw [UInt8.toNat_ofNat']
    have : z.toNat % 2 ^ 8 = z.toNat := Nat.mod_eq_of_lt (by omega)
    rw [this]; omega
  simp only [e m hm, e n hn] at h3
  exact h3
theorem fourA_loc {n : Int} {Q : Bool → Prop} (h : Q false) : addr_Local_W (fourA 239 n) Q := by
  have h0 : b8 (fourA 239 n).2 0 = 239 := rfl
  have h1 : b8 (fourA 239 n).2 1 = 1 := rfl
  have g : ∀ {Q : Bool → Prop}, Q true → addr_group_W (fourA 239 n) Q := by
    intro Q h
    refine ⟨fun c => (by cases c), fun _ => ?_⟩
    rw [h0]; exact h
  have beg : ∀ (b : Str) {Q : Bool → Prop}, b = [(224 : UInt8), (0 : UInt8), (0 : UInt8)] ∨ b = [(239 : UInt8), (255 : UInt8)] → Q false → addr_begins_W (fourA 239 n) b Q := by
    intro b Q hb h
    refine ⟨fun c => ⟨by omega, ?_⟩, fun c => ?_⟩
    · rcases hb with rfl | rfl
      · exact h
      · exact h
    · exact h
  refine g ⟨fun _ => g ⟨fun c => (by cases c), fun _ => ⟨fun c => (by cases c), fun _ => beg _ (.inl rfl) ⟨fun c => (by cases c), fun _ => beg _ (.inr rfl) ⟨fun c => (by cases c), fun _ => ⟨fun _ => ⟨fun c => ?_, fun _ => h⟩, fun c => absurd h0 c⟩⟩⟩⟩⟩, fun c => (by cases c)⟩
  rw [h1] at c; exact absurd c (by decide)
theorem mget_key {κ ν : Type} [DecidableEq κ] {m : List (κ × ν)} {k : κ} {x : ν} (h : mget m k = some x) : (k, x) ∈ m := by
  induction m with
  | nil => simp [mget_nil] at h
  | cons p r ih =>
    rw [mget_cons] at h
    split at h
    · rename_i e; injection h with h; subst h; subst e; exact List.mem_cons_self ..
    · exact List.mem_cons_of_mem _ (ih h)
theorem mgetD_cases {m : Wm} {g : Ad} : mgetD z_api_Filter m g = z_api_Filter ∨ ∃ p ∈ m, p.2 = mgetD z_api_Filter m g := by
  unfold mgetD
  cases e : mget m g with
  | none => exact .inl rfl
  | some x => exact .inr ⟨_, mget_key e, rfl⟩
theorem wantOk_of {m : Wm} (h : ∀ p ∈ m, ASet p.2.2.2 ∧ p.2.2.2.length ≤ 100) : WantOk m := ⟨fun g => by
  rcases mgetD_cases (m := m) (g := g) with e | ⟨p, hp, e⟩
  · rw [e]; exact ⟨ASet.nil, by decide⟩
  · rw [← e]; exact h p hp⟩
theorem one_rep {r : List Tk} {v6 : Bool} {x : Rb} (h : r.map tb = [mkT v6 [x]]) : ∃ (t : Tk) (c : Rec), r = [t] ∧ t.2.2.2.2.2.2.2.2.2.2 = [c] ∧ rk c = x := by
  match r, h with
  | [t], h =>
    have h1 : tb t = mkT v6 [x] := by simpa using h
    have h2 : t.2.2.2.2.2.2.2.2.2.2.map rk = [x] := congrArg (fun z : Tb => z.2.2.2.2.2.2.2.2.2) h1
    match e : t.2.2.2.2.2.2.2.2.2.2, h2 with
    | [c], h2 => exact ⟨t, c, rfl, e, by simpa using h2⟩
  | [], h => simp at h
  | _ :: _ :: _, h => simp at h
theorem perm_one {α : Type} {l : List α} {a : α} (h : l.Perm [a]) : l = [a] := List.perm_singleton.1 h
end Go.Wk
