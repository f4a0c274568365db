/- Plain words: a host lives; what lives needs. -/
import Derived.Test.YtmbkoonblmfdpaaGreatHtR
set_option linter.unusedSimpArgs false
set_option linter.unusedVariables false
set_option linter.unusedSectionVars false
namespace Go.Wk
open Go.HL
variable [DM]
def Hq (f n : Int) : Ad := (false, NK 16 [f, 1, 1, n, 0, 0, 0, 0, 0, 0, 0, 0, 0, 0, 0, 0])
theorem abg {f n : Int} {Q : Ad -> Prop} (hf : 0 <= f /\ f < 256) (hn : 0 <= n /\ n < 256) (h : Q (Hq f n)) : JH f n Q := ⟨hn, hf, h⟩
theorem ZE (f n : Int) : wY (Hq f n) = true := by
  unfold wY Hq; simp only [Bool.false_or, decide_eq_true_eq]; rfl
theorem abf (n : Int) : Py (Hq 239 n) = true := by
  unfold Py Hq
  simp only [Bool.false_eq_true, if_false, decide_eq_true_eq]
  have : b8 (NK 16 [239, 1, 1, n, 0, 0, 0, 0, 0, 0, 0, 0, 0, 0, 0, 0]) 0 = 239 := rfl
  rw [this]; decide
theorem abe {n : Int} {Q : Bool -> Prop} (h : Q false) : DZ (Hq 239 n) Q := by
  have h0 : b8 (Hq 239 n).2 0 = 239 := rfl
  have h1 : b8 (Hq 239 n).2 1 = 1 := rfl
  have g : ∀ {Q : Bool -> Prop}, Q true -> A7 (Hq 239 n) Q := by
    intro Q h
    refine ⟨fun c => (by cases c), fun _ => ?_⟩
    rw [h0]; exact h
  have beg : ∀ (b : Str) {Q : Bool -> Prop}, b = [(224 : UInt8), (0 : UInt8), (0 : UInt8)] ∨ b = [(239 : UInt8), (255 : UInt8)] -> Q false -> BX (Hq 239 n) b Q := by
    intro b Q hb h
    refine ⟨fun c => ⟨by omega, ?_⟩, fun c => ?_⟩
    · rcases hb with rfl | rfl
      · exact h
      · exact h
    · exact h
  refine g ⟨fun _ => g ⟨fun c => (by cases c), fun _ => ⟨fun c => (by cases c), fun _ => beg _ (.inl rfl) ⟨fun c => (by cases c), fun _ => beg _ (.inr rfl) ⟨fun c => (by cases c), fun _ => ⟨fun _ => ⟨fun c => ?_, fun _ => h⟩, fun c => absurd h0 c⟩⟩⟩⟩⟩, fun c => (by cases c)⟩
  rw [h1] at c; exact absurd c (by decide)
theorem YK {κ ν : Type} [DecidableEq κ] {m : List (κ × ν)} {k : κ} {x : ν} (h : qU m k = some x) : (k, x) ∈ m := by
  induction m with
  | nil => simp [OC] at h
  | cons p r ih =>
    rw [nV] at h
    split at h
    · rename_i e; injection h with h; subst h; subst e; exact List.mem_cons_self ..
    · exact List.mem_cons_of_mem _ (ih h)
theorem YL {m : Wm} {g : Ad} : jM bM m g = bM ∨ ∃ p ∈ m, p.2 = jM bM m g := by
  unfold jM
  cases e : qU m g with
  | none => exact .inl rfl
  | some x => exact .inr ⟨_, YK e, rfl⟩
theorem Rf {m : Wm} (h : ∀ p ∈ m, vJ p.2.2.2 /\ p.2.2.2.length <= 100) : VE m := ⟨fun g => by
  rcases YL (m := m) (g := g) with e | ⟨p, hp, e⟩
  · rw [e]; exact ⟨vJ.nil, by decide⟩
  · rw [← e]; exact h p hp⟩
theorem aai {r : List Tk} {v6 : Bool} {x : Rb} (h : r.map tb = [mkT v6 [x]]) : ∃ (t : Tk) (c : Rec), r = [t] /\ t.2.2.2.2.2.2.2.2.2.2 = [c] /\ rk c = x := by
  match r, h with
  | [t], h =>
    have h1 : tb t = mkT v6 [x] := by simpa using h
    have h2 : t.2.2.2.2.2.2.2.2.2.2.map rk = [x] := congrArg (fun z : Tb => z.2.2.2.2.2.2.2.2.2) h1
    match e : t.2.2.2.2.2.2.2.2.2.2, h2 with
    | [c], h2 => exact ⟨t, c, rfl, e, by simpa using h2⟩
  | [], h => simp at h
  | _ :: _ :: _, h => simp at h
theorem abZ {α : Type} {l : List α} {a : α} (h : l.Perm [a]) : l = [a] := List.perm_singleton.1 h
theorem aa8 {Q : Bool -> Prop} (h : Q true) : Em Q := by
  have e0 : J8 0 0 = 0 := rfl
  have e1 : J8 0 1 = 1 := rfl
  unfold Em Ic
  refine abg (by decide) (by decide) ?_
  refine Z7 (ZE _ _) (abf _) abe rfl (by simp) (fun _ => vJ.nil) (by simp) (Rf (by simp)) (by decide) (by decide) (fun c => absurd c (by simp)) (fun _ _ _ c => absurd c (by simp)) ?_
  intro _ _ r m' _ hm hr
  obtain ⟨v, rfl⟩ := hm rfl
  obtain ⟨t, c, rfl, ht, hc⟩ := aai (x := (4, Hq 239 1, [])) hr
  rw [e0]
  refine YQ (Rf ?_) (by simp [zU]) (by decide) (by decide) (by decide) (by decide) ?_
  · intro p hp; simp [zU] at hp; subst hp; exact ⟨vJ.nil, by simp⟩
  · intro r2 ks hp _ hr2
    have hks : ks = [Hq 239 1] := abZ hp
    subst hks
    have ad9 : Ff (zU ([] : Wm) (Hq 239 1) (true, (v, []))) [Hq 239 1] = [(2, Hq 239 1, [])] := by
      have : jM bM (zU ([] : Wm) (Hq 239 1) (true, (v, []))) (Hq 239 1) = (true, (v, [])) := by
        unfold jM; rw [Wx, if_pos rfl]; rfl
      unfold Ff
      rw [List.filter_cons, this]; simp [Ej, this, YO]
    rw [ad9] at hr2
    obtain ⟨t2, c2, rfl, ht2, hc2⟩ := aai (x := (2, Hq 239 1, [])) hr2
    have g1 : gi [t] 0 = t := rfl
    have g2 : gi [t2] 0 = t2 := rfl
    refine ⟨fun _ => ⟨fun _ => ⟨by simp, ?_⟩, fun q => absurd rfl q⟩, fun q => absurd rfl q⟩
    rw [g1, ht]
    refine ⟨fun _ => ⟨by simp, fun _ => ⟨fun _ => ⟨by simp, ?_⟩, fun q => absurd rfl q⟩, fun q => absurd ?_ q⟩, fun q => absurd rfl q⟩
    · rw [g2, ht2]
      refine ⟨fun _ => ⟨by simp, ?_⟩, fun q => absurd rfl q⟩
      have : (gi [c2] 0).1 = 2 := congrArg (fun z : Rb => z.1) hc2
      rw [this]; exact h
    · exact congrArg (fun z : Rb => z.1) hc
end Go.Wk
