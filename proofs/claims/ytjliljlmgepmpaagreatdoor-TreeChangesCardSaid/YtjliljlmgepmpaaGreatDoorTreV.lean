/- The text of a tree, written and read; the tree that shows that the statements live. -/
import Derived.Test.YtjliljlmgepmpaaGreatDoorTreQ
set_option linter.unusedSimpArgs false
set_option linter.unusedVariables false
set_option linter.unusedSectionVars false
namespace Go.Wk
open Go.HL
variable [DM]
def pc (e : Br) : Str := ([32] ++ itoaS e.1 ++ [62] ++ itoaS e.2).tail
def txt (r : Int) (L : List Br) : Str := itoaS r ++ L.flatMap fun e => [32] ++ itoaS e.1 ++ [62] ++ itoaS e.2
def Sm (L : List Br) : Prop := ∀ e ∈ L, I64 e.1 ∧ I64 e.2
theorem pc_eq (e : Br) : pc e = itoaS e.1 ++ 62 :: itoaS e.2 := by unfold pc; simp
theorem pc_len {e : Br} (h : I64 e.1 ∧ I64 e.2) : (pc e).length ≤ 43 := by
  have := itoa_len h.1; have := itoa_len h.2
  rw [pc_eq, List.length_append, List.length_cons]; omega
theorem pc_no (e : Br) : (32 : UInt8) ∉ pc e := by
  rw [pc_eq, List.mem_append, List.mem_cons]
  rintro (h | h | h)
  · exact itoa_no.1 h
  · exact absurd h (by decide)
  · exact itoa_no.1 h
theorem txt_join (r : Int) (L : List Br) : txt r L = joinS (itoaS r :: L.map pc) [32] := by
  have : ∀ (L : List Br) (x : Str), x ++ L.flatMap (fun e => [32] ++ itoaS e.1 ++ [62] ++ itoaS e.2) = joinS (x :: L.map pc) [32] := by
    intro L
    induction L with
    | nil => intro x; simp [joinS_one]
    | cons e L ih =>
      intro x
      rw [List.map_cons, joinS_cons, ← ih, List.flatMap_cons, pc_eq]; simp
  exact this L _
theorem txt_split (r : Int) (L : List Br) : splitS (txt r L) [32] = itoaS r :: L.map pc := by
  rw [txt_join]
  refine split_join (by simp) fun x hx => ?_
  rcases List.mem_cons.1 hx with rfl | hx
  · exact itoa_no.1
  · obtain ⟨e, _, rfl⟩ := List.mem_map.1 hx
    exact pc_no e
theorem txt_len {r : Int} {L : List Br} (hr : I64 r) (hL : Sm L) : (txt r L).length ≤ 21 + L.length * 44 := by
  have : ∀ L : List Br, Sm L → (L.flatMap fun e => [32] ++ itoaS e.1 ++ [62] ++ itoaS e.2).length ≤ L.length * 44 := by
    intro L
    induction L with
    | nil => intro _; simp
    | cons e L ih =>
      intro h
      have h1 := h e (by simp)
      have := itoa_len h1.1; have := itoa_len h1.2
      have := ih fun x hx => h x (List.mem_cons_of_mem _ hx)
      rw [List.flatMap_cons, List.length_append]
      simp only [List.length_append, List.length_cons, List.length_nil] at *
      omega
  have h9 := this L hL
  have := itoa_len hr
  unfold txt; rw [List.length_append]; omega
theorem txt_snoc (r : Int) (L : List Br) (e : Br) : txt r (L ++ [e]) = txt r L ++ ((([32] ++ itoaS e.1) ++ [62]) ++ itoaS e.2) := by
  unfold txt; rw [List.flatMap_append]; simp
theorem text_ok {r : Int} {L : List Br} {Q : Str → Prop} (hr : I64 r) (hL : Sm L) (hl : L.length ≤ 1000) (h : Q (txt r L)) : tree_text_W r L Q := by
  have hrl := itoa_len hr
  refine ⟨hr, by simp only [List.length_nil]; omega, ?_⟩
  refine loop_up L.length (fun i s => s = txt r (L.take i)) (by simp [txt]) fun K i s hi hs hK => ?_
  show tree_text_l1 _ _ _ s (i : Int)
  unfold tree_text_l1
  refine ⟨fun c => ?_, fun c => ?_⟩
  · have hlt : i < L.length := by omega
    rw [gi_nat hlt]
    obtain ⟨e1, e2⟩ := hL L[i] (List.getElem_mem hlt)
    have l1 := itoa_len e1; have l2 := itoa_len e2
    have l3 := txt_len hr (L := L.take i) fun e he => hL e (List.take_subset _ _ he)
    rw [List.length_take] at l3
    have l4 : min i L.length * 44 ≤ 1000 * 44 := Nat.mul_le_mul_right _ (by omega)
    refine ⟨by omega, e1, ?_, ?_, e2, ?_, ?_, by unfold I64; omega, hK (i + 1) _ (by omega) hlt ?_⟩
    · simp only [List.length_cons, List.length_nil]; omega
    · simp only [List.length_append, List.length_cons, List.length_nil]; omega
    · simp only [List.length_append, List.length_cons, List.length_nil]; omega
    · rw [hs]; simp only [List.length_append, List.length_cons, List.length_nil]; omega
    · rw [List.take_succ_eq_append_getElem hlt, txt_snoc, hs]
  · have : i = L.length := by omega
    subst this
    rw [List.take_length] at hs; rw [hs]; exact h
theorem cut1_at {c : UInt8} {x r : Str} (h : c ∉ x) : cutS (x ++ c :: r) [c] = (x, r, true) := by
  unfold cutS Lib.cut
  rw [idx_at h, if_pos (by omega)]
  simp
theorem cutS_len (s sep : Str) : (cutS s sep).1.length ≤ s.length ∧ (cutS s sep).2.1.length ≤ s.length := by
  unfold cutS Lib.cut
  split
  · simp only [List.length_take, List.length_drop]; omega
  · simp
theorem link_ok {s : Str} (hl : s.length ≤ 1000) {Q : Br → Bool → Prop} (h : ∀ (e : Br) (ok : Bool), I64 e.1 ∧ I64 e.2 → (∀ b : Br, I64 b.1 ∧ I64 b.2 → s = pc b → e = b ∧ ok = true) → Q e ok) : tree_link_W s Q := by
  have hc := cutS_len s [62]
  refine ⟨by omega, atoi_ok (by omega) fun v e hv hve => atoi_ok (by omega) fun w f hw hwf => ?_⟩
  have key : ∀ b : Br, I64 b.1 ∧ I64 b.2 → s = pc b → (v = b.1 ∧ e = false) ∧ (w = b.2 ∧ f = false) ∧ (cutS s [62]).2.2 = true := by
    intro b hb hs
    have hcut : cutS s [62] = (itoaS b.1, itoaS b.2, true) := by rw [hs, pc_eq]; exact cut1_at itoa_no.2
    rw [hcut] at hve hwf ⊢
    exact ⟨hve _ hb.1 rfl, hwf _ hb.2 rfl, rfl⟩
  refine ⟨fun c1 => ⟨fun c2 => h (v, w) _ ⟨hv, hw⟩ fun b hb hs => ?_, fun c2 => h (v, w) _ ⟨hv, hw⟩ fun b hb hs => ?_⟩, fun c1 => h (v, w) _ ⟨hv, hw⟩ fun b hb hs => ?_⟩
  · obtain ⟨⟨k1, k2⟩, ⟨k3, k4⟩, k5⟩ := key b hb hs
    exact ⟨by rw [k1, k3], by rw [k4]; rfl⟩
  · obtain ⟨⟨k1, k2⟩, ⟨k3, k4⟩, k5⟩ := key b hb hs
    rw [k2] at c2; cases c2
  · obtain ⟨⟨k1, k2⟩, ⟨k3, k4⟩, k5⟩ := key b hb hs
    rw [k5] at c1; cases c1
theorem parse_ok {s : Str} (hl : s.length ≤ 900) {Q : Int → List Br → Int → Prop}
    (h1 : ∀ r L, Gd r L → I64 r → Sm L → s = txt r L → (∀ r' L', I64 r' → Sm L' → s = txt r' L' → r = r' ∧ L = L') → Q r L 0)
    (h2 : (∀ r L, Gd r L → I64 r → Sm L → s ≠ txt r L) → Q 0 [] 2) : tree_Parse_W s Q := by
  unfold tree_Parse_W
  refine ⟨⟨by omega, by simp⟩, ?_⟩
  have hsl := split_len s 32
  have hsm := split_mem s 32
  have hsn := split_ne s 32
  have hsp : ∀ r L, s = txt r L → splitS s [32] = itoaS r :: L.map pc := fun r L e => by rw [e]; exact txt_split r L
  unfold tree_Parse_l1
  generalize hS : splitS s [32] = l at *
  obtain ⟨p0, ps, rfl⟩ : ∃ p0 ps, l = p0 :: ps := by cases l with
    | nil => exact absurd rfl hsn
    | cons a r => exact ⟨a, r, rfl⟩
  have hg0 : gi (p0 :: ps) (0 : Int) = p0 := by
    have := gi_nat (l := p0 :: ps) (i := 0) (by simp)
    simpa using this
  have hcut : cut (p0 :: ps) 1 (((p0 :: ps).length : Nat) : Int) = ps := by unfold cut; simp
  rw [hg0, hcut]
  have hpl : ps.length ≤ 900 := by simp only [List.length_cons] at hsl; omega
  have hp0 := hsm p0 (by simp)
  refine ⟨by simp only [List.length_cons]; omega, atoi_ok (by omega) fun r0 e0 hr0 hre => ⟨by simp only [List.length_cons]; omega, by simp only [List.length_cons]; omega, ?_⟩⟩
  refine loop_up ps.length (fun i t => t.length = i ∧ Sm t ∧ ∀ L, Sm L → ps = L.map pc → t = L.take i) ⟨rfl, fun _ h => by simp at h, fun L _ _ => by simp⟩ fun K i t hi ⟨ht, htS, htL⟩ hK => ?_
  dsimp only
  refine ⟨fun c => ?_, fun c => ?_⟩
  · have hlt : i < ps.length := by omega
    rw [gi_nat hlt]
    have hpi := hsm ps[i] (List.mem_cons_of_mem _ (List.getElem_mem hlt))
    refine ⟨by omega, by simp only [List.length_cons]; omega, link_ok (by omega) fun e ok he hek => ⟨fun cok => h2 fun r L g hr hL es => ?_, fun cok => ⟨?_, by unfold I64; omega, hK (i + 1) _ (by omega) hlt ⟨?_, ?_, fun L hL ep => ?_⟩⟩⟩⟩
    · have := hsp r L es
      injection this with _ ep
      have hiL : i < L.length := by have := congrArg List.length ep; simp at this; omega
      have hpp : ps[i] = pc L[i] := by simp only [ep, List.getElem_map]
      have := (hek L[i] (hL _ (List.getElem_mem hiL)) hpp).2
      rw [this] at cok; cases cok
    · simp only [List.length_cons, List.length_nil]; omega
    · rw [List.length_append, ht]; rfl
    · intro b hb
      rcases List.mem_append.1 hb with hb | hb
      · exact htS b hb
      · rw [List.mem_singleton] at hb; subst hb; exact he
    · have hiL : i < L.length := by have := congrArg List.length ep; simp at this; omega
      have hpp : ps[i] = pc L[i] := by simp only [ep, List.getElem_map]
      rw [List.take_succ_eq_append_getElem hiL, ← htL L hL ep, (hek L[i] (hL _ (List.getElem_mem hiL)) hpp).1]
  · have hi' : i = ps.length := by omega
    have huniq : ∀ r' L', I64 r' → Sm L' → s = txt r' L' → r0 = r' ∧ e0 = false ∧ t = L' := by
      intro r' L' hr' hL' es
      have := hsp r' L' es
      injection this with ep0 ep
      obtain ⟨k1, k2⟩ := hre r' hr' ep0
      refine ⟨k1, k2, ?_⟩
      rw [htL L' hL' ep]
      exact List.take_of_length_le (by have := congrArg List.length ep; simp at this; omega)
    refine ⟨fun ce => ⟨fun _ => h2 fun r L g hr hL es => ?_, fun q => by cases q⟩, fun ce => ?_⟩
    · rw [(huniq r L hr hL es).2.1] at ce; cases ce
    · refine good_ok (by omega) fun b hb => ⟨fun cb => ⟨fun _ => h2 fun r L g hr hL es => ?_, fun q => by cases q⟩, fun cb => ?_⟩
      · obtain ⟨k1, _, k3⟩ := huniq r L hr hL es
        rw [k1, k3] at hb
        rw [hb.2 g] at cb; cases cb
      · have hg : Gd r0 t := hb.1 (by rw [Bool.not_eq_false'] at cb; exact cb)
        refine text_ok hr0 htS (by omega) ⟨fun ct => h2 fun r L g hr hL es => ?_, fun ct => ?_⟩
        · obtain ⟨k1, _, k3⟩ := huniq r L hr hL es
          rw [k1, k3, ← es] at ct
          simp at ct
        · have es : s = txt r0 t := by
            rw [Bool.not_eq_false'] at ct; exact (of_decide_eq_true ct).symm
          exact h1 r0 t hg hr0 htS es fun r' L' hr' hL' es' => ⟨(huniq r' L' hr' hL' es').1, (huniq r' L' hr' hL' es').2.2⟩
/-! ### The tree that shows that the statements live -/
def lvL : List Br := [(1, 2), (1, 3), (3, 4)]
theorem itoa_dig {k : Nat} (h : k < 10) : itoaS (k : Int) = [dig k] := by rw [itoa_pos, numL_lt h]
theorem lv_txt : ([49, 32, 49, 62, 50, 32, 49, 62, 51, 32, 51, 62, 52] : Str) = txt 1 lvL := by
  have e1 : itoaS (1 : Int) = [49] := itoa_dig (k := 1) (by decide)
  have e2 : itoaS (2 : Int) = [50] := itoa_dig (k := 2) (by decide)
  have e3 : itoaS (3 : Int) = [51] := itoa_dig (k := 3) (by decide)
  have e4 : itoaS (4 : Int) = [52] := itoa_dig (k := 4) (by decide)
  unfold txt lvL
  simp only [List.flatMap_cons, List.flatMap_nil, e1, e2, e3, e4]; rfl
theorem lv3 : Rch lvL 1 3 := Rch.refl.step (x := 1) (by decide)
theorem lvG : Gd 1 lvL where
  root := by decide
  ends := by decide
  all := by
    intro e he
    simp only [lvL, List.mem_cons, List.not_mem_nil, or_false] at he
    rcases he with rfl | rfl | rfl
    · exact Rch.refl.step (x := 1) (by decide)
    · exact lv3
    · exact lv3.step (by decide)
  ris := by decide
  few := by decide
theorem lvS : Sm lvL := by
  intro e he
  simp only [lvL, List.mem_cons, List.not_mem_nil, or_false] at he
  rcases he with rfl | rfl | rfl <;> (unfold I64; simp)
theorem Pth.len_fun {r : Int} {L : List Br} (f : Int → Nat) (h0 : f r = 1) (hs : ∀ e ∈ L, f e.2 = f e.1 + 1) {x : Int} {p : List Int} (h : Pth L r x p) : p.length = f x := by
  induction h with
  | root => rw [h0]; rfl
  | step _ hl ih => rw [List.length_append, ih, hs _ hl]; rfl
theorem lvP : Pth lvL 1 4 [1, 3, 4] := ((Pth.root (L := lvL) (r := 1)).step (y := 3) (by decide)).step (y := 4) (by decide)
theorem lvD : DepthIs lvL 1 2 where
  le x p hp := by
    rw [hp.len_fun (fun x => if x = 1 then 1 else if x = 4 then 3 else 2) (by decide) (by decide)]
    split <;> (try split) <;> omega
  eq := ⟨4, _, lvP, rfl⟩
theorem lvLf : LeafIs lvL 1 [2, 4] where
  ris := by decide
  mem x := by
    rw [lvG.reach]
    constructor
    · intro h
      simp only [List.mem_cons, List.not_mem_nil, or_false] at h
      rcases h with rfl | rfl
      · exact ⟨.inr (by decide), by decide, by decide⟩
      · exact ⟨.inr (by decide), by decide, by decide⟩
    · rintro ⟨h, h1, h2⟩
      simp only [lvL, List.map_cons, List.map_nil, List.mem_cons, List.not_mem_nil, or_false] at h ⊢
      rcases h with h | rfl | rfl | rfl
      · exact absurd h h1
      · simp
      · exact absurd h2 (by decide)
      · simp
theorem lives_ok {Q : Bool → Prop} (h : Q true) : law32_lives_W Q := by
  refine parse_ok (by simp) (fun r L g hr hL es hu => ?_) fun hno => absurd lv_txt (hno 1 lvL lvG (by unfold I64; omega) lvS)
  obtain ⟨e1, e2⟩ := hu 1 lvL (by unfold I64; omega) lvS lv_txt
  subst e1; subst e2
  refine ⟨fun _ => depth_ok (by decide) lvG.toGd0 fun d _ hd => ?_, fun c => absurd rfl c⟩
  obtain rfl := hd.uniq lvD
  refine ⟨fun _ => leaves_ok (by decide) fun l hl => ?_, fun c => absurd rfl c⟩
  obtain rfl := hl.uniq lvLf
  refine eqI_ok (by decide) ⟨fun _ => path_ok (by decide) lvG.toGd0 (fun p hp => ?_) fun hn => absurd (.inr (by decide)) hn, fun c => absurd c (by decide)⟩
  obtain rfl := hp.uniq lvG.toGd0 lvP
  exact eqI_ok (by decide) (by simpa using h)
end Go.Wk
