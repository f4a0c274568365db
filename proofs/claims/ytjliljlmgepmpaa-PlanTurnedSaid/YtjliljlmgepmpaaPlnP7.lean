/- Plain words: what is asked, as it may be; the tree that is made of it, and that it will do. -/
import Derived.Test.YtjliljlmgepmpaaPlnP6
set_option linter.unusedSimpArgs false
set_option linter.unusedVariables false
set_option linter.unusedSectionVars false
namespace Go.Wk
open Go.HL
variable [DM]
theorem copied_ok {l : List Int} {Q : List Int → Prop} (hl : l.length ≤ 1000000) (h : Q l) : law33_copied_W l Q := ⟨by simp; omega, h⟩
/-- What is asked, as it may be. -/
structure AskIs (r : Int) (m s : List Int) (k : Nat) : Prop where
  rm : m.Pairwise (· < ·)
  rs : s.Pairwise (· < ·)
  nm : r ∉ m
  ns : r ∉ s
  off : ∀ x ∈ s, x ∉ m
  lm : m.length ≤ 20
  ls : s.length ≤ 12
  fan : 1 ≤ k ∧ k ≤ 64
theorem own_ok {r f : Int} {M S : List Int} {Q : Int → List Int → List Int → Int → Prop} (hf : 0 ≤ f ∧ f < 256) (h : ∀ m s (k : Nat), AskIs r m s k → Q r m s (k : Int)) : law33_Ask_Own_W r M S f Q := by
  refine loop_by (fun s => s.2) 21 (fun i s => i ≤ 20 ∧ s.1.length ≤ i ∧ s.1.Pairwise (· < ·) ∧ r ∉ s.1) rfl ⟨by omega, by simp, by simp, by simp⟩ ?_
  rintro K i ⟨m, _⟩ rfl hi ⟨hi2, lm, hm, nm⟩ hK
  simp only at lm hm nm hi hi2
  have fin : law33_Ask_Own_j1 r M S f Q m (i : Int) (fun l_1 i_1 => K (l_1, i_1)) false := by
    refine ⟨fun c => (by cases c), fun _ => ?_⟩
    refine loop_by (fun s => s.2) 13 (fun i s => i ≤ 12 ∧ s.1.length ≤ i ∧ s.1.Pairwise (· < ·) ∧ r ∉ s.1 ∧ ∀ x ∈ s.1, x ∉ m) rfl ⟨by omega, by simp, by simp, by simp, by simp⟩ ?_
    rintro K2 n ⟨s, _⟩ rfl hn ⟨hn2, ls, hs, ns, hd⟩ hK2
    simp only at ls hs ns hd hn hn2
    have fin2 : law33_Ask_Own_j2 r S f Q m s (n : Int) (fun l_3 i_2 => K2 (l_3, i_2)) false := by
      refine ⟨fun c => (by cases c), fun _ => ?_⟩
      obtain ⟨f, rfl⟩ := Int.eq_ofNat_of_zero_le hf.1
      have t3 : ((f : Int).tmod 64) = ((f % 64 : Nat) : Int) := by rw [Int.tmod_eq_emod_of_nonneg (by omega)]; rfl
      rw [t3, u8w_nat (by omega)]
      have e3 : (1 + ((f % 64 : Nat) : Int)) = ((1 + f % 64 : Nat) : Int) := by omega
      rw [e3]
      exact ⟨by omega, by unfold I64; omega, by unfold I64; omega, h m s _ ⟨hm, hs, nm, ns, hd, by omega, by omega, by omega⟩⟩
    have step2 : n < S.length → n < 12 → law33_Ask_Own_j2 r S f Q m s (n : Int) (fun l_3 i_2 => K2 (l_3, i_2)) true := by
      intro h1 h2
      have hl := len_addI s S[n]
      refine ⟨fun _ => ?_, fun c => (by cases c)⟩
      rw [gi_nat h1]
      have j3 : ∀ b : Bool, (b = true → S[n] ≠ r ∧ S[n] ∉ m) → law33_Ask_Own_j3 S s (n : Int) (fun l_3 i_2 => K2 (l_3, i_2)) b := by
        intro b hb
        unfold law33_Ask_Own_j3
        rw [gi_nat h1]
        refine ⟨fun q => ⟨by omega, add_ok (by omega) ⟨by unfold I64; omega, hK2 (n + 1) _ rfl (by omega) (by omega) ⟨by omega, by simp only; omega, rise_addI hs, fun q2 => ?_, fun x hx => ?_⟩⟩⟩, fun q => ⟨by unfold I64; omega, hK2 (n + 1) _ rfl (by omega) (by omega) ⟨by omega, by simp only; omega, hs, ns, hd⟩⟩⟩
        · rcases mem_addI.1 q2 with e | e
          · exact (hb q).1 e.symm
          · exact ns e
        · rcases mem_addI.1 hx with e | e
          · rw [e]; exact (hb q).2
          · exact hd x e
      exact ⟨by omega, fun q => has_ok (by omega) (j3 _ fun q2 => ⟨q, by simpa using q2⟩), fun q => j3 false fun q2 => by cases q2⟩
    show law33_Ask_Own_l4 _ _ _ _ _ _ s (n : Int)
    unfold law33_Ask_Own_l4
    refine ⟨fun c => ?_, fun c => fin2⟩
    by_cases c2 : n < 12
    · rw [decide_eq_true (by omega : (n : Int) < 12)]; exact step2 (by omega) c2
    · rw [decide_eq_false (by omega : ¬ (n : Int) < 12)]; exact fin2
  show law33_Ask_Own_l2 _ _ _ _ _ _ m (i : Int)
  unfold law33_Ask_Own_l2
  refine ⟨fun c => ?_, fun c => fin⟩
  by_cases c2 : i < 20
  · rw [decide_eq_true (by omega : (i : Int) < 20)]
    have h1 : i < M.length := by omega
    have hl := len_addI m M[i]
    refine ⟨fun _ => ?_, fun c => (by cases c)⟩
    rw [gi_nat h1]
    refine ⟨by omega, fun q => add_ok (by omega) ⟨by unfold I64; omega, hK (i + 1) _ rfl (by omega) (by omega) ⟨by omega, by simp only; omega, rise_addI hm, fun q2 => ?_⟩⟩, fun q => ⟨by unfold I64; omega, hK (i + 1) _ rfl (by omega) (by omega) ⟨by omega, by simp only; omega, hm, nm⟩⟩⟩
    rcases mem_addI.1 q2 with e | e
    · exact q e.symm
    · exact nm e
  · rw [decide_eq_false (by omega : ¬ (i : Int) < 20)]; exact fin
/-! ### The tree that is made -/
def MadeT (r : Int) (m x : List Int) (fan : Nat) (L : List Br) : Prop :=
  (¬ FitsP m.length x.length fan ∧ L = m.map fun n => (r, n)) ∨
  ∃ k, NeedIs m.length fan k ∧ k ≤ x.length ∧ L.Perm (mkl r (x.take k) m fan) ∧ (L.Pairwise fun a b => ¬ blt b a)
theorem MadeT.uniq {r : Int} {m x : List Int} {fan : Nat} {L M : List Br} (h : MadeT r m x fan L) (k : MadeT r m x fan M) : L = M := by
  rcases h with ⟨h1, rfl⟩ | ⟨a, ha, hax, hp, hs⟩ <;> rcases k with ⟨k1, rfl⟩ | ⟨b, hb, hbx, kp, ks⟩
  · rfl
  · exact absurd ⟨b, hb, hbx⟩ h1
  · exact absurd ⟨a, ha, hax⟩ k1
  · have := ha.uniq hb; subst this
    exact sorted_uniq (hp.trans kp.symm) hs ks
section
variable {r : Int} {m x : List Int} {fan : Nat} {L : List Br}
theorem take_nd (hN : (r :: (x ++ m)).Nodup) (k : Nat) : (r :: (x.take k ++ m)).Nodup :=
  List.Nodup.sublist (List.Sublist.cons_cons _ ((List.take_sublist k x).append_right m)) hN
theorem MadeT.good (hN : (r :: (x ++ m)).Nodup) (hm : m.Pairwise (· < ·)) (hl : m.length + x.length < 256) (hf : 1 ≤ fan) (h : MadeT r m x fan L) : Gd r L := by
  have hn := (List.nodup_cons.1 hN)
  rcases h with ⟨h1, rfl⟩ | ⟨k, hk, hkx, hp, hs⟩
  · have hr : r ∉ m := fun q => hn.1 (List.mem_append_right _ q)
    exact { toGd0 := star_gd hr (rise_nodup hm), ris := star_ris hm, few := by simp; omega }
  · have hsl : (x.take k).length = k := by simp; omega
    have g := (mk_gd (fan := fan) (take_nd hN k) hf (by rw [hsl]; exact hk)).perm hp
    refine { toGd0 := g, ris := blt_strict hs (g.nd |> fun q => ?_), few := ?_ }
    · have := g.ends; exact (List.pairwise_map.1 this).imp fun {a b} q e => q (by rw [e])
    · rw [hp.length_eq, mkl_len, hsl]; omega
theorem MadeT.leaf (hN : (r :: (x ++ m)).Nodup) (hm : m.Pairwise (· < ·)) (hf : 1 ≤ fan) (h : MadeT r m x fan L) : LeafIs L r m := by
  have hn := (List.nodup_cons.1 hN)
  rcases h with ⟨h1, rfl⟩ | ⟨k, hk, hkx, hp, hs⟩
  · exact star_leaf (fun q => hn.1 (List.mem_append_right _ q)) hm
  · have hsl : (x.take k).length = k := by simp; omega
    exact (mk_leaf (take_nd hN k) hf (by rw [hsl]; exact hk) hm).perm hp
theorem MadeT.fanle (hN : (r :: (x ++ m)).Nodup) (hf : 1 ≤ fan) (h : MadeT r m x fan L) (hF : FitsP m.length x.length fan) {f : Nat} (hfi : FanIs L f) : f ≤ fan := by
  rcases h with ⟨h1, rfl⟩ | ⟨k, hk, hkx, hp, hs⟩
  · exact absurd hF h1
  · have hsl : (x.take k).length = k := by simp; omega
    rcases hfi.is with e | ⟨y, hy⟩
    · omega
    · rw [← hy, (kids_perm hp y).length_eq]
      exact mk_fan (take_nd hN k) hf (by rw [hsl]; exact hk) y
theorem MadeT.valid {s : List Int} (hN : (r :: (x ++ m)).Nodup) (hm : m.Pairwise (· < ·)) (hl : m.length + x.length < 256) (hf : 1 ≤ fan) (hs : s.Pairwise (· < ·)) (hx : x.Perm s) (h : MadeT r m x fan L) : ValidP r L r m s fan := by
  refine ⟨h.good hN hm hl hf, rfl, hm, hs, h.leaf hN hm hf, fun e he => ?_, fun f hfi => ?_⟩
  · rcases h with ⟨h1, rfl⟩ | ⟨k, hk, hkx, hp, _⟩
    · obtain ⟨n, _, rfl⟩ := List.mem_map.1 he; exact .inl rfl
    · have hsl : (x.take k).length = k := by simp; omega
      rcases mk_from hf (by rw [hsl]; exact hk) (hp.mem_iff.1 he) with q | q
      · exact .inl q
      · exact .inr (hx.mem_iff.1 (List.mem_of_mem_take q))
  · by_cases c : FitsP m.length x.length fan
    · exact .inl (h.fanle hN hf c hfi)
    · rcases h with ⟨h1, rfl⟩ | ⟨k, hk, hkx, _⟩
      · exact .inr ⟨by rw [← hx.length_eq]; exact h1, rfl⟩
      · exact absurd ⟨k, hk, hkx⟩ c
theorem makeT_ok {Q : Int → List Br → Prop} (hN : (r :: (x ++ m)).Nodup) (hm : m.Pairwise (· < ·)) (hl : m.length + x.length < 256) (hf : 1 ≤ fan ∧ fan ≤ 1000) (h : ∀ L, MadeT r m x fan L → Q r L) : plan_Make_W r m x (fan : Int) Q := by
  refine make_ok hl hf (fun hno => h _ (.inl ⟨fun ⟨k, hk, hkx⟩ => by have := hno k hk; omega, rfl⟩)) fun k hk hkx L hp hs => ⟨fun _ => h L (.inr ⟨k, hk, hkx, hp, hs⟩), fun c => absurd ?_ c⟩
  exact MadeT.good hN hm hl hf.1 (fan := fan) (.inr ⟨k, hk, hkx, hp, hs⟩)
theorem refMakeT_ok {Q : Int → List Br → Prop} (hm : m.Pairwise (· < ·)) (hl : m.length + x.length < 256) (hf : 1 ≤ fan ∧ fan ≤ 1000) (h : ∀ L, MadeT r m x fan L → Q r L) : ref33_Make_W r m x (fan : Int) Q :=
  refMake_ok hl hf (fun hno L hp hs => h L (.inl ⟨hno, sorted_uniq hp hs (blt_weak (star_ris hm))⟩)) fun k hk hkx L hp hs => h L (.inr ⟨k, hk, hkx, hp, hs⟩)
end
theorem AskIs.nd {r : Int} {m s x : List Int} {k : Nat} (a : AskIs r m s k) (hx : x.Perm s) : (r :: (x ++ m)).Nodup := by
  rw [List.nodup_cons, List.nodup_append]
  refine ⟨fun q => ?_, hx.nodup_iff.2 (rise_nodup a.rs), rise_nodup a.rm, fun y hy z hz e => ?_⟩
  · rcases List.mem_append.1 q with q | q
    · exact a.ns (hx.mem_iff.1 q)
    · exact a.nm q
  · subst e; exact a.off y (hx.mem_iff.1 hy) hz
end Go.Wk
