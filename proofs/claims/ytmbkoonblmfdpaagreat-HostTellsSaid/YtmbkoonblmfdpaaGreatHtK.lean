/- Plain words: a port as the document has it, at one time: it holds what it is told. -/
import Derived.Test.YtmbkoonblmfdpaaGreatHtG
set_option linter.unusedSimpArgs false
set_option linter.unusedVariables false
set_option linter.unusedSectionVars false
namespace Go.Wk
open Go.HL
variable [DM]
structure agG (k : Int) (s : List Ad) (G : Gd) : Prop where
  now : G.2.1 = 1
  e : G.2.2.1.1 = decide (k = 2)
  on : G.2.2.1.2.1.2 = VH k s
  off : G.2.2.1.2.2.2 = Nh k s
  till : k = 2 -> 2 <= G.2.2.2.1
  tl : ∀ t ∈ G.2.2.2.2.1.2, 2 <= t.2
  len : G.2.2.2.2.1.2.length <= 1000
structure adB (v6 : Bool) (r : Rb) : Prop where
  kind : r.1 = 1 ∨ r.1 = 2
  some : r.1 = 1 -> r.2.2 ≠ []
  v : r.2.1.1 = v6
  good : wY r.2.1 = true
  grp : Py r.2.1 = true
  loc : loG r.2.1 = false
  set : vJ r.2.2
  len : r.2.2.length <= 6
  kinds : ∀ a ∈ r.2.2, a.1 = v6
structure Yc (L : List Oe) (m : Pl) (rs : List Rb) : Prop where
  perm : (L.map Prod.fst).Perm (rs.map fun r => r.2.1)
  nd : (L.map Prod.snd).Nodup
  has : ∀ x ∈ L, ∃ r ∈ rs, r.2.1 = x.1 /\ ∃ G, qU m x.2 = Option.some G /\ agG r.1 r.2.2 G
theorem Yc.len {L : List Oe} {m : Pl} {rs : List Rb} (h : Yc L m rs) : L.length = rs.length := by have := h.perm.length_eq; simpa using this
theorem Xt {k : Int} {s : List Ad} {Q : Bool -> Prop} (hk : k = 1 ∨ k = 2) (hs : k = 1 -> s ≠ []) (q : Q false) : AB (decide (k = 2)) (VH k s) (Nh k s) Q := by
  refine ⟨fun c => ?_, fun _ => q⟩
  have k1 : k = 1 := by rcases hk with rfl | rfl; rfl; cases c
  subst k1
  have : decide (((VH 1 s).length : Int) = 0) = false := decide_eq_false (by
    have := List.length_pos_iff.2 (hs rfl)
    show ¬ ((s.length : Int) = 0); omega)
  rw [this]; exact q
theorem Yc.upd {L : List Oe} {m : Pl} {rs : List Rb} {b : Nat} {G G' : Gd} (h : Yc L m rs) (hb : qU m b = some G) (hG : ∀ r : Rb, agG r.1 r.2.2 G -> agG r.1 r.2.2 G') : Yc L ((b, G') :: yA m b) rs := by
  refine ⟨h.perm, h.nd, fun x hx => ?_⟩
  obtain ⟨r, hr, e, G0, h0, g⟩ := h.has x hx
  refine ⟨r, hr, e, ?_⟩
  by_cases c : x.2 = b
  · rw [c] at h0 ⊢
    rw [hb] at h0; injection h0 with h0; subst h0
    exact ⟨G', by rw [nV, if_pos rfl], hG r g⟩
  · exact ⟨G0, by rw [nV, if_neg c, Rz, if_neg c]; exact h0, g⟩
abbrev PsQ := Pl -> Int -> Int -> Bool -> List Oe -> Int -> Int -> Prop
theorem UO {L : List Oe} {m : Pl} {rs : List Rb} {v6 fast : Bool} {YD most gr src : Int} {Q : PsQ} (hn : YD = 0 ∨ YD = 1) (hr : ∀ r ∈ rs, adB v6 r) (hl : rs.length <= 1000) (hP : Yc L m rs) (h : ∀ m', Yc L m' rs -> Q m' most 1 fast L gr src) : zI most YD fast L gr src 1 m Q := by
  have j : yQ most fast L gr src m Q 1 := by
    refine Iy (fun s => s.2.2) L.length (fun i s => Yc L s.1 rs /\ s.2.1 = L.take i) rfl ⟨hP, by simp⟩ ?_
    rintro K i ⟨m2, out, n⟩ hx hi ⟨h1, h2⟩ hK
    replace hx : n = i := hx
    replace h1 : Yc L m2 rs := h1
    replace h2 : out = L.take i := h2
    subst hx h2
    show yP most fast L gr src Q 1 _ m2 (L.take i) (i : Int)
    unfold yP
    have hll := hP.len
    refine ⟨fun c => ⟨by (first | omega | (unfold I64; omega) | (simp only [List.length_append, List.length_cons, List.length_nil, List.length_take, List.length_drop] at *; omega) | (unfold I64; simp only [List.length_append, List.length_cons, List.length_nil, List.length_take, List.length_drop] at *; omega)), ?_⟩, fun c => ?_⟩
    · have i1 : i < L.length := by omega
      rw [qB i1]
      obtain ⟨r, hr1, e1, G, hG, g⟩ := h1.has _ (List.getElem_mem i1)
      have rg := hr r hr1
      refine ⟨by rw [hG]; rfl, ?_⟩
      intro y hy m3 hm3
      have hyG : y = G := by rw [hy]; unfold D8; rw [hG]; rfl
      subst hyG
      refine Vm (.inr g.now) g.tl (fun q => g.till (by rw [g.e] at q; exact of_decide_eq_true q)) g.len ?_
      rw [g.e, g.on, g.off]
      refine Xt rg.kind rg.some ⟨fun _ => ⟨by (first | omega | (unfold I64; omega) | (simp only [List.length_append, List.length_cons, List.length_nil, List.length_take, List.length_drop] at *; omega) | (unfold I64; simp only [List.length_append, List.length_cons, List.length_nil, List.length_take, List.length_drop] at *; omega)), by (first | omega | (unfold I64; omega) | (simp only [List.length_append, List.length_cons, List.length_nil, List.length_take, List.length_drop] at *; omega) | (unfold I64; simp only [List.length_append, List.length_cons, List.length_nil, List.length_take, List.length_drop] at *; omega)), fun sv v2 v3 hne m4 hm4 => ?_⟩, fun c => (by cases c)⟩
      refine hK (i + 1) _ (by simp) (by omega) (by omega) ⟨?_, (List.take_succ_eq_append_getElem i1).symm⟩
      show Yc L m4 rs
      rw [hm4, hm3]
      refine h1.upd hG fun r2 g2 => ⟨rfl, ?_, ?_, ?_, g2.till, g2.tl, g2.len⟩
      · rw [← g.e]; exact g2.e
      · rw [← g.on]; exact g2.on
      · rw [← g.off]; exact g2.off
    · rw [List.take_of_length_le (by omega)]; exact h _ h1
  refine ZX ⟨fun _ => j, fun c => ?_⟩
  have : YD = 1 := by omega
  subst this; exact j
theorem adY {L : List Oe} {x : Oe} {m : Pl} {most now gr src : Int} {fast : Bool} {Q : PsQ} (hl : L.length <= 1000) (h : ∀ L', L'.Perm (x :: L) -> Q m most now fast L' gr src) : Il most now fast L gr src x m Q := by
  have j : ∀ n : Nat, n <= L.length -> zH most now fast L gr src x m Q n := by
    intro n hn
    unfold zH
    rw [ae3, agj]
    refine ⟨by omega, by omega, by (first | omega | (unfold I64; omega) | (simp only [List.length_append, List.length_cons, List.length_nil, List.length_take, List.length_drop] at *; omega) | (unfold I64; simp only [List.length_append, List.length_cons, List.length_nil, List.length_take, List.length_drop] at *; omega)), by (first | omega | (unfold I64; omega) | (simp only [List.length_append, List.length_cons, List.length_nil, List.length_take, List.length_drop] at *; omega) | (unfold I64; simp only [List.length_append, List.length_cons, List.length_nil, List.length_take, List.length_drop] at *; omega)), by omega, by (first | omega | (unfold I64; omega) | (simp only [List.length_append, List.length_cons, List.length_nil, List.length_take, List.length_drop] at *; omega) | (unfold I64; simp only [List.length_append, List.length_cons, List.length_nil, List.length_take, List.length_drop] at *; omega)), h _ ?_⟩
    have e : (([] ++ L.take n) ++ [x]) ++ L.drop n = L.take n ++ x :: L.drop n := by simp
    rw [e]
    refine List.perm_middle.trans ?_
    rw [List.take_append_drop]
  refine GG L.length (fun _ => True) trivial fun K i hi _ hK => ?_
  show Df _ _ _ _ _ _ _ _ _ _ _
  unfold Df
  exact ⟨fun c => ⟨by omega, aaK ⟨fun d => ⟨by (first | omega | (unfold I64; omega) | (simp only [List.length_append, List.length_cons, List.length_nil, List.length_take, List.length_drop] at *; omega) | (unfold I64; simp only [List.length_append, List.length_cons, List.length_nil, List.length_take, List.length_drop] at *; omega)), hK (i + 1) (by omega) (by omega) trivial⟩, fun d => j i hi⟩⟩, fun c => j i hi⟩
theorem YX {L : List Oe} {g : Ad} {m : Pl} {most now gr src : Int} {fast : Bool} {Q : Int -> PsQ} (hl : L.length <= 1000) (h0 : (∀ x ∈ L, x.1 ≠ g) -> Q (-1) m most now fast L gr src) (h1 : ∀ (i : Nat) (hi : i < L.length), L[i].1 = g -> Q i m most now fast L gr src) : Dh most now fast L gr src g m Q := by
  refine GG L.length (fun i => ∀ x ∈ L.take i, x.1 ≠ g) (by simp) fun K i hi hI hK => ?_
  show Bj _ _ _ _ _ _ _ _ _ _ _
  unfold Bj
  refine ⟨fun c => ⟨by omega, ?_⟩, fun c => ?_⟩
  · have i1 : i < L.length := by omega
    rw [qB i1]
    refine ⟨fun d => h1 i i1 d, fun d => ⟨by (first | omega | (unfold I64; omega) | (simp only [List.length_append, List.length_cons, List.length_nil, List.length_take, List.length_drop] at *; omega) | (unfold I64; simp only [List.length_append, List.length_cons, List.length_nil, List.length_take, List.length_drop] at *; omega)), hK (i + 1) (by omega) (by omega) ?_⟩⟩
    intro x hx
    rw [List.take_succ_eq_append_getElem i1] at hx
    rcases List.mem_append.1 hx with q | q
    · exact hI x q
    · rw [List.mem_singleton.1 q]; exact d
  · rw [List.take_of_length_le (by omega)] at hI; exact h0 hI
theorem U0 {v6 : Bool} {Q : Int -> Prop} (h : Q (OG v6)) : yS v6 Q := by
  refine ⟨fun c => ?_, fun c => ?_⟩ <;> (subst c; exact h)
theorem ace {v6 q : Bool} {YD aaZ rob ev : Int} {g0 : Ad} {ss : List Ad} {recs : List Rec} {rs : List Rb} {L : List Oe} {m : Pl} {Q : List fA -> PsQ} (hn : YD = 0 ∨ YD = 1) (hr : ∀ r ∈ rs ++ recs.map rk, adB v6 r) (hnd : ((rs ++ recs.map rk).map fun r => r.2.1).Nodup) (hl : (rs ++ recs.map rk).length <= 60)
    (hP : Yc L m rs) (h : ∀ out m' L', Yc L' m' (rs ++ recs.map rk) -> Q out m' 64 1 false L' 0 0) : FZ 64 YD false L 0 0 1 (2, 12, 2, 2, 2) v6 (OG v6) 2 aaZ g0 q rob ev ss recs m Q := by
  have hlen : rs.length + recs.length <= 60 := by rw [List.length_append, List.length_map] at hl; exact hl
  refine ⟨fun c => absurd c (by decide), fun _ => ⟨fun c => absurd rfl c, fun _ => U0 ⟨fun _ => ?_, fun c => absurd rfl c⟩⟩⟩
  refine UO hn (fun r q => hr r (List.mem_append_left _ q)) (by omega) hP fun m0 hP0 => ?_
  refine Iy (fun s => s.2.2.2.2.2.2.2.2) recs.length (fun i s => s.1 = 64 /\ s.2.1 = 1 /\ s.2.2.1 = false /\ s.2.2.2.2.1 = 0 /\ s.2.2.2.2.2.1 = 0 /\ s.2.2.2.2.2.2.2.1 = [] /\ Yc s.2.2.2.1 s.2.2.2.2.2.2.1 (rs ++ (recs.take i).map rk)) rfl ⟨rfl, rfl, rfl, rfl, rfl, rfl, by simpa using hP0⟩ ?_
  rintro K i ⟨a, b, c, L1, d, e, m1, out, n⟩ hx hi ⟨h1, h2, h3, h4, h5, h6, h7⟩ hK
  replace hx : n = i := hx
  replace h1 : a = 64 := h1
  replace h2 : b = 1 := h2
  replace h3 : c = false := h3
  replace h4 : d = 0 := h4
  replace h5 : e = 0 := h5
  replace h6 : out = [] := h6
  replace h7 : Yc L1 m1 (rs ++ (recs.take i).map rk) := h7
  subst hx h1 h2 h3 h4 h5 h6
  show Be (2, 12, 2, 2, 2) v6 (OG v6) 2 aaZ g0 q rob ev ss recs Q recs _ 64 1 false L1 0 0 m1 [] (i : Int)
  unfold Be
  have hL1 := h7.len
  rw [List.length_append, List.length_map, List.length_take] at hL1
  refine ⟨fun c => ⟨by omega, ?_⟩, fun c => ?_⟩
  · have i1 : i < recs.length := by omega
    have hmem : rk recs[i] ∈ rs ++ recs.map rk := List.mem_append_right _ (List.mem_map_of_mem (List.getElem_mem i1))
    have rg := hr _ hmem
    have hsplit : rs ++ recs.map rk = (rs ++ (recs.take i).map rk) ++ rk recs[i] :: (recs.drop (i + 1)).map rk := by
      rw [List.append_assoc, ← List.map_cons (f := rk), ← List.drop_eq_getElem_cons i1, ← List.map_append, List.take_append_drop]
    have hnew : ∀ x ∈ L1, x.1 ≠ recs[i].2.1 := by
      intro x hx hxe
      have h8 : x.1 ∈ (rs ++ (recs.take i).map rk).map fun r => r.2.1 := h7.perm.mem_iff.1 (List.mem_map_of_mem hx)
      rw [hsplit, List.map_append, List.nodup_append] at hnd
      exact hnd.2.2 _ h8 _ (by simp [rk]) hxe
    have hblk : ∀ {bb : Nat}, qU m1 bb = none -> ∀ x ∈ L1, x.2 ≠ bb := by
      intro bb hb x hx he
      obtain ⟨r, _, _, G, hG, _⟩ := h7.has x hx
      rw [he, hb] at hG; cases hG
    rw [qB i1]
    have ag6 : wY recs[i].2.1 = true := rg.good
    have ait : Py recs[i].2.1 = true := rg.grp
    have ais : loG recs[i].2.1 = false := rg.loc
    have rv : recs[i].2.1.1 = v6 := rg.v
    have abT : recs[i].1 = 1 ∨ recs[i].1 = 2 := rg.kind
    have aey : recs[i].1 = 1 -> recs[i].2.2.2 ≠ [] := rg.some
    refine YV ?_
    rw [ag6]
    refine ⟨fun c => (by cases c), fun _ => Xq ?_⟩
    rw [ait]
    refine ⟨fun c => (by cases c), fun _ => aa7 ?_⟩
    rw [ais]
    unfold yH
    rw [qB i1]
    refine ⟨fun c => (by cases c), fun _ => YX (by omega) (fun _ => ?_) fun k hk hke => absurd hke (hnew _ (List.getElem_mem hk))⟩
    refine ⟨fun c => absurd c (by decide), fun _ bb hb m7 hm7 => ?_⟩
    unfold Bi
    rw [qB i1]
    refine ⟨by rw [hm7, nV, if_pos rfl]; rfl, ⟨fun _ => U0 ⟨fun c => absurd c (Int.lt_irrefl _), fun _ => ?_⟩, fun c => absurd rfl c⟩⟩
    intro y hy m9 hm9
    have hy2 : y = (v6, 0, (false, (.slice none 0 0, []), (.slice none 0 0, [])), 0, ((none, 0, 0), ([] : List Tl)), 0, 0) := by
      rw [hy, hm7]; unfold D8; rw [nV, if_pos rfl, rv]; rfl
    subst hy2
    refine acV abT rg.set rg.len rg.kinds fun Full till tl t1 t2 t3 => ?_
    intro sv v8 v9 hn0 m10 afB
    have fin : ∀ (m14 : Pl) (L2 : List Oe), m14 = (bb, (v6, 1, (decide (recs[i].1 = 2), (v8, VH recs[i].1 recs[i].2.2.2), (v9, Nh recs[i].1 recs[i].2.2.2)), till, (sv, tl), 0, 0)) :: yA m10 bb -> L2.Perm ((recs[i].2.1, bb) :: L1) -> Yc L2 m14 (rs ++ (recs.take (i + 1)).map rk) := by
      intro m14 L2 ad7 hL2
      have e : rs ++ (recs.take (i + 1)).map rk = (rs ++ (recs.take i).map rk) ++ [rk recs[i]] := by
        rw [List.take_succ_eq_append_getElem i1, List.map_append, List.append_assoc]; rfl
      rw [e]
      refine ⟨?_, ?_, ?_⟩
      · refine (hL2.map _).trans ?_
        rw [List.map_append]
        refine List.Perm.trans (List.Perm.cons _ h7.perm) ?_
        exact (List.perm_append_singleton _ _).symm
      · refine (hL2.map _).nodup_iff.2 ?_
        rw [List.map_cons, List.nodup_cons]
        refine ⟨fun q => ?_, h7.nd⟩
        obtain ⟨x, hx, e⟩ := List.mem_map.1 q
        exact hblk hb x hx e
      · intro x hx
        rcases List.mem_cons.1 (hL2.mem_iff.1 hx) with e | e
        · subst e
          refine ⟨rk recs[i], List.mem_append_right _ (List.mem_singleton.2 rfl), rfl, _, by rw [ad7, nV, if_pos rfl], ⟨rfl, rfl, rfl, rfl, fun q => ?_, fun t q => ?_, by show tl.length <= 1000; omega⟩⟩
          · show (2 : Int) <= till; rw [t1 q]; decide
          · have := t2 t q; omega
        · obtain ⟨r, hr2, e2, G, hG, g⟩ := h7.has x e
          have hb2 := hblk hb x e
          refine ⟨r, List.mem_append_left _ hr2, e2, G, ?_, g⟩
          · rw [ad7, nV, if_neg hb2, Rz, if_neg hb2, afB, nV, if_neg hb2, hm9, Rz, if_neg hb2, hm7, nV, if_neg hb2]; exact hG
    have hdec : decide ((64 : Int) <= (L1.length : Int)) = false := decide_eq_false (by omega)
    unfold Ez
    refine ⟨fun _ => Xt abT aey ⟨fun c => (by cases c), fun _ => ?_⟩, fun c => absurd (by decide) c⟩
    rw [hdec]
    unfold yG
    refine ⟨fun c => (by cases c), fun _ => ⟨fun _ => ⟨by rw [afB, nV, if_pos rfl]; rfl, ?_⟩, fun c => absurd (by decide) c⟩⟩
    intro y2 hy2 m12 aiT
    refine adY (by omega) fun L2 hL2 hn2 m14 ad7 => ?_
    have hy3 : y2 = (v6, 1, (decide (recs[i].1 = 2), (v8, VH recs[i].1 recs[i].2.2.2), (v9, Nh recs[i].1 recs[i].2.2.2)), till, (sv, tl), 0, 0) := by
      rw [hy2, afB]; unfold D8; rw [nV, if_pos rfl]; rfl
    subst hy3
    have hPn := fin m14 L2 (by rw [ad7, aiT]) hL2
    unfold Bh
    refine Xt abT aey ⟨fun _ => ⟨by decide, ?_⟩, fun c => (by cases c)⟩
    unfold Bg
    refine ⟨fun c => absurd c (by decide), fun _ => ?_⟩
    unfold Bf
    refine ⟨fun c => (by cases c), fun _ => ?_⟩
    unfold yF
    refine UO (v6 := v6) (.inr rfl) (fun r q => hr r ?_) ?_ hPn fun m15 ai7 => ⟨by (first | omega | (unfold I64; omega) | (simp only [List.length_append, List.length_cons, List.length_nil, List.length_take, List.length_drop] at *; omega) | (unfold I64; simp only [List.length_append, List.length_cons, List.length_nil, List.length_take, List.length_drop] at *; omega)), hK (i + 1) _ (by simp) (by omega) (by omega) ⟨rfl, rfl, rfl, rfl, rfl, rfl, ai7⟩⟩
    · rcases List.mem_append.1 q with q | q
      · exact List.mem_append_left _ q
      · refine List.mem_append_right _ ?_
        obtain ⟨z, hz, e⟩ := List.mem_map.1 q
        exact List.mem_map.2 ⟨z, List.mem_of_mem_take hz, e⟩
    · rw [List.length_append, List.length_map, List.length_take]; omega
  · rw [List.take_of_length_le (by omega)] at h7
    exact h _ _ _ h7
theorem aaW {g : Ad} {most now gr src : Int} {fast : Bool} {rs : List Rb} {L : List Oe} {m : Pl} {Q : Bool -> List Ad -> List Ad -> PsQ} (hl : rs.length <= 60) (hP : Yc L m rs)
    (h1 : ∀ r ∈ rs, r.2.1 = g -> ∀ m', Q (decide (r.1 = 2)) (VH r.1 r.2.2) (Nh r.1 r.2.2) m' most now fast L gr src) (h0 : (∀ r ∈ rs, r.2.1 ≠ g) -> ∀ m', Q false [] [] m' most now fast L gr src) : Ew most now fast L gr src g m Q := by
  have hll := hP.len
  refine YX (by omega) (fun q => ⟨fun c => absurd c (by decide), fun _ => h0 ?_ _⟩) fun i hi e => ⟨fun _ => ⟨by omega, ?_⟩, fun c => absurd (by omega) c⟩
  · intro r hr he
    have : r.2.1 ∈ L.map Prod.fst := hP.perm.mem_iff.2 (List.mem_map.2 ⟨r, hr, rfl⟩)
    obtain ⟨x, hx, hx2⟩ := List.mem_map.1 this
    exact q x hx (by rw [hx2, he])
  · rw [qB hi]
    obtain ⟨r, hr, e1, G, hG, gh⟩ := hP.has _ (List.getElem_mem hi)
    refine ⟨by rw [hG]; rfl, ?_⟩
    intro y hy m3 _ _ m4 _
    have hyG : y = G := by rw [hy]; unfold D8; rw [hG]; rfl
    subst hyG
    have := h1 r hr (by rw [e1, e]) m4
    rw [gh.e, gh.on, gh.off]
    exact this
end Go.Wk
