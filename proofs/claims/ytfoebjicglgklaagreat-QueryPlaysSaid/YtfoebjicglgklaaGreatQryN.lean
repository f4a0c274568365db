/- Plain words: queries: wanted, told of, next; the laws QueryNil, QueryFull, QueryCounts. -/
import Derived.Test.YtfoebjicglgklaaGreatQryL
set_option linter.unusedSimpArgs false
set_option linter.unusedVariables false
set_option linter.unusedSectionVars false
namespace Go.Wk
open Go.HL
variable [DM]
variable {at_ : CM} {op : OM} {A : Qs}
def wantO (all : Bool) (cnt now : Int) (l : List Ad) (o : Oq) : Oq := ⟨o.g, now, if all = true then cnt else o.n, l.foldl (setS cnt) o.l⟩
def insO (L : List Oq) (o : Oq) : List Oq := (L.takeWhile fun p => decide (aCmp p.g o.g < 0)) ++ o :: L.dropWhile fun p => decide (aCmp p.g o.g < 0)
def Qs.want (A : Qs) (now cnt : Int) (g : Ad) (all : Bool) (src : List Ad) : Bool × Qs :=
  let B := A.settle now
  if aGood g = true ∧ aGrp g = true ∧ (all = true ∨ ofL src ≠ []) then
    if g ∈ gs B.L then (true, { B with L := B.L.map fun o => if o.g = g then wantO all cnt B.now (ofL src) o else o })
    else if 64 ≤ B.L.length then (false, B)
    else (true, { B with L := insO B.L (wantO all cnt B.now (ofL src) ⟨g, 0, 0, []⟩) })
  else (false, B)
theorem setS_vals {c : Int} {l : SM} {a : Ad} (hc : 1 ≤ c ∧ c ≤ 1000) (h : ∀ p ∈ l, 1 ≤ p.2 ∧ p.2 ≤ 1000) : ∀ p ∈ setS c l a, 1 ≤ p.2 ∧ p.2 ≤ 1000 := by
  intro p hp
  unfold setS at hp
  split at hp
  · obtain ⟨q, hq, rfl⟩ := List.mem_map.1 hp
    split
    · exact hc
    · exact h q hq
  · split at hp
    · exact h p hp
    · rcases mem_mid.1 hp with rfl | hp
      · exact hc
      · rw [List.takeWhile_append_dropWhile] at hp; exact h p hp
structure OkS (l : SM) : Prop where
  set : ASet (l.map Prod.fst)
  len : l.length ≤ 64
  v : ∀ p ∈ l, 1 ≤ p.2 ∧ p.2 ≤ 1000
theorem OkS.step {c : Int} {l : SM} {a : Ad} (h : OkS l) (hc : 1 ≤ c ∧ c ≤ 1000) (ha : aGood a = true) : OkS (setS c l a) :=
  ⟨(setS_keys h.set ha).1, (setS_keys h.set ha).2 h.len, setS_vals hc h.v⟩
theorem OkS.fold {c : Int} (hc : 1 ≤ c ∧ c ≤ 1000) : ∀ (ks : List Ad) (l : SM), OkS l → (∀ a ∈ ks, aGood a = true) → OkS (ks.foldl (setS c) l)
  | [], l, h, _ => h
  | a :: ks, l, h, hg => OkS.fold hc ks _ (h.step hc (hg a (by simp))) fun b hb => hg b (by simp [hb])
theorem insO_gs (L : List Oq) (o : Oq) (hn : o.g ∉ gs L) (hg : aGood o.g = true) : gs (insO L o) = ins (gs L) o.g := by
  unfold ins
  rw [if_neg (by rw [hg]; simp; exact hn)]
  unfold insO
  rw [gs_app, gs_cons]
  unfold gs
  rw [List.takeWhile_map, List.dropWhile_map]; rfl
theorem insO_len (L : List Oq) (o : Oq) : (insO L o).length = L.length + 1 := by
  unfold insO
  rw [List.length_append, List.length_cons, ← Nat.add_assoc, ← List.length_append, List.takeWhile_append_dropWhile]
theorem map_mid {pre post : List Oq} {o : Oq} {f : Oq → Oq} (h : ASet (gs (pre ++ o :: post))) : (pre ++ o :: post).map (fun p => if p.g = o.g then f p else p) = pre ++ f o :: post := by
  have hne := fun p hp => mid_ne (p := p) h hp
  have h1 : pre.map (fun p => if p.g = o.g then f p else p) = pre := by
    conv => rhs; rw [← List.map_id pre]
    exact List.map_congr_left fun p hp => by rw [if_neg (hne p (by simp [hp]))]; rfl
  have h2 : post.map (fun p => if p.g = o.g then f p else p) = post := by
    conv => rhs; rw [← List.map_id post]
    exact List.map_congr_left fun p hp => by rw [if_neg (hne p (by simp [hp]))]; rfl
  rw [List.map_append, List.map_cons, h1, h2, if_pos rfl]
theorem wantO_ok {all : Bool} {cnt now : Int} {l : List Ad} {o : Oq} (h : OkO o) (hc : 1 ≤ cnt ∧ cnt ≤ 1000) (hl : ∀ a ∈ l, aGood a = true) : OkO (wantO all cnt now l o) := by
  have hs := OkS.fold hc l o.l ⟨h.set, h.len, h.v⟩ hl
  refine ⟨hs.set, hs.len, ?_, ?_, hs.v⟩ <;> unfold wantO <;> simp only <;> split
  · omega
  · exact h.n0
  · omega
  · exact h.n1
theorem want_ok {now : Int} {t : T_api_Tune} {g : Ad} {all : Bool} {src : List Ad} {Q : Bool → Int → CM → Int → OM → Prop} (R : QR at_ op A) (hc : 1 ≤ t.2.2.2.2 ∧ t.2.2.2.2 ≤ 1000) (hl : src.length ≤ 10000)
    (h : ∀ at' op', QR at' op' (A.want now t.2.2.2.2 g all src).2 → Q (A.want now t.2.2.2.2 g all src).1 (A.want now t.2.2.2.2 g all src).2.now at' (A.want now t.2.2.2.2 g all src).2.first op') :
    query_Queries_Want_W A.now at_ A.first op now t g all src Q := by
  show srcs_Of_W src _
  refine ofP_ok hl (goodP_ok ?_)
  have hB : ∀ {b : Bool}, A.want now t.2.2.2.2 g all src = (b, A.settle now) → Q b (A.settle now).now at_ (A.settle now).first op := fun e => by
    have := h at_ op; rw [e] at this; exact this (R.frame rfl rfl)
  have hsg : ∀ a ∈ ofL src, aGood a = true := fun a ha => (mem_ofL.1 ha).2
  refine ⟨fun c => hB ?_, fun c => grpP_ok ⟨fun d => hB ?_, fun d => ?_⟩⟩
  · unfold Qs.want; simp only; rw [if_neg]; rintro ⟨q, _⟩; simp [q] at c
  · unfold Qs.want; simp only; rw [if_neg]; rintro ⟨_, q, _⟩; simp [q] at d
  · have hgood : aGood g = true := by simpa using c
    have hgrp : aGrp g = true := by simpa using d
    have main : (all = true ∨ ofL src ≠ []) → query_Queries_Want_j1 t g all Q (A.settle now).now (A.settle now).now at_ (A.settle now).first op (ofL src) := by
      intro hall
      have hw : A.want now t.2.2.2.2 g all src = if g ∈ gs (A.settle now).L then (true, { A.settle now with L := (A.settle now).L.map fun o => if o.g = g then wantO all t.2.2.2.2 (A.settle now).now (ofL src) o else o })
          else if 64 ≤ (A.settle now).L.length then (false, A.settle now)
          else (true, { A.settle now with L := insO (A.settle now).L (wantO all t.2.2.2.2 (A.settle now).now (ofL src) ⟨g, 0, 0, []⟩) }) := by
        unfold Qs.want; simp only; rw [if_pos ⟨hgood, hgrp, hall⟩]
      have RB : QR at_ op (A.settle now) := R.frame rfl rfl
      generalize A.settle now = B at hw RB hB ⊢
      unfold query_Queries_Want_j1 query_Queries_of_W
      have sources : ∀ (n : Int) (s0 l0 : SM) (op1 : OM), s0.Perm l0 → OkS l0 →
          (∀ (s : SM) (b r : Nat), s.Perm ((ofL src).foldl (setS t.2.2.2.2) l0) → Q true B.now (mset at_ (bOf g) B.now) B.first (mset op1 g ((b, r), (n, s)))) →
          query_Queries_Want_j2 t g Q B.now (ofL src) s0 B.now at_ B.first op1 n := by
        intro n s0 l0 op1 hp hs hQ
        refine loop_up (ofL src).length (fun i s => s.Perm (((ofL src).take i).foldl (setS t.2.2.2.2) l0)) (by simpa using hp) ?_
        intro K i s hi hI hK
        have hlen : (ofL src).length ≤ 10000 := Nat.le_trans (ofL_len src) hl
        have hok : OkS (((ofL src).take i).foldl (setS t.2.2.2.2) l0) := OkS.fold hc _ _ hs fun a ha => hsg a (List.mem_of_mem_take ha)
        show query_Queries_Want_l1 _ _ _ _ _ _ _ _ _ _ _ s (i : Int)
        unfold query_Queries_Want_l1
        refine ⟨fun c => ?_, fun c => key_ok ?_⟩
        · have hil : i < (ofL src).length := by omega
          have hgi : gi (ofL src) (i : Int) = (ofL src)[i] := gi_nat hil
          rw [hgi]
          have hst := setS_perm (c := t.2.2.2.2) (a := (ofL src)[i]) hI hok.set
          have ht : ((ofL src).take (i + 1)).foldl (setS t.2.2.2.2) l0 = setS t.2.2.2.2 (((ofL src).take i).foldl (setS t.2.2.2.2) l0) (ofL src)[i] := by
            rw [List.take_succ_eq_append_getElem hil, List.foldl_append]; rfl
          have j3 : ∀ b : Bool, (b = true ↔ ((mget s (ofL src)[i]).isSome = true ∨ s.length < 64)) → query_Queries_Want_j3 t (ofL src) s (i : Int) (fun x_1_1 n_1 => K (x_1_1, n_1)) b := by
            intro b hb
            unfold query_Queries_Want_j3
            rw [hgi]
            refine ⟨fun q => ⟨by (first | omega | (unfold I64; omega) | (simp only [List.length_append, List.length_cons, List.length_nil, List.length_take, List.length_drop] at *; omega) | (unfold I64; simp only [List.length_append, List.length_cons, List.length_nil, List.length_take, List.length_drop] at *; omega)), hK (i + 1) _ (by omega) (by omega) ?_⟩, fun q => ⟨by (first | omega | (unfold I64; omega) | (simp only [List.length_append, List.length_cons, List.length_nil, List.length_take, List.length_drop] at *; omega) | (unfold I64; simp only [List.length_append, List.length_cons, List.length_nil, List.length_take, List.length_drop] at *; omega)), hK (i + 1) _ (by omega) (by omega) ?_⟩⟩
            · show (mset s (ofL src)[i] t.2.2.2.2).Perm _
              rw [ht]; exact hst.1 (hb.1 q)
            · show s.Perm _
              rw [ht]; exact hst.2 fun z => by rw [hb.2 z] at q; cases q
          refine ⟨by (first | omega | (unfold I64; omega) | (simp only [List.length_append, List.length_cons, List.length_nil, List.length_take, List.length_drop] at *; omega) | (unfold I64; simp only [List.length_append, List.length_cons, List.length_nil, List.length_take, List.length_drop] at *; omega)), fun q => j3 _ (by simp [q]), fun q => j3 _ (by simp [q]; omega)⟩
        · have hil : i = (ofL src).length := by omega
          subst hil
          rw [List.take_length] at hI
          exact fun b r => hQ s b r hI
      refine ⟨fun c => ?_, fun c => ⟨fun d => ?_, fun d b0 r0 => ?_⟩⟩
      · -- it is there
        obtain ⟨x, hx⟩ : ∃ x, mget op g = some x := by
          cases e : mget op g with
          | none => rw [e] at c; cases c
          | some x => exact ⟨x, rfl⟩
        have hin := RB.opk g x hx
        obtain ⟨o, ho, hog⟩ := List.mem_map.1 hin
        subst hog
        obtain ⟨pre, post, hL⟩ := List.append_of_mem ho
        obtain ⟨j, s, hgo, hps⟩ := RB.opg o ho
        have hok := RB.lst o ho
        have hg0 : mget0 op o.g = (j, (o.n, s)) := by unfold mget0; rw [hgo]; rfl
        rw [hg0]
        rw [if_pos hin] at hw
        have hset := RB.set
        rw [hL] at hset
        have fin : ∀ (s' : SM) (b r : Nat), s'.Perm ((ofL src).foldl (setS t.2.2.2.2) o.l) → Q true B.now (mset at_ (bOf o.g) B.now) B.first (mset op o.g ((b, r), (if all = true then t.2.2.2.2 else o.n, s'))) := by
          intro s' b r hs'
          have hq := h (mset at_ (bOf o.g) B.now) (mset op o.g ((b, r), (if all = true then t.2.2.2.2 else o.n, s')))
          rw [hw] at hq
          refine hq ?_
          show QR _ _ { B with L := B.L.map fun p => if p.g = o.g then wantO all t.2.2.2.2 B.now (ofL src) p else p }
          rw [hL, map_mid hset]
          exact QR.put (A := B) (pre := pre) (post := post) (mid := [o]) (o := wantO all t.2.2.2.2 B.now (ofL src) o) (i := (b, r)) (s := s') (RB.frame (by show pre ++ ([o] ++ post) = B.L; rw [hL]; rfl) rfl) (by intro p hp; rw [List.mem_singleton] at hp; subst hp; rfl) (by rw [gs_app, gs_cons] at hset ⊢; exact hset) (nodup_mset RB.opn _ _) (fun k => by rw [mget_mset]; rfl) hs' (wantO_ok hok hc hsg) (by have := RB.len; rw [hL] at this; simpa using this)
        refine ⟨fun q => sources _ _ o.l _ hps ⟨hok.set, hok.len, hok.v⟩ fun s' b r hs' => ?_, fun q => sources _ _ o.l _ hps ⟨hok.set, hok.len, hok.v⟩ fun s' b r hs' => ?_⟩
        · have := fin s' b r hs'; rw [if_pos q] at this; exact this
        · have := fin s' b r hs'; rw [if_neg (by rw [q]; decide)] at this; exact this
      · have hno : g ∉ gs B.L := fun q => by
          rw [← RB.keys] at q
          obtain ⟨x, hx⟩ := mget_in.1 q
          rw [hx] at c; cases c
        rw [RB.oplen] at d
        rw [if_neg hno, if_pos (by omega)] at hw
        exact hB hw
      · have hno : g ∉ gs B.L := fun q => by
          rw [← RB.keys] at q
          obtain ⟨x, hx⟩ := mget_in.1 q
          rw [hx] at c; cases c
        rw [RB.oplen] at d
        rw [if_neg hno, if_neg (by omega)] at hw
        have hgn : ∀ a : Oq, a.g = g → gs (insO B.L a) = ins (gs B.L) g := fun a ha => by rw [insO_gs B.L a (by rw [ha]; exact hno) (by rw [ha]; exact hgood), ha]
        have fin : ∀ (s' : SM) (b r : Nat), s'.Perm ((ofL src).foldl (setS t.2.2.2.2) []) → Q true B.now (mset at_ (bOf g) B.now) B.first (mset (mset op g ((b0, r0), (default : TqL))) g ((b, r), (if all = true then t.2.2.2.2 else 0, s'))) := by
          intro s' b r hs'
          rw [mset_mset]
          have hq := h (mset at_ (bOf g) B.now) (mset op g ((b, r), (if all = true then t.2.2.2.2 else 0, s')))
          rw [hw] at hq
          refine hq ?_
          have hi := insO_len B.L (wantO all t.2.2.2.2 B.now (ofL src) ⟨g, 0, 0, []⟩)
          have hs2 : ASet (gs (insO B.L (wantO all t.2.2.2.2 B.now (ofL src) ⟨g, 0, 0, []⟩))) := by rw [hgn _ rfl]; exact RB.set.ins g
          show QR _ _ { B with L := insO B.L (wantO all t.2.2.2.2 B.now (ofL src) ⟨g, 0, 0, []⟩) }
          refine QR.put (op := op) (A := B) (mid := []) (o := wantO all t.2.2.2.2 B.now (ofL src) ⟨g, 0, 0, []⟩) (i := (b, r)) (s := s') ?_ (by simp) hs2 (nodup_mset RB.opn _ _) (fun k => by rw [mget_mset]; rfl) hs' (wantO_ok ⟨ASet.nil, by simp, by simp, by simp, by simp⟩ hc hsg) (by unfold insO at hi; rw [hi]; omega)
          rw [List.nil_append, List.takeWhile_append_dropWhile]; exact RB
        refine ⟨fun q => sources _ _ [] _ (List.Perm.refl _) ⟨ASet.nil, by simp, by simp⟩ fun s' b r hs' => ?_, fun q => sources _ _ [] _ (List.Perm.refl _) ⟨ASet.nil, by simp, by simp⟩ fun s' b r hs' => ?_⟩
        · have := fin s' b r hs'; rw [if_pos q] at this; exact this
        · have := fin s' b r hs'; rw [if_neg (by rw [q]; decide)] at this; exact this
    refine ⟨fun e => ⟨fun f => hB ?_, fun f => main (.inr fun q => f (by rw [q]; rfl))⟩, fun e => main (.inl (by simpa using e))⟩
    unfold Qs.want; simp only; rw [if_neg]
    rintro ⟨_, _, q | q⟩
    · simp [q] at e
    · exact q (List.length_eq_zero_iff.1 (by omega))
theorem open_ok {now first : Int} {Q : List T_api_Asked → Int → CM → Int → OM → Prop} (R : QR at_ op A) (h : ∀ out : List T_api_Asked, out.map rdAsk = A.L.map tldO → Q out now at_ first op) : query_Queries_Open_W now at_ first op Q := by
  refine groups_ok R ?_
  have h64 := R.len
  have hgl : ((gs A.L).length : Int) = A.L.length := by unfold gs; simp
  refine loop_by (fun s => s.2.2) A.L.length (fun i s => s.1 = op ∧ s.2.1.map rdAsk = (A.L.take i).map tldO) rfl ⟨rfl, rfl⟩ ?_
  rintro K i ⟨op2, out, _⟩ rfl hi ⟨e, ho⟩ hK
  have e : op2 = op := e
  subst e
  simp only at ho
  show query_Queries_Open_l1 now at_ first _ _ _ op2 out (i : Int)
  unfold query_Queries_Open_l1
  rw [hgl]
  have holen : out.length = i := by
    have := congrArg List.length ho
    simp only [List.length_map, List.length_take] at this; omega
  refine ⟨fun c => ?_, fun c => ?_⟩
  · have hil : i < A.L.length := by omega
    have hgi : gi (gs A.L) (i : Int) = A.L[i].g := by rw [gi_nat (by unfold gs; simpa using hil)]; unfold gs; simp
    rw [hgi]
    have htake : A.L.take (i + 1) = A.L.take i ++ [A.L[i]] := List.take_succ_eq_append_getElem hil
    have hmem : A.L[i] ∈ A.L := List.getElem_mem hil
    generalize A.L[i] = o at *
    obtain ⟨j, s, hgo, hps⟩ := R.opg o hmem
    have hok := R.lst o hmem
    have hg0 : mget0 op2 o.g = (j, (o.n, s)) := by unfold mget0; rw [hgo]; rfl
    rw [hg0]
    refine ⟨by (first | omega | (unfold I64; omega) | (simp only [List.length_append, List.length_cons, List.length_nil, List.length_take, List.length_drop] at *; omega) | (unfold I64; simp only [List.length_append, List.length_cons, List.length_nil, List.length_take, List.length_drop] at *; omega)), fun _ => asked_ok hps hok.set hok.len fun v => ⟨by simp; omega, by (first | omega | (unfold I64; omega) | (simp only [List.length_append, List.length_cons, List.length_nil, List.length_take, List.length_drop] at *; omega) | (unfold I64; simp only [List.length_append, List.length_cons, List.length_nil, List.length_take, List.length_drop] at *; omega)), ?_⟩, fun q => by rw [hgo] at q; cases q⟩
    rw [mset_same hgo]
    refine hK (i + 1) _ rfl (by omega) (by omega) ⟨rfl, ?_⟩
    show (out ++ ([((o.g.1, o.g.2), decide (0 < o.n), (v, o.l.map Prod.fst))] : List T_api_Asked)).map rdAsk = _
    rw [htake, List.map_append, List.map_append, ho]; rfl
  · have hil : i = A.L.length := by omega
    subst hil
    rw [List.take_length] at ho
    exact h out ho
def Qs.times (A : Qs) : List Int := A.on.toList ++ A.L.map (·.t)
theorem nextQ_ok {now first : Int} {Q : Int → Bool → Int → CM → Int → OM → Prop} (R : QR at_ op A) (h0 : A.times = [] → Q 0 false now at_ first op) (h1 : ∀ t ∈ A.times, (∀ u ∈ A.times, t ≤ u) → Q t true now at_ first op) : query_Queries_Next_W now at_ first op Q := by
  have hmem : ∀ u, u ∈ A.times ↔ ∃ k, (k, u) ∈ at_ := by
    intro u
    unfold Qs.times
    rw [List.mem_append, List.mem_map]
    constructor
    · rintro (h | ⟨o, ho, rfl⟩)
      · refine ⟨[], (mem_iff_mget R.atn _ _).2 ?_⟩
        rw [R.gen]; simpa using h
      · exact ⟨bOf o.g, (mem_iff_mget R.atn _ _).2 (R.atg o ho)⟩
    · rintro ⟨k, hk⟩
      have hk := (mem_iff_mget R.atn _ _).1 hk
      rcases R.atk k u hk with rfl | ⟨o, ho, rfl⟩
      · left; rw [R.gen] at hk; simp [hk]
      · right; refine ⟨o, ho, ?_⟩; rw [R.atg o ho] at hk; exact Option.some.inj hk
  refine next_ok R.atn (fun e => h0 ?_) fun k t hk hb => h1 t ((hmem t).2 ⟨k, hk⟩) fun u hu => ?_
  · cases ht : A.times with
    | nil => rfl
    | cons a r =>
      have : a ∈ A.times := by rw [ht]; simp
      obtain ⟨k, hk⟩ := (hmem a).1 this
      rw [e] at hk; cases hk
  · obtain ⟨k', hk'⟩ := (hmem u).1 hu
    have := hb _ hk'
    have e1 : mget0 at_ k = t := by unfold mget0; rw [(mem_iff_mget R.atn _ _).1 hk]; rfl
    have e2 : mget0 at_ k' = u := by unfold mget0; rw [(mem_iff_mget R.atn _ _).1 hk']; rfl
    unfold Bl at this
    simp only [e1, e2] at this
    exact Classical.byContradiction fun q => this (.inl (by omega))
def Q0 : Qs := ⟨0, none, 0, []⟩
theorem Q0_ok : QR [] [] Q0 := ⟨List.nodup_nil, rfl, fun o ho => (by cases ho), fun k t h => (by cases h), List.nodup_nil, fun g x h => (by cases h), fun o ho => (by cases ho), ASet.nil, fun o ho => (by cases ho), by decide⟩
theorem start_ok {now : Int} {t : T_api_Tune} {Q : Int → CM → Int → OM → Prop} (R : QR at_ op A) (ht : 0 ≤ t.2.1 ∧ t.2.1 ≤ 1000000) (h : ∀ at', QR at' op { A.settle now with first := t.1, on := some (A.settle now).now } → Q (A.settle now).now at' t.1 op) : query_Queries_Start_W A.now at_ A.first op now t Q := by
  have hd : 0 ≤ t.2.1.tdiv 4 ∧ t.2.1.tdiv 4 ≤ 1000000 := by
    rw [Int.tdiv_eq_ediv_of_nonneg ht.1]; omega
  exact ⟨by (first | omega | (unfold I64; omega) | (simp only [List.length_append, List.length_cons, List.length_nil, List.length_take, List.length_drop] at *; omega) | (unfold I64; simp only [List.length_append, List.length_cons, List.length_nil, List.length_take, List.length_drop] at *; omega)), h _ ((R.frame (B := A.settle now) rfl rfl).genset.frame rfl rfl)⟩
theorem lives22_ok {Q : Bool → Prop} (h : Q true) : law22_lives_W Q := by
  have hb : ∀ n o f, 0 ≤ n → n ≤ 100 → -10 ≤ f → f ≤ 10 → Bd ⟨n, o, f, []⟩ := fun n o f a b c d => ⟨a, by simp only; omega, by simp only; omega, by simp only; omega⟩
  have ht1 : (0 : Int) ≤ ((2, 12, 2, 2, 2) : T_api_Tune).2.1 ∧ ((2, 12, 2, 2, 2) : T_api_Tune).2.1 ≤ 1000000 := by decide
  have ht2 : (0 : Int) ≤ ((2, 12, 2, 2, 2) : T_api_Tune).2.2.2.1 ∧ ((2, 12, 2, 2, 2) : T_api_Tune).2.2.2.1 ≤ 1000000 := by decide
  refine start_ok (A := Q0) Q0_ok ht1 fun at1 R1 => ?_
  refine due_ok (A := ⟨0, some 0, 2, []⟩) R1 (hb _ _ _ (by decide) (by decide) (by decide) (by decide)) ht1 ht2 fun o1 at2 op2 _ R2 => ?_
  refine due_ok (A := ⟨0, some 3, 1, []⟩) (now := 2) R2 (hb _ _ _ (by decide) (by decide) (by decide) (by decide)) ht1 ht2 fun o2 at3 op3 _ R3 => ?_
  refine due_ok (A := ⟨2, some 3, 1, []⟩) (now := 3) R3 (hb _ _ _ (by decide) (by decide) (by decide) (by decide)) ht1 ht2 fun o3 at4 op4 _ R4 => ?_
  refine due_ok (A := ⟨3, some 15, 0, []⟩) (now := 14) R4 (hb _ _ _ (by decide) (by decide) (by decide) (by decide)) ht1 ht2 fun o4 at5 op5 _ R5 => ?_
  refine due_ok (A := ⟨14, some 15, 0, []⟩) (now := 15) R5 (hb _ _ _ (by decide) (by decide) (by decide) (by decide)) ht1 ht2 fun o5 at6 op6 _ R6 => ?_
  exact ⟨fun _ => ⟨fun _ => ⟨fun _ => ⟨fun _ => h, fun c => by cases c⟩, fun c => by cases c⟩, fun c => by cases c⟩, fun c => by cases c⟩
theorem tuneG_ok {t : T_api_Tune} {Q : Bool → Prop} (h0 : Q false) (h1 : (1 ≤ t.1 ∧ t.1 ≤ 7) → (1 ≤ t.2.1 ∧ t.2.1 ≤ 317440) → (1 ≤ t.2.2.2.1 ∧ t.2.2.2.1 ≤ 31744) → (1 ≤ t.2.2.2.2 ∧ t.2.2.2.2 ≤ 7) → Q true) : ref14_Good_W t Q := by
  have j1 : ∀ b, (b = false → (1 ≤ t.1 ∧ t.1 ≤ 7) ∧ (1 ≤ t.2.1 ∧ t.2.1 ≤ 317440) ∧ (1 ≤ t.2.2.2.2 ∧ t.2.2.2.2 ≤ 7)) → ref14_Good_j1 t Q b := by
    intro b hb
    refine ⟨fun _ => h0, fun c => ?_⟩
    obtain ⟨h2, h3, h4⟩ := hb c
    refine ⟨fun a1 => ⟨fun a2 => ⟨fun a3 => ⟨fun a4 => ?_, fun _ => h0⟩, fun _ => h0⟩, fun _ => h0⟩, fun _ => h0⟩
    by_cases e : t.2.2.1 ≤ t.2.1
    · rw [decide_eq_true e]; exact h1 h2 h3 ⟨by omega, by omega⟩ h4
    · rw [decide_eq_false e]; exact h0
  refine ⟨fun _ => j1 _ (by simp), fun a => ⟨fun _ => j1 _ (by simp), fun b => ⟨fun _ => j1 _ (by simp), fun c => ⟨fun _ => j1 _ (by simp), fun d => ⟨fun _ => j1 _ (by simp), fun e => j1 _ fun f => ?_⟩⟩⟩⟩⟩
  have f := of_decide_eq_false f
  exact ⟨⟨by omega, by omega⟩, ⟨by omega, by omega⟩, ⟨by omega, by omega⟩⟩
end Go.Wk
