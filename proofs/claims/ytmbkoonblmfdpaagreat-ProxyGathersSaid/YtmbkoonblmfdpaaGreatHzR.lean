/- Plain words: hosts that listen: records packed into reports; what a host says of a change, and to a general query. -/
import Derived.Test.YtmbkoonblmfdpaaGreatHzP
set_option linter.unusedSimpArgs false
set_option linter.unusedVariables false
set_option linter.unusedSectionVars false
namespace Go.Wk
open Go.HL
variable [DM]
abbrev Rb := Int × Ad × List Ad
abbrev Tk := T_api_Talk
abbrev Tb := Bool × Int × Int × Int × Ad × Bool × Int × Int × List Ad × List Rb
def tb (t : Tk) : Tb := (t.1, t.2.1, t.2.2.1, t.2.2.2.1, t.2.2.2.2.1, t.2.2.2.2.2.1, t.2.2.2.2.2.2.1, t.2.2.2.2.2.2.2.1, t.2.2.2.2.2.2.2.2.1.2, t.2.2.2.2.2.2.2.2.2.2.map rk)
def szB (v6 : Bool) (r : Rb) : Int := if v6 then 20 + 16 * (r.2.2.length : Int) else 8 + 4 * (r.2.2.length : Int)
def packA (v6 : Bool) : List Rb → Int → List Rb → List (List Rb)
  | c, _, [] => [c]
  | c, room, r :: l => if c.length = 64 ∨ room < szB v6 r then c :: packA v6 [r] (1392 - szB v6 r) l else packA v6 (c ++ [r]) (room - szB v6 r) l
def packL (v6 : Bool) : List Rb → List (List Rb)
  | [] => []
  | r :: l => packA v6 [r] (1392 - szB v6 r) l
def lastV (v6 : Bool) : Int := if v6 then 2 else 3
def mkT (v6 : Bool) (l : List Rb) : Tb := (v6, lastV v6, 2, 0, (false, default), false, 0, 0, [], l)
theorem lastP_ok {v6 : Bool} {Q : Int → Prop} (h : Q (lastV v6)) : compat_Last_W v6 Q := by
  refine ⟨fun c => ?_, fun c => ?_⟩ <;> (subst c; exact h)
theorem sizeP_ok {v6 : Bool} {k : Int} {g : Ad} {s : List Ad} {Q : Int → Prop} (hl : s.length ≤ 1000000) (h : Q (szB v6 (k, g, s))) : host_size_W v6 k g s Q := by
  refine ⟨fun c => ?_, fun c => ?_⟩ <;> (subst c; exact ⟨by (first | omega | (unfold I64; omega) | (simp only [List.length_append, List.length_cons, List.length_nil, List.length_take, List.length_drop] at *; omega) | (unfold I64; simp only [List.length_append, List.length_cons, List.length_nil, List.length_take, List.length_drop] at *; omega)), by (first | omega | (unfold I64; omega) | (simp only [List.length_append, List.length_cons, List.length_nil, List.length_take, List.length_drop] at *; omega) | (unfold I64; simp only [List.length_append, List.length_cons, List.length_nil, List.length_take, List.length_drop] at *; omega)), h⟩)
theorem gi_last {α : Type} [Inhabited α] (o : List α) (t : α) : gi (o ++ [t]) (((o ++ [t]).length : Int) - 1) = t := by
  rw [gi_lt (by simp <;> omega) (by omega)]
  have : ((((o ++ [t]).length : Nat) : Int) - 1).toNat = o.length := by simp
  simp only [this]; simp
theorem set_last {α : Type} (o : List α) (t x : α) : (o ++ [t]).set (((o ++ [t]).length : Int) - 1).toNat x = o ++ [x] := by
  have : ((((o ++ [t]).length : Nat) : Int) - 1).toNat = o.length := by simp
  rw [this, List.set_append_right _ _ (Nat.le_refl _)]; simp
def setR (t : Tk) (x : Value × List Rec) : Tk := (t.1, t.2.1, t.2.2.1, t.2.2.2.1, t.2.2.2.2.1, t.2.2.2.2.2.1, t.2.2.2.2.2.2.1, t.2.2.2.2.2.2.2.1, t.2.2.2.2.2.2.2.2.1, x)
theorem packJ {l : List Rec} {i : Nat} (hi : i < l.length) {K : List Tk → Value → List Rec → Int → Int → Prop} {r2 room : Int} {o : List Tk} {t : Tk} {v : Value} {hot : List Rec} (ht : t.2.2.2.2.2.2.2.2.2 = (v, hot)) (hr : I64 (room - r2))
    (hn : i ≤ 1000000) (ho : hot.length ≤ i) (hol : o.length ≤ i) (hs : (l[i].2.2.2).length ≤ 100000) (h : ∀ (v5 : Value) (rec : Rec), rk rec = rk l[i] → K (o ++ [setR t (v5, hot ++ [rec])]) v5 (hot ++ [rec]) (room - r2) ((i : Int) + 1)) :
    host_pack_j1 l (i : Int) K r2 (o ++ [t]) v hot room (l[i].2.2.2) := by
  unfold host_pack_j1
  refine ⟨hr, clone_Ad (by omega) ?_⟩
  rw [gi_last, gi_nat hi]
  refine ⟨?_, ⟨by simp <;> omega, by omega⟩, ht, fun vr => ⟨by simp only [List.length_cons, List.length_nil]; omega, fun v5 => ⟨by omega, by (first | omega | (unfold I64; omega) | (simp only [List.length_append, List.length_cons, List.length_nil, List.length_take, List.length_drop] at *; omega) | (unfold I64; simp only [List.length_append, List.length_cons, List.length_nil, List.length_take, List.length_drop] at *; omega)), ?_⟩⟩⟩
  · unfold I64; simp; omega
  · rw [set_last]; exact h v5 _ rfl
structure PackInv (v6 : Bool) (l : List Rec) (i : Nat) (out : List Tk) (v : Value) (hot : List Rec) (room : Int) : Prop where
  is : (i = 0 ∧ out = []) ∨ ∃ (cs : List (List Rb)) (c : List Rb) (o : List Tk) (t : Tk), out = o ++ [t] ∧ o.map tb = cs.map (mkT v6) ∧ tb t = mkT v6 c ∧ t.2.2.2.2.2.2.2.2.2 = (v, hot) ∧ cs ++ packA v6 c room ((l.drop i).map rk) = packL v6 (l.map rk)
  hl : hot.length ≤ i
  ol : out.length ≤ i
  r1 : -100000000 ≤ room
  r2 : room ≤ 1392
theorem szB_rng {v6 : Bool} {r : Rb} (hs : r.2.2.length ≤ 100000) : 0 ≤ szB v6 r ∧ szB v6 r ≤ 2000000 := by
  unfold szB; split <;> omega
theorem tb_setR {t : Tk} {x : Value × List Rec} {v6 : Bool} {c : List Rb} (h : tb t = mkT v6 c) : tb (setR t x) = mkT v6 (x.2.map rk) := by
  unfold tb mkT at h ⊢; unfold setR
  simp only [Prod.mk.injEq] at h ⊢
  obtain ⟨h1, h2, h3, h4, h5, h6, h7, h8, h9, _⟩ := h
  exact ⟨h1, h2, h3, h4, h5, h6, h7, h8, h9, trivial⟩
theorem packP_ok {v6 : Bool} {l : List Rec} {Q : List Tk → Prop} (hl : l.length ≤ 1000000) (hs : ∀ r ∈ l, r.2.2.2.length ≤ 100000) (h : ∀ out, out.map tb = (packL v6 (l.map rk)).map (mkT v6) → Q out) : host_pack_W v6 l Q := by
  refine loop_by (fun s => s.2.2.2.2) l.length (fun i s => PackInv v6 l i s.1 s.2.1 s.2.2.1 s.2.2.2.1) rfl ⟨.inl ⟨rfl, rfl⟩, by simp, by simp, by simp, by simp⟩ ?_
  rintro K i ⟨out, v, hot, room, n⟩ hx hi hI hK
  replace hx : n = i := hx
  subst hx
  replace hI : PackInv v6 l i out v hot room := hI
  show host_pack_l1 v6 l Q _ out v hot room (i : Int)
  unfold host_pack_l1
  refine ⟨fun d => ⟨by (first | omega | (unfold I64; omega) | (simp only [List.length_append, List.length_cons, List.length_nil, List.length_take, List.length_drop] at *; omega) | (unfold I64; simp only [List.length_append, List.length_cons, List.length_nil, List.length_take, List.length_drop] at *; omega)), ?_⟩, fun d => ?_⟩
  · have i1 : i < l.length := by omega
    have hsi := hs _ (List.getElem_mem i1)
    have hz := szB_rng (v6 := v6) (r := rk l[i]) hsi
    have hdr : (l.drop i).map rk = rk l[i] :: (l.drop (i + 1)).map rk := by rw [List.drop_eq_getElem_cons i1]; rfl
    rw [gi_nat i1]
    have fresh : ∀ (cs : List (List Rb)), out.map tb = cs.map (mkT v6) → (∀ x, out.getLast? = some x → x.2.2.2.2.2.2.2.2.2 = (v, hot)) → cs ++ packA v6 [rk l[i]] (1392 - szB v6 (rk l[i])) ((l.drop (i + 1)).map rk) = packL v6 (l.map rk) →
        host_pack_j2 v6 l out room (i : Int) (fun out_1 v_1 hot_1 room_1 n_1 => K (out_1, v_1, hot_1, room_1, n_1)) (szB v6 (rk l[i])) v hot (l[i].2.2.2) true := by
      intro cs h1 h2 h3
      refine ⟨fun _ => lastP_ok ⟨h2, by have := hI.ol; simp only [List.length_cons, List.length_nil]; omega, ?_⟩, fun c => by cases c⟩
      have hr0 : I64 (1392 - szB v6 (rk l[i])) := by unfold I64; omega
      refine packJ i1 rfl hr0 (by omega) (by simp) hI.ol hsi fun v5 rec hr => ?_
      refine hK (i + 1) _ (by simp) (by omega) (by omega) ⟨.inr ⟨cs, [rk l[i]], out, _, rfl, h1, ?_, rfl, h3⟩, by simp, by have := hI.ol; simp; omega, by show (-100000000 : Int) ≤ 1392 - szB v6 (rk l[i]); omega, by show 1392 - szB v6 (rk l[i]) ≤ 1392; omega⟩
      rw [tb_setR (v6 := v6) (c := []) rfl]
      simp [hr]
    refine sizeP_ok (by omega) ?_
    have hk0 : szB v6 (l[i].1, l[i].2.1, l[i].2.2.2) = szB v6 (rk l[i]) := rfl
    rw [hk0]
    rcases hI.is with ⟨h0, h1⟩ | ⟨cs, c, o, t, ho, h1, h2, h3, h4⟩
    · subst h1
      subst h0
      refine ⟨fun _ => fresh [] rfl (by simp) ?_, fun q => absurd rfl q⟩
      have : l.map rk = rk l[0] :: (l.drop 1).map rk := by rw [← hdr]; simp
      rw [this]; rfl
    · have hpos : ¬ ((out.length : Int) = 0) := by rw [ho]; simp; omega
      have hcl : c = hot.map rk := by
        have : (tb t).2.2.2.2.2.2.2.2.2 = (mkT v6 c).2.2.2.2.2.2.2.2.2 := by rw [h2]
        have e : t.2.2.2.2.2.2.2.2.2.2 = hot := by rw [h3]
        have : t.2.2.2.2.2.2.2.2.2.2.map rk = c := this
        rw [← this, e]
      have hlast : ∀ x, out.getLast? = some x → x.2.2.2.2.2.2.2.2.2 = (v, hot) := by
        intro x hx; rw [ho] at hx; simp at hx; subst hx; exact h3
      have hnew : (c.length = 64 ∨ room < szB v6 (rk l[i])) → host_pack_j2 v6 l out room (i : Int) (fun out_1 v_1 hot_1 room_1 n_1 => K (out_1, v_1, hot_1, room_1, n_1)) (szB v6 (rk l[i])) v hot (l[i].2.2.2) true := by
        intro hc
        refine fresh (cs ++ [c]) (by rw [ho, List.map_append, List.map_append, h1]; simp [h2]) hlast ?_
        rw [← h4, hdr, packA, if_pos hc]; simp
      refine ⟨fun q => absurd q hpos, fun _ => ⟨fun q => hnew (.inr q), fun q => ⟨?_, ⟨by omega, by omega⟩, ?_, ?_⟩⟩⟩
      · have := hI.ol; unfold I64; omega
      · rw [ho, gi_last]; exact h3
      · by_cases e : hot.length = 64
        · rw [show decide ((hot.length : Int) = 64) = true from decide_eq_true (by omega)]
          exact hnew (.inl (by rw [hcl, List.length_map]; exact e))
        · rw [show decide ((hot.length : Int) = 64) = false from decide_eq_false (by omega)]
          refine ⟨fun c => (by cases c), fun _ => ?_⟩
          have hh := hI.hl
          rw [ho]
          have hr1 := hI.r1; have hr2 := hI.r2
          have hr0 : I64 (room - szB v6 (rk l[i])) := by unfold I64; omega
          refine packJ i1 h3 hr0 (by omega) hh (by have := hI.ol; rw [ho, List.length_append] at this; omega) hsi fun v5 rec hr => ?_
          refine hK (i + 1) _ (by simp) (by omega) (by omega) ⟨.inr ⟨cs, c ++ [rk l[i]], o, _, rfl, h1, ?_, rfl, ?_⟩, by simp; omega, by have := hI.ol; rw [ho] at this; simp at this ⊢; omega, by show -100000000 ≤ room - szB v6 (rk l[i]); omega, by show room - szB v6 (rk l[i]) ≤ 1392; omega⟩
          · rw [tb_setR h2, hcl]; simp [hr]
          · rw [← h4, hdr]
            conv => rhs; rw [packA]
            rw [if_neg (by rw [hcl, List.length_map]; omega)]
  · have i1 : i = l.length := by omega
    subst i1
    rcases hI.is with ⟨h0, h1⟩ | ⟨cs, c, o, t, ho, h1, h2, h3, h4⟩
    · subst h1
      refine ⟨by simp, h _ ?_⟩
      have : l = [] := List.length_eq_zero_iff.1 h0
      subst this; rfl
    · refine ⟨?_, h _ ?_⟩
      · intro x hx; rw [ho] at hx; simp at hx; subst hx; exact h3
      · rw [← h4, List.drop_length, ho, List.map_append, h1]
        simp [packA, h2]
theorem packA_len (v6 : Bool) : ∀ (l c : List Rb) (room : Int), (packA v6 c room l).length ≤ l.length + 1
  | [], c, room => by simp [packA]
  | r :: l, c, room => by
    rw [packA]; split
    · have := packA_len v6 l [r] (1392 - szB v6 r); simp only [List.length_cons]; omega
    · have := packA_len v6 l (c ++ [r]) (room - szB v6 r); simp only [List.length_cons]; omega
theorem packL_len (v6 : Bool) (l : List Rb) : (packL v6 l).length ≤ l.length := by
  cases l with
  | nil => simp [packL]
  | cons r l => have := packA_len v6 l [r] (1392 - szB v6 r); rw [packL]; simp only [List.length_cons]; omega
theorem recs_bd {n : Nat} {g : Ad} {e : Bool} {s : List Ad} {e2 : Bool} {t : List Ad} (ls : s.length ≤ n) (lt : t.length ≤ n) : ∀ r ∈ recsL g e s e2 t, r.2.2.length ≤ n := by
  have h1 : (minusL s t).length ≤ n := by have := minusL_len s t; omega
  have h2 : (minusL t s).length ≤ n := by have := minusL_len t s; omega
  have h3 : ∀ (k : Int) (l : List Ad), l.length ≤ n → ∀ r ∈ one1 k g l, r.2.2.length ≤ n := by
    intro k l hl r hr
    unfold one1 at hr; split at hr
    · cases hr
    · rw [List.mem_singleton.1 hr]; exact hl
  intro r hr
  unfold recsL at hr; split at hr
  · rcases List.mem_append.1 hr with q | q
    · refine h3 _ _ ?_ r q; cases e <;> simp <;> assumption
    · refine h3 _ _ ?_ r q; cases e <;> simp <;> assumption
  · rw [List.mem_singleton.1 hr]; exact lt
abbrev Wm := List (Ad × T_api_Filter)
theorem kindH_ok {v6 : Bool} {now one two : Int} {m : Wm} {l : List Ad} {Q : Bool → Prop} (hl : l.length ≤ 1000000) (h : ∀ b, (b = true ↔ ∀ a ∈ l, a.1 = v6) → Q b) : host_Host_kind_W v6 now m one two l Q := by
  refine ⟨fun a => !(a.1 == v6), fun x => rfl, indexFunc_Ad hl (fun q => ?_) (fun i hi q r => ?_)⟩
  · refine h _ ?_
    simp only [show decide ((0 : Int) ≤ -1) = false from rfl, Bool.not_false, true_iff]
    intro a ha; simpa using q a ha
  · refine h _ ?_
    rw [show decide ((0 : Int) ≤ (i : Int)) = true from decide_eq_true (by omega)]
    simp only [Bool.not_true, Bool.false_eq_true, false_iff]
    intro q2
    have := q2 _ (List.getElem_mem hi)
    rw [this] at q; simp at q
theorem modeH_ok {v6 : Bool} {now one two : Int} {m : Wm} {Q : Int → Prop} (h1 : one ≤ now) (h2 : two ≤ now) (h : Q (lastV v6)) : host_Host_mode_W v6 now m one two Q := by
  refine ⟨fun c => by omega, fun _ => ⟨fun c => ⟨fun d => by omega, fun _ => ?_⟩, fun c => ?_⟩⟩ <;> exact lastP_ok h
theorem saidH_ok {v6 : Bool} {now one two : Int} {m : Wm} {g : Ad} {e : Bool} {s : List Ad} {e2 : Bool} {t : List Ad} {Q : List Tk → Bool → Int → Wm → Int → Int → Prop} (h1 : one ≤ now) (h2 : two ≤ now) (hs : ASet s) (ht : ASet t) (ls : s.length ≤ 100) (lt : t.length ≤ 100)
    (h : ∀ r : List Tk, r.map tb = (packL v6 (recsL g e s e2 t)).map (mkT v6) → Q r v6 now m one two) : host_Host_said_W v6 now m one two g e s e2 t Q := by
  refine modeH_ok h1 h2 (lastP_ok ⟨fun _ => changeP_ok hs ht ls lt fun l hl => ?_, fun c => absurd (Int.le_refl _) c⟩)
  have hlen : l.length ≤ 2 := by have := congrArg List.length hl; rw [List.length_map] at this; have := recs_len g e s e2 t; omega
  refine packP_ok (by omega) (fun r hr => ?_) fun out ho => h out (by rw [ho, hl])
  have : rk r ∈ recsL g e s e2 t := by rw [← hl]; exact List.mem_map_of_mem hr
  have := recs_bd ls lt _ this
  show (rk r).2.2.length ≤ 100000
  omega
structure WantOk (m : Wm) : Prop where
  all : ∀ g, ASet (mgetD z_api_Filter m g).2.2 ∧ (mgetD z_api_Filter m g).2.2.length ≤ 100
def nowB (now t : Int) : Int := max now (min t 1000000000000)
theorem setH_ok {v6 : Bool} {now one two t : Int} {m : Wm} {g : Ad} {e : Bool} {s : List Ad} {Q : List Tk → Int → Bool → Int → Wm → Int → Int → Prop} (hg : aGood g = true) (hG : aGrp g = true) (hL : ∀ {Q' : Bool → Prop}, Q' false → addr_Local_W g Q') (hv : g.1 = v6) (hs : ∀ a ∈ s, a.1 = v6)
    (hS : s.length ≤ 64 → ASet s) (hl : s.length ≤ 100000) (hm : WantOk m) (h1 : one ≤ nowB now t) (h2 : two ≤ nowB now t)
    (big : 64 < s.length → Q [] 1 v6 (nowB now t) m one two)
    (full : s.length ≤ 64 → (mget m g).isSome = false → noneB e s = false → 64 ≤ m.length → Q [] 7 v6 (nowB now t) m one two)
    (ok : s.length ≤ 64 → ((mget m g).isSome = true ∨ noneB e s = true ∨ m.length < 64) → ∀ (r : List Tk) (m' : Wm), (noneB e s = true → m' = mdel m g) → (noneB e s = false → ∃ v : Value, m' = mset m g (e, (v, s))) →
      r.map tb = (packL v6 (recsL g (mgetD z_api_Filter m g).1 (mgetD z_api_Filter m g).2.2 e s)).map (mkT v6) → Q r 0 v6 (nowB now t) m' one two) :
    host_Host_Set_W v6 now m one two t g e s Q := by
  have hm' := hm.all g
  unfold host_Host_Set_W host_Host_settle_W
  refine goodP_ok ?_
  rw [hg]
  refine ⟨fun c => (by cases c), fun _ => grpP_ok ?_⟩
  rw [hG]
  refine ⟨fun c => (by cases c), fun _ => hL ⟨fun c => (by cases c), fun _ => kindH_ok (by simp) fun b hb => ?_⟩⟩
  have b1 : b = true := hb.2 (by intro a ha; simp at ha; subst ha; exact hv)
  subst b1
  refine ⟨fun c => (by cases c), fun _ => kindH_ok (by omega) fun b hb => ?_⟩
  have b1 : b = true := hb.2 hs
  subst b1
  refine ⟨fun c => (by cases c), fun _ => ⟨fun c => ⟨fun _ => big (by omega), fun c => (by cases c)⟩, fun c => ?_⟩⟩
  have h64 : s.length ≤ 64 := by omega
  have hset := hS h64
  have j3 : ∀ m', (noneB e s = true → m' = mdel m g) → (noneB e s = false → ∃ v : Value, m' = mset m g (e, (v, s))) → ((mget m g).isSome = true ∨ noneB e s = true ∨ m.length < 64) → host_Host_Set_j3 g e s Q v6 (nowB now t) m one two m' :=
    fun m' q1 q2 q3 => saidH_ok h1 h2 hm'.1 hset hm'.2 (by omega) fun r hr => ok h64 q3 r m' q1 q2 hr
  have j2 : ((mget m g).isSome = true ∨ noneB e s = true ∨ m.length < 64) → host_Host_Set_j2 g e s Q v6 (nowB now t) m one two := by
    intro q3
    refine noneP_ok ⟨fun c => ?_, fun c => clone_Ad (by omega) fun v => ?_⟩
    · exact j3 _ (fun _ => rfl) (fun d => by rw [c] at d; cases d) q3
    · exact j3 _ (fun d => by rw [c] at d; cases d) (fun _ => ⟨v, rfl⟩) q3
  refine setP_ok (by omega) fun b hb => ?_
  rw [hb.2 hset]
  refine ⟨fun c => (by cases c), fun _ => ⟨fun c => noneP_ok ⟨fun d => ⟨fun f => full h64 (by simpa using c) (by simpa using d) (by omega), fun f => j2 (.inr (.inr (by omega)))⟩, fun d => j2 (.inr (.inl (by simpa using d)))⟩, fun c => j2 (.inl (by simpa using c))⟩⟩
theorem groupsH_ok {v6 : Bool} {now one two : Int} {m : Wm} {Q : List Ad → Prop} (hl : m.length ≤ 1000000) (h : ∀ ks, ks.Perm (m.map Prod.fst) → ks.Pairwise (fun x y => ¬ aCmp y x < 0) → Q ks) : host_Host_groups_W v6 now m one two Q := by
  refine ⟨aCmp, fun x y => cmpP_ok rfl, ⟨by (first | omega | (unfold I64; omega) | (simp only [List.length_append, List.length_cons, List.length_nil, List.length_take, List.length_drop] at *; omega) | (unfold I64; simp only [List.length_append, List.length_cons, List.length_nil, List.length_take, List.length_drop] at *; omega)), fun l hp => ⟨swo_ad, by have := hp.length_eq; rw [List.length_map] at this; omega, fun l2 hp2 hs2 => h l2 (hp2.trans hp) hs2⟩⟩⟩
end Go.Wk
