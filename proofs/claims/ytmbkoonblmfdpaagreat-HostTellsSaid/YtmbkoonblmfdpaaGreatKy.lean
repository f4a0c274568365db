/- The keys of a map, one by one, appended to nothing: a list of one's own, some order of the keys. -/
import Derived.Test.YtmbkoonblmfdpaaGreatRf
import Derived.Test.YtmbkoonblmfdpaaGreatPm
set_option linter.unusedSimpArgs false
set_option linter.unusedVariables false
set_option linter.unusedSectionVars false
namespace Go.Wk
open Go.HL
variable [DM]
section
variable {κ ν : Type} [DecidableEq κ] {P : Program} {E k bytes : Nat} {enc : κ -> List Value} {en : ν -> Value}
def aiI (M : Nat) : List Oper := [{ dst := some 4, op := .load M (.tmp 1), type := M, pos := "iter.go:27", after := #[], guard := none }, { dst := some 5, op := .range M (.tmp 4), type := 0, pos := "iter.go:27", after := #[{ on := 0, ground := .data }], guard := none }]
def aiH (B : Nat) : List Oper := [{ dst := some 6, op := .next (.tmp 5) false, type := 0, pos := "iter.go:27", after := #[], guard := none }, { dst := some 7, op := .extract (.tmp 6) 0, type := B, pos := "iter.go:27", after := #[{ on := 0, ground := .data }], guard := none }]
def aiG (E : Nat) : List Oper := [{ dst := some 8, op := .entry (.tmp 5), type := 0, pos := "iter.go:27", after := #[], guard := none }, { dst := some 9, op := .extract (.tmp 8) 0, type := E, pos := "iter.go:27", after := #[{ on := 0, ground := .data }], guard := none }, { dst := some 3, op := .alloc E, type := 0, pos := "iter.go:27", after := #[], guard := none }, { dst := none, op := .store E (.tmp 3) (.tmp 9), type := 0, pos := "iter.go:27", after := #[{ on := 2, ground := .data }, { on := 1, ground := .data }, { on := 0, ground := .phase }, { on := 1, ground := .phase }, { on := 2, ground := .phase }], guard := none }]
def aiF (E Y B : Nat) : List Oper := [{ dst := some 10, op := .move (.tmp 0), type := Y, pos := "iter.go:28", after := #[], guard := none }, { dst := some 11, op := .load E (.tmp 3), type := E, pos := "iter.go:28", after := #[], guard := none }, { dst := some 12, op := .call { callee := .value (.tmp 10), args := #[.tmp 11], argTypes := #[E] }, type := B, pos := "iter.go:28", after := #[{ on := 0, ground := .data }, { on := 1, ground := .data }], guard := none }, { dst := some 13, op := .unOp .not B (.tmp 12), type := B, pos := "iter.go:28", after := #[{ on := 2, ground := .data }], guard := none }]
def Zv (M E B Y : Nat) : Code :=
  .seq (.region 0 (aiI M).toArray false) (.block 0 (.loop (.seq (.region 1 (aiH B).toArray false) (.seq (.cond (.tmp 7) .skip (.exit 0)) (.block 1 (.seq (.region 2 (aiG E).toArray false) (.seq (.region 3 (aiF E Y B).toArray false) (.cond (.tmp 13) .ret .skip))))))))
theorem keys_gives {fn : Func} {Kv M K V B Y b r : Nat} {m : List (κ × ν)} {h0 : Heap} {z : Value} (hf : P.funcs[Kv]? = some fn) (hb : fn.body = some (Zv M E B Y)) (hn : fn.ntmps = 14) (hr : fn.results = #[])
    (hU : P.underlying M = some (.map K V)) (hA : KF P E k) (hO : Ji P M) (hZ : Eu P E z) (hz : z.cells.size = k) (hk : ∀ x, (enc x).length = k) (h1 : ∀ x, ∀ u ∈ enc x, u.oneCell' = true)
    (hB : dW h0 b (.cells #[.map (some r)] M (0, 0))) (hM : qV h0 r (fun x => .agg (enc x).toArray) en m) : Gives P Kv #[.pointer (some ⟨b, 0, none⟩)] (fun x => .agg (enc x).toArray) (fun xs => xs.Perm (m.map Prod.fst)) m.length h0 := by
  intro lp J h hsz hold hab hy hJ
  have e0 : Ext h0 h := ⟨hsz, hold⟩
  have hrl := hM.lt
  refine HC.jL hf hb hn (by simp) ?_
  unfold Zv
  refine HW.seq (HW.region ?_)
  refine HO.val ag rfl (bU (b := b) (o := 0) hO rfl ((hB.ext e0).cell rfl)) ?_
  refine HO.eff ag rfl (ZL hU (hM.ext e0) rfl) ?_
  rintro _ ha ⟨it, o, rfl, ni, hI⟩
  have hit := ni.at_
  refine HO.nil (ah ?_)
  have ea : Ext h0 ha := ⟨Nat.le_trans hsz ni.ext.size, fun b hb => (ni.ext.old b (by omega)).trans (hold b hb)⟩
  refine HW.block (HW.loop (S := List (κ × ν) × List κ) (fun s f h => f 0 = .func (.yield lp) #[] #[] /\ f 5 = .pointer (some ⟨it, 0, none⟩) /\ Cc h it r (fun x => .agg (enc x).toArray) en m s.1 /\ (s.2 ++ s.1.map Prod.fst).Perm (m.map Prod.fst) /\ Ext h0 h /\ J s.2 h) (fun s => s.1.length) (m, []) ⟨rfl, rfl, hI, by simp, ea, hab _ _ _ hJ (IW.ext ni.ext)⟩ ?_)
  rintro ⟨rem, xs⟩ f h' ⟨f0, f5, hI', hp, ex, hJ'⟩
  simp only at hI' hp hJ'
  refine HW.seq (HW.region (HO.eff ag rfl (agf hI' f5) ?_))
  rintro _ hc (⟨acs, rfl, rfl⟩ | ⟨p, adU, hperm, rfl, o', hup, ad9⟩)
  · refine HO.val ag rfl (pW (v := .bool false) rfl rfl) (HO.nil (ah ?_))
    refine HW.seq (HW.yf rfl (HW.exit (dU (dU (iQ ⟨.inl rfl, .tuple #[], ?_, xs, ?_, hJ'⟩)))))
    · intro a w _ _; simp [results, hr, go_sem]
    · subst acs; simpa using hp
  · refine HO.val ag rfl (pW (v := .bool true) rfl rfl) (HO.nil (ah ?_))
    refine HW.seq (HW.aaJ rfl (HW.skip (ah ?_)))
    have hwalk : ∃ q : Obj, h'[it]? = some q /\ q.isWalk = true := by
      obtain ⟨es, c, sn, A⟩ := hI'
      exact ⟨_, A.iter, rfl⟩
    have hlen : xs.length < m.length := by
      have h1 := hp.length_eq
      have h2 := hperm.length_eq
      simp at h1 h2; omega
    have iwn : IW h0.size h' hc := ⟨Nat.le_of_eq hup.size.symm, fun b hb => by
      by_cases e : b = it
      · right; subst e; exact ⟨by omega, hwalk⟩
      · left; exact hup.keep e⟩
    have exc : Ext h0 hc := ⟨by rw [hup.size]; exact ex.size, fun b hb => (hup.keep (by omega)).trans (ex.old b hb)⟩
    refine HW.block (HW.seq (HW.region ?_))
    refine HO.val ag rfl (adX ad9 f5) ?_
    refine HO.val ag rfl (pW (v := .agg (enc p.1).toArray) rfl rfl) ?_
    refine HO.eff ag rfl (XJ (c := z.cells) hZ rfl) ?_
    rintro _ hd ⟨ba, rfl, na⟩
    refine HO.wF ag rfl (MV (o := 0) (b := ba) (vs := (enc p.1).toArray) (c' := (enc p.1).toArray) hA na.blk rfl rfl (by simpa using hk _) (by simpa using h1 _) (by simp [hz, hk]) ?_) ?_
    · apply Array.toList_inj.1; simp [hk, hz]
    intro hs us
    have hba := na.at_
    have aem : Ext hc hs := ⟨by rw [us.size, na.size]; omega, fun b hb => (us.keep (by omega)).trans (na.ext.old b hb)⟩
    refine HO.nil (ah ?_)
    refine HW.seq (HW.adV ?_)
    refine LQ.val KG (by intro c q; cases q) ag rfl (bV (v := .func (.yield lp) #[] #[]) f0) ?_
    refine LQ.val KG (by intro c q; cases q) ag rfl (bK (b := ba) (o := 0) (cs := enc p.1) hA rfl (hk _) ((us.blk rfl).cells (k := k) (by simp [hk]; exact List.take_of_length_le (by simp [hk])))) ?_
    refine LQ.yield (by intro c q; cases q) ag rfl (ey (l := lp) (vs := [.agg (enc p.1).toArray]) rfl rfl) (hy xs p.1 hs (hab _ _ _ (hab _ _ _ hJ' iwn) (IW.ext aem)) hlen) ?_
    rintro _ h3 ⟨rfl, hJ3, hrw⟩
    refine LQ.val KG (by intro c q; cases q) ag rfl (qy (b := true) rfl) ?_
    refine LQ.nil (ah ?_)
    refine HW.yf rfl (HW.skip (dC ⟨(adU, xs ++ [p.1]), ⟨f0, f5, ?_, ?_, ?_, hJ3⟩, ?_⟩))
    · obtain ⟨es, c, sn, A⟩ := (ad9.is.ext aem)
      exact ⟨es, c, sn, (hrw.old r hrl).trans A.map, A.TG, hrw.walk it _ A.iter rfl, A.rem⟩
    · refine List.Perm.trans ?_ hp
      simp only [List.append_assoc, List.singleton_append]
      exact (List.perm_append_left_iff _).2 (by simpa using (hperm.map Prod.fst).symm)
    · exact ⟨Nat.le_trans exc.size (Nat.le_trans aem.size hrw.size), fun b hb => (hrw.old b hb).trans ((aem.old b (by have := exc.size; omega)).trans (exc.old b hb))⟩
    · have := hperm.length_eq; simp at this ⊢; omega
def aiK (T Y : Nat) : List Oper := [{ dst := some 1, op := .box T (.tmp 0), type := 0, pos := "iter.go:25", after := #[], guard := none }, { dst := some 2, op := .assign (.const .nilFunc), type := Y, pos := "iter.go:25", after := #[], guard := none }]
def aiJ (Kv Y Y2 : Nat) : List Oper := [{ dst := some 3, op := .makeFunc (.func Kv) #[] #[.tmp 1], type := Y2, pos := "iter.go:26", after := #[], guard := none }, { dst := some 2, op := .assign (.tmp 3), type := Y, pos := "iter.go:26", after := #[{ on := 0, ground := .data }, { on := 0, ground := .phase }], guard := none }]
def acp (T Kv Y Y2 : Nat) : Code := .seq (.region 0 (aiK T Y).toArray false) (.seq (.region 1 (aiJ Kv Y Y2).toArray false) .ret)
theorem ad4 {F : Fz} {os : List Ow} {h : Heap} {fn : Func} {Ks Kv T Y Y2 : Nat} {v : Value} (hf : P.funcs[Ks]? = some fn) (hb : fn.body = some (acp T Kv Y Y2)) (hn : fn.ntmps = 4) (hr : fn.results = #[.tmp 2]) (hv : v.cells = #[v]) (hS : St F os h) :
    HC P Ks #[v] h fun u h' => ∃ b, u = .func (.func Kv) #[] #[.pointer (some ⟨b, 0, none⟩)] /\ St F (Ow.box b T #[v] :: os) h' /\ Kp F h F h' := by
  refine HC.jL hf hb hn (by simp) ?_
  unfold acp
  refine HW.seq (HW.region ?_)
  refine HO.eff ag rfl (jO (c := #[v]) (k' := 1) hS hv rfl) ?_
  rintro _ h' ⟨b, rfl, hS', hk⟩
  refine HO.val ag rfl (jw rfl) ?_
  refine HO.nil (ah ?_)
  refine HW.seq (HW.region ?_)
  refine HO.val ag rfl (P9 (lf := []) (lc := [.tmp 1]) rfl rfl) ?_
  refine HO.val ag rfl (jw rfl) ?_
  refine HO.nil (ah ?_)
  exact HW.ret ⟨.inr rfl, _, res_one hr rfl, b, rfl, hS', hk⟩
theorem ZU {F : Fz} {os : List Ow} {h : Heap} {fn fv : Func} {Kap Kv T Sq M K V B Y b r : Nat} {m : List (κ × ν)} {z : Value} (hf : P.funcs[Kap]? = some fn) (hb : fn.body = some (adw T E Sq)) (hn : fn.ntmps = 13) (hr : fn.results = #[.tmp 4])
    (hfv : P.funcs[Kv]? = some fv) (hbv : fv.body = some (Zv M E B Y)) (hnv : fv.ntmps = 14) (hrv : fv.results = #[]) (eg : ∀ args w, (callFunc Kv args).run P w = .ok (.enter Kv args) w)
    (hT : ML P T E k bytes) (hU : P.underlying M = some (.map K V)) (hA : KF P E k) (hO : Ji P T) (hOM : Ji P M) (hZ : Eu P E z) (hz : z.cells.size = k) (hL : Ql P T E k z.cells) (ad8 : k <= 16777216) (hk : ∀ x, (enc x).length = k) (h1 : ∀ x, ∀ u ∈ enc x, u.oneCell' = true)
    (hS : St F os h) (hB : dW h b (.cells #[.map (some r)] M (0, 0))) (hM : qV h r (fun x => .agg (enc x).toArray) en m) (hN : m.length * bytes <= 140737488355328) (ahB : m.length <= 9223372036854775807) :
    HC P Kap #[.slice none 0 0, .func (.func Kv) #[] #[.pointer (some ⟨b, 0, none⟩)]] h fun u h' => ∃ xs : List κ, xs.Perm (m.map Prod.fst) /\ St F (Ow.own E k enc u xs :: os) h' /\ Kp F h F h' :=
  (X6 hf hb hn hr eg hT hA hO hZ hz hk h1 hL hN ahB ad8 (keys_gives hfv hbv hnv hrv hU hA hOM hZ hz hk h1 hB hM)).mono fun u h' ⟨xs, hx, ho, e⟩ => by
    exact ⟨xs, hx, hS.cons _ (ho.mono (Nat.zero_le _)) (fun b hb => ho.ge hb) e⟩
end
section
variable {κ ι β : Type} [DecidableEq κ] {F : Fz} {h : Heap} {r : Nat} {ek : κ -> Value} {pv : ι -> Value} {th : ι -> β -> Ow} {m : PmM κ ι β}
theorem CZ.left {a b : Ow} (q : CZ (Ow.both a b) F h) : CZ a F h := ⟨q.is.1, fun x hx => q.fz x (.inl hx)⟩
theorem CZ.right {a b : Ow} (q : CZ (Ow.both a b) F h) : CZ b F h := ⟨q.is.2, fun x hx => q.fz x (.inr hx)⟩
end
end Go.Wk
