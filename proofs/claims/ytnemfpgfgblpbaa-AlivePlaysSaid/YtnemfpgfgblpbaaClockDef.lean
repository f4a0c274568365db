/- What a clock is. -/
import Derived.Test.YtnemfpgfgblpbaaSortPure
set_option linter.unusedSimpArgs false
set_option linter.unusedVariables false
set_option linter.unusedSectionVars false
namespace Go.HL
/-- A clock: its struct lies at c, its map at r. -/
structure ClockIs {κ : Type} [DecidableEq κ] (h : Heap) (T c r : Nat) (ek : κ → Value) (m : List (κ × Int)) : Prop where
  at_ : Blk h c (.cells #[.map (some r)] T (0, 0))
  map : MapIs h r ek kI m
def cmpI (x y : Int) : Int := if x < y then -1 else if y < x then 1 else 0

/-- Old blocks stand but for one. -/
structure Only (r : Nat) (h h' : Heap) : Prop where
  size : h.size ≤ h'.size
  old : ∀ b, b < h.size → b ≠ r → h'[b]? = h[b]?
theorem Only.refl (r : Nat) (h : Heap) : Only r h h := ⟨Nat.le_refl _, fun _ _ _ => rfl⟩
theorem Only.upd {r : Nat} {a b c : Heap} {o : Obj} (k : Only r a b) (u : Upd b r o c) : Only r a c := ⟨by rw [u.size]; exact k.size, fun x hx hne => (u.keep hne).trans (k.old x hx hne)⟩
theorem Only.ext {r : Nat} {a b c : Heap} (k : Only r a b) (e : Ext b c) : Only r a c := ⟨Nat.le_trans k.size e.size, fun x hx hne => (e.old x (Nat.lt_of_lt_of_le hx k.size)).trans (k.old x hx hne)⟩
theorem Ext.only {a b : Heap} (e : Ext a b) (r : Nat) : Only r a b := ⟨e.size, fun x hx _ => e.old x hx⟩
theorem Upd.only {a b : Heap} {r : Nat} {o : Obj} (u : Upd a r o b) : Only r a b := (Only.refl r a).upd u
theorem Only.trans {r : Nat} {a b c : Heap} (k : Only r a b) (e : Only r b c) : Only r a c := ⟨Nat.le_trans k.size e.size, fun x hx hne => (e.old x (Nat.lt_of_lt_of_le hx k.size) hne).trans (k.old x hx hne)⟩
theorem Blk.only {r b : Nat} {h h' : Heap} {o : Obj} (hb : Blk h b o) (k : Only r h h') (hne : b ≠ r) : Blk h' b o := (k.old b hb.lt hne).trans hb
theorem SliceIs.only {α : Type} {r : Nat} {h h' : Heap} {k : Nat} {enc : α → List Value} {v : Value} {l : List α} (s : SliceIs h k enc v l) (o : Only r h h') (hne : blockOf v ≠ some r) : SliceIs h' k enc v l := by
  obtain ⟨⟨a, cap, hv, h1, h2, h3⟩, h4⟩ := s
  refine ⟨⟨a, cap, hv, h1, h2, ?_⟩, h4⟩
  rcases h3 with h3 | ⟨b, off, ha, hb, hr⟩
  · exact .inl h3
  · exact .inr ⟨b, off, ha, Nat.lt_of_lt_of_le hb o.size, hr.cong (o.old b hb (by rintro rfl; exact hne (by rw [hv, ha]; rfl)))⟩
theorem OwnIs.only {α : Type} {r base E k : Nat} {h h' : Heap} {enc : α → List Value} {v : Value} {l : List α} (s : OwnIs h base E k enc v l) (o : Only r h h') (hne : blockOf v ≠ some r) : OwnIs h' base E k enc v l :=
  s.keep fun b hb => o.old b (s.lt hb) (by rintro rfl; exact hne hb)
/-- Old memory stands, where the one block is not old. -/
theorem Ext.of_only {r : Nat} {h₀ h h' : Heap} (e : Ext h₀ h) (o : Only r h h') (hr : h₀.size ≤ r) : Ext h₀ h' :=
  ⟨Nat.le_trans e.size o.size, fun b hb => (o.old b (Nat.lt_of_lt_of_le hb e.size) (by omega)).trans (e.old b hb)⟩

theorem IterIs.lt {κ ν : Type} [DecidableEq κ] {h : Heap} {it r : Nat} {ek : κ → Value} {en : ν → Value} {m rem : List (κ × ν)} (i : IterIs h it r ek en m rem) : it < h.size :=
  let ⟨_, _, _, k⟩ := i; k.iter.lt

/-- Which keys are due, in order. -/
structure DueIs {κ : Type} (cf : κ → κ → Int) (m : List (κ × Int)) (now : Int) (l : List κ) : Prop where
  perm : l.Perm ((m.filter fun p => decide (p.2 ≤ now)).map Prod.fst)
  srt : Srt cf l

/-- Old blocks stand but for some. -/
structure OnlyL (L : List Nat) (h h' : Heap) : Prop where
  size : h.size ≤ h'.size
  old : ∀ b, b < h.size → b ∉ L → h'[b]? = h[b]?
theorem OnlyL.refl (L : List Nat) (h : Heap) : OnlyL L h h := ⟨Nat.le_refl _, fun _ _ _ => rfl⟩
theorem OnlyL.upd {L : List Nat} {a b c : Heap} {o : Obj} {r : Nat} (k : OnlyL L a b) (u : Upd b r o c) (hr : r ∈ L) : OnlyL L a c := ⟨by rw [u.size]; exact k.size, fun x hx hne => (u.keep (by rintro rfl; exact hne hr)).trans (k.old x hx hne)⟩
theorem OnlyL.ext {L : List Nat} {a b c : Heap} (k : OnlyL L a b) (e : Ext b c) : OnlyL L a c := ⟨Nat.le_trans k.size e.size, fun x hx hne => (e.old x (Nat.lt_of_lt_of_le hx k.size)).trans (k.old x hx hne)⟩
theorem OnlyL.only {L : List Nat} {a b c : Heap} {r : Nat} (k : OnlyL L a b) (e : Only r b c) (hr : r ∈ L) : OnlyL L a c := ⟨Nat.le_trans k.size e.size, fun x hx hne => (e.old x (Nat.lt_of_lt_of_le hx k.size) (by rintro rfl; exact hne hr)).trans (k.old x hx hne)⟩
theorem OnlyL.trans {L : List Nat} {a b c : Heap} (k : OnlyL L a b) (e : OnlyL L b c) : OnlyL L a c := ⟨Nat.le_trans k.size e.size, fun x hx hne => (e.old x (Nat.lt_of_lt_of_le hx k.size) hne).trans (k.old x hx hne)⟩
theorem OnlyL.mono {L M : List Nat} {a b : Heap} (k : OnlyL L a b) (h : ∀ x ∈ L, x ∈ M) : OnlyL M a b := ⟨k.size, fun x hx hne => k.old x hx fun h' => hne (h x h')⟩
theorem Only.l {r : Nat} {a b : Heap} (k : Only r a b) : OnlyL [r] a b := ⟨k.size, fun x hx hne => k.old x hx (by rintro rfl; simp at hne)⟩
theorem Upd.onlyL {L : List Nat} {a b : Heap} {r : Nat} {o : Obj} (u : Upd a r o b) (hr : r ∈ L) : OnlyL L a b := (OnlyL.refl L a).upd u hr
theorem Blk.onlyL {L : List Nat} {b : Nat} {h h' : Heap} {o : Obj} (hb : Blk h b o) (k : OnlyL L h h') (hne : b ∉ L) : Blk h' b o := (k.old b hb.lt hne).trans hb
theorem MapIs.onlyL {κ ν : Type} {h h' : Heap} {r : Nat} {L : List Nat} {ek : κ → Value} {en : ν → Value} {m : List (κ × ν)} (k : MapIs h r ek en m) (o : OnlyL L h h') (hne : r ∉ L) : MapIs h' r ek en m := let ⟨es, cl, hb, he⟩ := k; ⟨es, cl, hb.onlyL o hne, he⟩
theorem SliceIs.onlyL {α : Type} {L : List Nat} {h h' : Heap} {k : Nat} {enc : α → List Value} {v : Value} {l : List α} (s : SliceIs h k enc v l) (o : OnlyL L h h') (hne : ∀ r ∈ L, blockOf v ≠ some r) : SliceIs h' k enc v l := by
  obtain ⟨⟨a, cap, hv, h1, h2, h3⟩, h4⟩ := s
  refine ⟨⟨a, cap, hv, h1, h2, ?_⟩, h4⟩
  rcases h3 with h3 | ⟨b, off, ha, hb, hr⟩
  · exact .inl h3
  · exact .inr ⟨b, off, ha, Nat.lt_of_lt_of_le hb o.size, hr.cong (o.old b hb (by intro hr; exact hne b hr (by rw [hv, ha]; rfl)))⟩
theorem OwnIs.onlyL {α : Type} {L : List Nat} {base E k : Nat} {h h' : Heap} {enc : α → List Value} {v : Value} {l : List α} (s : OwnIs h base E k enc v l) (o : OnlyL L h h') (hne : ∀ r ∈ L, blockOf v ≠ some r) : OwnIs h' base E k enc v l :=
  s.keep fun b hb => o.old b (s.lt hb) (by intro hr; exact hne b hr hb)
theorem Ext.onlyL {L : List Nat} {h₀ h h' : Heap} (e : Ext h₀ h) (o : OnlyL L h h') (hr : ∀ r ∈ L, h₀.size ≤ r) : Ext h₀ h' :=
  ⟨Nat.le_trans e.size o.size, fun b hb => (o.old b (Nat.lt_of_lt_of_le hb e.size) (by intro h; have := hr b h; omega)).trans (e.old b hb)⟩
/-- A slice lies ahead of a base, so not in a newer block. -/
theorem OwnIs.notin {α : Type} {L : List Nat} {base E k : Nat} {h : Heap} {enc : α → List Value} {v : Value} {l : List α} (s : OwnIs h base E k enc v l) (hL : ∀ r ∈ L, r < base) : ∀ r ∈ L, blockOf v ≠ some r := fun r hr => s.ne_lt (hL r hr)
theorem Grown.only_new {h h' h'' : Heap} {v : Value} {L : List Nat} (g : Grown h h' v v) (o : OnlyL L h' h'') (hn : ∀ x ∈ L, h.size ≤ x) : Grown h h'' v v :=
  ⟨Nat.le_trans g.size o.size, fun b hb hne => (o.old b (Nat.lt_of_lt_of_le hb g.size) (fun hm => by have := hn b hm; omega)).trans (g.block b hb hne), g.now⟩
end Go.HL
