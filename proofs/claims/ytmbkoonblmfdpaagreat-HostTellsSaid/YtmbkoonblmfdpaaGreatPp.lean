/- A pool of things of one's own, each known by a block of its own: taken out, put back. -/
import Derived.Test.YtmbkoonblmfdpaaGreatPm
import Derived.Test.YtmbkoonblmfdpaaGreatNest
set_option linter.unusedSimpArgs false
set_option linter.unusedVariables false
set_option linter.unusedSectionVars false
namespace Go.Wk
open Go.HL
variable [DM]
def Ow.two (a b : Ow) : Ow where
  foot x := a.foot x ∨ b.foot x
  inv h := a.inv h /\ b.inv h /\ ∀ x, a.foot x -> ¬ b.foot x
  lt h x hi hx := by
    rcases hx with hx | hx
    · exact a.lt h x hi.1 hx
    · exact b.lt h x hi.2.1 hx
  loc h h' hi hk := ⟨a.loc h h' hi.1 fun x hx => hk x (.inl hx), b.loc h h' hi.2.1 fun x hx => hk x (.inr hx), hi.2.2⟩
theorem St.Ui {F : Fz} {os : List Ow} {h : Heap} {a b : Ow} (hS : St F (Ow.two a b :: os) h) : St F (a :: b :: os) h := by
  have hi := hS.inv 0 _ rfl
  have h2 := hS.parted (o1 := a) (o2 := b) 0 rfl hi.1 hi.2.1 (fun x hx => .inl hx) (fun x hx => .inr hx) hi.2.2
  simpa using h2
theorem St.PZ {F : Fz} {os : List Ow} {h : Heap} {a b : Ow} (hS : St F (a :: b :: os) h) : St F (Ow.two a b :: os) h := by
  have hab := hS.apart 0 1 _ _ (by omega) rfl rfl
  have ha := hS.inv 0 _ rfl
  have hb := hS.inv 1 _ rfl
  have J := ((hS.joined 0 (o2 := b) rfl).turn 0 rfl (Ow.two a b) (h' := h) ⟨ha, hb, hab⟩ (fun x hx => .inl hx) (Nat.le_refl _) (fun _ _ _ => rfl)).1
  simpa using J
section
variable {β : Type} {F : Fz} {os : List Ow} {h : Heap} {th : Nat -> β -> Ow} {m : List (Nat × β)} {i b : Nat} {y : β}
structure Zc (h : Heap) (th : Nat -> β -> Ow) (m : List (Nat × β)) : Prop where
  own : ∀ p ∈ m, (th p.1 p.2).inv h
  apart : m.Pairwise fun p q => ∀ b, (th p.1 p.2).foot b -> ¬ (th q.1 q.2).foot b
  key : ∀ p ∈ m, (th p.1 p.2).foot p.1
def Ow.pp (th : Nat -> β -> Ow) (m : List (Nat × β)) : Ow where
  foot x := ∃ p ∈ m, (th p.1 p.2).foot x
  inv h := Zc h th m
  lt h x hi hx := by obtain ⟨p, hp, hx⟩ := hx; exact (th p.1 p.2).lt h x (hi.own p hp) hx
  loc h h' hi hk := ⟨fun p hp => (th p.1 p.2).loc h h' (hi.own p hp) fun b hx => hk b ⟨p, hp, hx⟩, hi.apart, hi.key⟩
theorem Zc.nodup (q : Zc h th m) : (m.map Prod.fst).Nodup := by
  unfold List.Nodup
  rw [List.pairwise_map]
  refine List.Pairwise.imp_of_mem (fun {p r} hp hr hap e => ?_) q.apart
  exact hap p.1 (q.key p hp) (by rw [e]; exact q.key r hr)
theorem St.ahf (hS : St F os h) (th : Nat -> β -> Ow) : St F (Ow.pp th ([] : List (Nat × β)) :: os) h :=
  hS.bare _ ⟨by simp, List.Pairwise.nil, by simp⟩ (by rintro b ⟨p, hp, _⟩; cases hp)
theorem Zc.agx (q : Zc h th m) : ∀ p ∈ m, ∀ r ∈ m, p.1 ≠ r.1 -> ∀ x, (th p.1 p.2).foot x -> ¬ (th r.1 r.2).foot x := by
  have q2 := q.apart
  clear q
  induction m with
  | nil => intro p hp; cases hp
  | cons a m ih =>
    rw [List.pairwise_cons] at q2
    intro p hp r hr hne x hx hy
    rcases List.mem_cons.1 hp with e1 | hp1 <;> rcases List.mem_cons.1 hr with e2 | hr1
    · exact hne (by rw [e1, e2])
    · subst e1; exact q2.1 r hr1 x hx hy
    · subst e2; exact q2.1 p hp1 x hy hx
    · exact ih q2.2 p hp1 r hr1 hne x hx hy
theorem St.Qa [Inhabited β] (hS : St F os h) (i : Nat) (hi : os[i]? = some (Ow.pp th m)) (hk : (qU m b).isSome = true) : St F (th b (D8 m b) :: os.set i (Ow.pp th (yA m b))) h := by
  have hb : Zc h th m := hS.inv i _ hi
  obtain ⟨y, hy⟩ := Option.isSome_iff_exists.1 hk
  have e : D8 m b = y := by unfold D8; rw [hy]; rfl
  rw [e]
  have hin : (b, y) ∈ m := (Gz hb.nodup b y).2 hy
  have hsub : ∀ p ∈ yA m b, p ∈ m /\ b ≠ p.1 := fun p hp => by
    unfold yA at hp; rw [List.mem_filter] at hp; exact ⟨hp.1, of_decide_eq_true hp.2⟩
  refine hS.parted i hi (hb.own _ hin) ⟨fun p hp => hb.own p (hsub p hp).1, hb.apart.sublist List.filter_sublist, fun p hp => hb.key p (hsub p hp).1⟩ (fun x hx => ⟨_, hin, hx⟩) (fun x ⟨p, hp, hx⟩ => ⟨p, (hsub p hp).1, hx⟩) ?_
  rintro x hx ⟨p, hp, hy⟩
  exact hb.agx _ hin p (hsub p hp).1 (hsub p hp).2 x hx hy
theorem St.PO (hf : (th b y).foot b) (hS : St F (th b y :: os) h) (i : Nat) (hi : os[i]? = some (Ow.pp th m)) : St F (os.set i (Ow.pp th ((b, y) :: m))) h := by
  have hi' : (th b y :: os)[i + 1]? = some (Ow.pp th m) := by simpa using hi
  have hb : Zc h th m := hS.inv _ _ hi'
  have ho : (th b y).inv h := hS.inv 0 _ rfl
  have hap : ∀ x, (th b y).foot x -> ¬ ∃ p ∈ m, (th p.1 p.2).foot x := fun x hv => hS.apart 0 (i + 1) _ _ (by omega) rfl hi' x hv
  have hlen : i < os.length := (List.getElem?_eq_some_iff.1 hi).1
  have J := (hS.joined i hi).turn i (List.getElem?_set_self hlen) (Ow.pp th ((b, y) :: m)) (h' := h) ⟨?_, ?_, ?_⟩ ?_ (Nat.le_refl _) (fun _ _ _ => rfl)
  · rw [List.set_set] at J; exact J.1
  · intro p hp
    rcases List.mem_cons.1 hp with rfl | hp
    · exact ho
    · exact hb.own p hp
  · rw [List.pairwise_cons]
    exact ⟨fun q hq x h1 h2 => hap x h1 ⟨q, hq, h2⟩, hb.apart⟩
  · intro p hp
    rcases List.mem_cons.1 hp with rfl | hp
    · exact hf
    · exact hb.key p hp
  · rintro x ⟨p, hp, hx⟩
    rcases List.mem_cons.1 hp with rfl | hp
    · exact .inl (.inl hx)
    · exact .inl (.inr ⟨p, hp, hx⟩)
theorem St.PQ (hf : (th b y).foot b) (hS : St F (th b y :: os) h) (i : Nat) (hi : os[i]? = some (Ow.pp th m)) : qU m b = none := by
  have hi' : (th b y :: os)[i + 1]? = some (Ow.pp th m) := by simpa using hi
  have hb : Zc h th m := hS.inv _ _ hi'
  cases e : qU m b with
  | none => rfl
  | some z =>
    have hin : (b, z) ∈ m := (Gz hb.nodup b z).2 e
    exact absurd ⟨_, hin, hb.key _ hin⟩ (hS.apart 0 (i + 1) _ _ (by omega) rfl hi' b hf)
def Aj (n : Nf β) (F : Fz) (h : Heap) (m : List (Nat × β)) : Prop := ∀ p ∈ m, n.p F h p.2
theorem Aj.kp {n : Nf β} {F' : Fz} {h' : Heap} (q : Aj n F h m) (k : Kp F h F' h') : Aj n F' h' m := fun p hp => n.kp _ _ _ _ _ (q p hp) k
theorem Aj.at_ [Inhabited β] {n : Nf β} (q : Aj n F h m) (hk : (qU m b).isSome = true) : n.p F h (D8 m b) := by
  obtain ⟨y, hy⟩ := Option.isSome_iff_exists.1 hk
  have e : D8 m b = y := by unfold D8; rw [hy]; rfl
  rw [e]
  unfold qU at hy
  rw [Option.map_eq_some_iff] at hy
  obtain ⟨p, hp, rfl⟩ := hy
  exact q p (List.mem_of_find?_eq_some hp)
theorem Aj.less {n : Nf β} (q : Aj n F h m) (b : Nat) : Aj n F h (yA m b) := fun p hp => q p (List.mem_filter.1 hp).1
theorem Aj.more {n : Nf β} (q : Aj n F h m) (hy : n.p F h y) : Aj n F h ((b, y) :: m) := fun p hp => by
  rcases List.mem_cons.1 hp with rfl | hp
  · exact hy
  · exact q p hp
theorem Aj.nil (n : Nf β) (F : Fz) (h : Heap) : Aj n F h [] := fun p hp => by cases hp
end
end Go.Wk
