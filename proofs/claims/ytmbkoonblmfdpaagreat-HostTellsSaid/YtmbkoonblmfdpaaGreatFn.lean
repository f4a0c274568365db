/- Functions that are handed over: what each says, that it turns nothing; the library's sort by such a one. -/
import Derived.Test.YtmbkoonblmfdpaaGreatMapK
import Derived.Shelf.SlSortCmp.NoneTotal
set_option linter.unusedSimpArgs false
set_option linter.unusedVariables false
set_option linter.unusedSectionVars false
namespace Go.Wk
open Go.HL
variable [DM]
theorem HC.down {d : DM} {P : Program} {K : Nat} {args : Array Value} {h : Heap} {R : Value -> Heap -> Prop} (q : @HC ⟨true⟩ P K args h R) : @HC d P K args h R := by
  intro w hw
  refine (q w hw).mono ?_
  rintro e w' ⟨⟨a, b, c, dd⟩, r⟩
  exact ⟨@Kept.mk d _ _ a b c (fun _ => dd rfl), r⟩
structure NU {ι : Type} (P : Program) (F : Fz) (h : Heap) (K : Nat) (fs cs : Array Value) (A : ι -> List Value) (R : ι -> Value) : Prop where
  enters : ∀ args w, (callFunc K args).run P w = .ok (.enter K args) w
  says : ∀ (x : ι) (F' : Fz) (h' : Heap), Kp F h F' h' -> (∀ b, F' b -> b < h'.size) -> @HC ⟨true⟩ P K (fs.toList ++ A x ++ cs.toList).toArray h' fun u h'' => u = R x /\ Ext h' h''
theorem NU.kp {ι : Type} {P : Program} {F F' : Fz} {h h' : Heap} {K : Nat} {fs cs : Array Value} {A : ι -> List Value} {R : ι -> Value} (q : NU P F h K fs cs A R) (k : Kp F h F' h') : NU P F' h' K fs cs A R :=
  ⟨q.enters, fun x G g hk hr => q.says x G g (k.trans hk) hr⟩
theorem St.ext {F : Fz} {os : List Ow} {h h' : Heap} (hS : St F os h) (e : Ext h h') : St F os h' /\ Kp F h F h' := by
  have := hS.cons (h' := h') ⟨fun _ => False, fun _ => True, fun _ _ _ q => q.elim, fun _ _ _ _ => trivial⟩ trivial (fun _ q => q.elim) e
  exact ⟨this.1.tail, this.2⟩
section
variable {ι : Type} {P : Program} {F : Fz} {h : Heap} {K : Nat} {fs cs : Array Value} {A : ι -> List Value} {R : ι -> Value} {f : kT} {ty : TypeId} {os : List Ow}
theorem NU.ec {fo : Operand} {la : List Operand} {tys : Array TypeId} (q : NU P F h K fs cs A R) (x : ι) (hf : ev f fo = .func (.func K) fs cs) (hl : la.map (ev f) = A x) : EC P (.call ⟨.value fo, la.toArray, tys⟩) ty f K (fs.toList ++ A x ++ cs.toList).toArray :=
  Go.HL.ec q.enters hf (by rw [hl])
theorem NU.hc (q : NU P F h K fs cs A R) (x : ι) (hS : St F os h) : HC P K (fs.toList ++ A x ++ cs.toList).toArray h fun u h' => u = R x /\ St F os h' /\ Kp F h F h' :=
  (HC.down (q.says x F h (Kp.refl F h) hS.fz)).mono fun u h' ⟨hu, he⟩ => ⟨hu, hS.ext he⟩
theorem NU.of {F : Fz} {h : Heap} (en : ∀ args w, (callFunc K args).run P w = .ok (.enter K args) w)
    (H : ∀ (x : ι) (h' : Heap), Kp F h (Q5 h') h' -> @HC ⟨true⟩ P K (fs.toList ++ A x ++ cs.toList).toArray h' fun u h'' => u = R x /\ ∃ F'', Kp (Q5 h') h' F'' h'') : NU P F h K fs cs A R :=
  ⟨en, fun x F' h' hk hr => @HC.mono ⟨true⟩ _ _ _ _ _ _ (H x h' (hk.trans ⟨Nat.le_refl _, hr, fun _ _ => rfl⟩)) fun u h'' ⟨hu, F'', k⟩ => ⟨hu, k.ext⟩⟩
end
section sort
open Go.Shelf Go.RowKit Go.Lib Go.Sort Go.Proofs
variable {P : Program} {ρ : Ren} {α : Type} [Inhabited α]
theorem aa9 {w w' : World} (k : @Kept ⟨true⟩ w w') (e : Ext w.heap w'.heap) : ∃ q os', w' = grow (w.drewN q) os' := by
  refine ⟨w'.drawn - w.drawn, w'.heap.extract w.heap.size w'.heap.size, ?_⟩
  have hh : w'.heap = w.heap ++ w'.heap.extract w.heap.size w'.heap.size := by
    apply Array.ext
    · simp; have := e.size; omega
    · intro i h1 h2
      by_cases hi : i < w.heap.size
      · have := e.old i hi
        rw [Array.getElem_append_left hi]
        rw [Array.getElem?_eq_getElem h1, Array.getElem?_eq_getElem hi] at this
        injection this
      · rw [Array.getElem_append_right (by omega), Array.getElem_extract]
        congr 1; omega
  cases w with | mk a b c d o =>
  cases w' with | mk a' b' c' d' o' =>
  obtain ⟨h1, h2, h3, h4⟩ := k
  have h4 := h4 rfl
  simp only at h1 h2 h3 h4 hh
  subst h1 h2 h3
  simp only [grow, World.drewN, World.mk.injEq, true_and, and_true]
  exact ⟨hh, by omega⟩
theorem Yo {d d' : Array α} (h : PermIn 0 d.size d d') : d'.toList.Perm d.toList := by
  have h1 := h.2.2
  rw [← h.1] at h1
  have e1 : d'.extract 0 d'.size = d' := by simp
  rw [e1, h.1] at h1
  simpa using h1
theorem abN (enc : α -> List Value) (k : Nat) (w : World) (blk m : Nat) (dk : Array α) (os : Array Obj) {c : Array Value} {E : TypeId} (hb : dW w.heap blk (.cells c E (0, 0))) :
    dW (sortWorldK enc k w blk 0 m dk os).heap blk (.cells (putCells id 0 (flatK enc k dk) c) E (0, 0)) /\ (∀ b, b < w.heap.size -> b ≠ blk -> (sortWorldK enc k w blk 0 m dk os).heap[b]? = w.heap[b]?) /\ w.heap.size <= (sortWorldK enc k w blk 0 m dk os).heap.size := by
  have hheap : (sortWorldK enc k w blk 0 m dk os).heap = (w.heap.modify blk (onCells (putCells id 0 (flatK enc k dk)))) ++ os := rfl
  rw [hheap]
  refine ⟨?_, fun b hb' hne => ?_, by simp⟩
  · show ((w.heap.modify blk _) ++ os)[blk]? = _
    rw [Array.getElem?_append_left (by simpa using hb.lt), Array.getElem?_modify, if_pos rfl]
    have : w.heap[blk]? = some (.cells c E (0, 0)) := hb
    rw [this]; rfl
  · rw [Array.getElem?_append_left (by simpa using hb'), Array.getElem?_modify, if_neg (Ne.symm hne)]
theorem aae (enc : α -> List Value) (k : Nat) (hk : ∀ x, (enc x).length = k) (hpos : 0 < k) (dk : Array α) (c : Array Value) (hle : dk.size * k <= c.size) : (putCells id 0 (flatK enc k dk) c).toList.take (dk.size * k) = dk.toList.flatMap enc := by
  apply List.ext_getElem?
  intro j
  by_cases hj : j < dk.size * k
  · rw [List.getElem?_take, if_pos hj]
    have hjc : j < c.size := by omega
    have h1 : (putCells id 0 (flatK enc k dk) c).toList[j]? = some (flatK enc k dk)[j]! := by
      rw [Array.getElem?_toList]
      simp only [putCells, Array.getElem?_mapIdx, Array.getElem?_eq_getElem hjc, Option.map_some]
      rw [if_pos ⟨Nat.zero_le _, by rw [size_flatK, Nat.zero_add]; exact hj⟩]; rfl
    rw [h1, get_flatK enc k dk j hj]
    have hq : j / k < dk.toList.length := by rw [Array.length_toList, Nat.div_lt_iff_lt_mul hpos]; exact hj
    have hm : j % k < k := Nat.mod_lt _ hpos
    have h2 := flat_get enc k dk.toList (fun x _ => hk x) (j / k) hq (j % k) hm
    rw [Nat.mul_comm (j / k) k, Nat.div_add_mod] at h2
    rw [h2]
    have hq' : j / k < dk.size := by simpa using hq
    rw [getElem!_pos dk (j / k) hq', Array.getElem_toList]
    rw [getElem!_pos (enc dk[j / k]) (j % k) (by rw [hk]; exact hm), List.getElem?_eq_getElem (by rw [hk]; exact hm)]
  · have hl := x9 enc k dk.toList (fun x _ => hk x)
    rw [Array.length_toList] at hl
    rw [List.getElem?_eq_none (by rw [List.length_take]; exact Nat.le_trans (Nat.min_le_left _ _) (Nat.not_lt.1 hj)), List.getElem?_eq_none (Nat.le_trans (Nat.le_of_eq (by simpa using x9 enc k dk.toList (fun x _ => hk x))) (Nat.not_lt.1 hj))]
theorem Qs (L : SlLaysF0.n6 P ρ) {k E : Nat} (hpos : 0 < k) (aE : ∀ w, (isAgg (ρ.t 24)).run P w = .ok true w) (zE : ∀ w, (Go.sizeOf (ρ.t 24)).run P w = .ok k w) {enc : α -> List Value} (hk : ∀ x, (enc x).length = k) (h1 : ∀ x, ∀ v ∈ enc x, v.oneCell' = true)
    {cf : α -> α -> Int} (hO : SWO (Go.Proofs.ltOf cf)) {g : Nat} {cb : Array Value} {F : Fz} {fr : List Ow} {h0 : Heap} {l : List α} {v : Value} (hS : St F (Ow.own E k enc v l :: fr) h0)
    (hF : NU P F h0 g #[] cb (fun p : α × α => [.agg (enc p.1).toArray, .agg (enc p.2).toArray]) (fun p => .int .i64 (cf p.1 p.2))) (hsz : l.length < 4611686018427387904) :
    HC P (ρ.f 6) #[v, .func (.func g) #[] cb] h0 fun u h' => ∃ l' : List α, u = .tuple #[] /\ Kp F h0 F h' /\ St F (Ow.own E k enc v l' :: fr) h' /\ l'.Perm l /\ l'.Pairwise fun x y => ¬ cf y x < 0 := by
  have hown : kL h0 0 E k enc v l := hS.own 0 rfl
  by_cases hl0 : l = []
  · subst hl0
    obtain ⟨p, cap, rfl⟩ : ∃ p cap, v = .slice p 0 cap := by
      rcases hown.row.2 with ⟨e, _⟩ | ⟨b, cap, _, e, _⟩
      · exact ⟨_, _, e⟩
      · exact ⟨_, _, e⟩
    intro w hw
    refine (AnyF.slices_SortFunc_none L p cap (.func (.func g) #[] cb) w).mono ?_
    rintro e w' ⟨rfl, rfl⟩
    exact ⟨Kept.refl _, _, rfl, [], rfl, by rw [hw]; exact Kp.refl F h0, by rw [hw]; exact hS, List.Perm.refl _, List.Pairwise.nil⟩
  · rcases hown.row.2 with ⟨_, e⟩ | ⟨b, cap, cur, rfl, _, hb, hle, hcap, hcs, htake⟩
    · exact absurd (List.length_eq_zero_iff.1 e) hl0
    · intro w hw
      subst hw
      have aeG : l.length * k <= cur.size := by rw [hcs]; exact Nat.mul_le_mul_right _ hle
      have hH : HoldsK enc k w b 0 l.toArray := by
        intro j hj
        rw [size_flatK] at hj
        have hj' : j < l.length * k := by simpa using hj
        have hjc : j < cur.size := by omega
        have hcell : cur[j]? = some (flatK enc k l.toArray)[j]! := by
          have e1 := aae enc k hk hpos l.toArray cur (by simpa using aeG)
          have h2 : (l.flatMap enc)[j]? = cur[j]? := by
            rw [← htake, List.getElem?_take, if_pos hj', Array.getElem?_toList]
          rw [← h2]
          have h3 := congrArg (fun l => l[j]?) e1
          simp only at h3
          rw [← h3, List.getElem?_take, if_pos (by simpa using hj'), Array.getElem?_toList]
          simp only [putCells, Array.getElem?_mapIdx, Array.getElem?_eq_getElem hjc, Option.map_some]
          rw [if_pos ⟨Nat.zero_le _, by rw [size_flatK]; simpa using hj'⟩]; rfl
        have hbb : w.heap[b]? = some (.cells cur E (0, 0)) := hb
        refine ⟨?_, ?_⟩
        · rw [Pj, Nat.zero_add, QM hbb, hcell]; rfl
        · unfold World.frozen?; rw [hbb]; simp
      have hworld : ∀ (m : Nat) (os : Array Obj) (dk : Array α), dk.size = l.length -> St F (Ow.own E k enc (.slice (some ⟨b, 0, none⟩) l.length cap) dk.toList :: fr) (sortWorldK enc k w b 0 m dk os).heap /\ Kp F w.heap F (sortWorldK enc k w b 0 m dk os).heap := by
        intro m os dk hd
        obtain ⟨k1, k2, k3⟩ := abN enc k w b m dk os hb
        have hd' : dk.toList.length = l.length := by simpa using hd
        refine hS.turn 0 rfl (Ow.own E k enc (.slice (some ⟨b, 0, none⟩) l.length cap) dk.toList) ?_ (fun x hx => .inl hx) k3 (fun x hx hne => k2 x hx fun e => hne (by subst e; rfl))
        refine ⟨⟨x9 enc k _ (fun x _ => hk x), .inr ⟨b, cap, _, by rw [hd'], Nat.zero_le _, k1, by omega, hcap, by simp [putCells, hcs], ?_⟩⟩, fun x _ => hk x⟩
        rw [hd', ← hd]; exact aae enc k hk hpos dk cur (by rw [hd]; exact aeG)
      have hcmp : CmpLays P g cb enc k cf b 0 l.toArray.size w := by
        intro m os dk hd x y
        have hd' : dk.size = l.length := by simpa using hd
        obtain ⟨s1, s2⟩ := hworld m os dk hd'
        have harr : (#[] : Array Value).toList ++ [Value.agg (enc x).toArray, Value.agg (enc y).toArray] ++ cb.toList = (#[Value.agg (enc x).toArray, Value.agg (enc y).toArray] ++ cb).toList := by simp
        have hq := hF.says (x, y) F _ s2 s1.fz _ rfl
        rw [harr, Array.toArray_toList] at hq
        refine hq.mono ?_
        rintro e w' ⟨hkp, u, rfl, rfl, he⟩
        exact ⟨rfl, aa9 hkp he⟩
      refine (AnyQ.slices_SortFunc L k aE zE enc hk h1 cf hO g cb b 0 cap l.toArray w hF.enters hcmp hH (yK hb) (by simpa using hsz)).mono ?_
      rintro e w' ⟨rfl, d', n, os, hp, hs, rfl⟩
      have hsize : d'.size = l.length := by have := hp.1; simpa using this
      obtain ⟨s1, s2⟩ := hworld n os d' hsize
      refine ⟨⟨rfl, rfl, rfl, fun _ => Nat.le_add_right _ _⟩, _, rfl, d'.toList, rfl, s2, s1, ?_, ?_⟩
      · have := Yo hp; simpa using this
      · have hz : d'.toList.length = d'.size := by simp
        rw [List.pairwise_iff_getElem]
        intro i j hi hj hij
        have := hs i j (Nat.zero_le _) hij (by simp at hj ⊢; omega)
        simp only [Array.getElem_toList]
        rw [getElem!_pos d' i (by simpa using hi), getElem!_pos d' j (by simpa using hj)] at this
        unfold Go.Proofs.ltOf at this
        simpa using this
end sort
end Go.Wk
