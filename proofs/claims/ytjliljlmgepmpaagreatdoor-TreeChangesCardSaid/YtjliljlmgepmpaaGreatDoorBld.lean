/- A strings.Builder of one's own: WriteString and String. -/
import Derived.Test.YtjliljlmgepmpaaGreatDoorStrs
import Derived.Test.YtjliljlmgepmpaaGreatDoorTxt
import Derived.Test.YtjliljlmgepmpaaGreatDoorProg
import Derived.Lib.AppendStr
import Derived.Lib.UnsafeStr
import Derived.Lib.Builder
import Derived.Laws.Externs
set_option linter.unusedSimpArgs false
set_option linter.unusedVariables false
set_option linter.unusedSectionVars false
namespace Go.Wk
open Go.HL
open Go.Proofs hiding encI
variable [DM]
/-- A builder: its block, its buffer. -/
def Ow.bld (T E b : Nat) (v : Value) (l : Str) : Ow where
  foot x := x = b ∨ blockOf v = some x
  inv h := ∃ p, (p = .pointer none ∨ p = .pointer (some ⟨b, 0, none⟩)) ∧ Blk h b (.cells #[p, v] T (0, 0)) ∧ OwnIs h 0 E 1 enc8 v l ∧ blockOf v ≠ some b ∧ (l = [] → v = .slice none 0 0)
  lt h x hi hx := by
    obtain ⟨p, _, hb, ho, _⟩ := hi
    rcases hx with rfl | hx
    · exact hb.lt
    · exact ho.lt hx
  loc h h' hi hk := by
    obtain ⟨p, hp, hb, ho, hn⟩ := hi
    exact ⟨p, hp, (hk b (.inl rfl)).trans hb, ho.keep fun b hb => hk b (.inr hb), hn⟩
section
variable {F : Fz} {os : List Ow} {h h' : Heap} {T E b : Nat} {v : Value} {l : Str} {P : Program} {f : Slots} {ty : TypeId}
/-- What has turned inside one thing, which is let go. -/
theorem St.drop1 {o : Ow} (hS : St F (o :: os) h) (hsz : h'.size = h.size) (hold : ∀ c, ¬ o.foot c → h'[c]? = h[c]?) : St F os h' ∧ Kp F h F h' := by
  have := hS.turn 0 rfl { foot := fun _ => False, inv := fun _ => True, lt := fun _ _ _ q => q.elim, loc := fun _ _ _ _ => trivial } trivial (fun _ q => q.elim) (Nat.le_of_eq hsz.symm) (fun c _ hc => hold c hc)
  exact ⟨St.tail this.1, this.2⟩
theorem St.bldOpen (hS : St F (Ow.bld T E b v l :: os) h) : ∃ p, (p = .pointer none ∨ p = .pointer (some ⟨b, 0, none⟩)) ∧ (l = [] → v = .slice none 0 0) ∧ St F (Ow.box b T #[p, v] :: Ow.own E 1 enc8 v l :: os) h := by
  obtain ⟨p, hp, hb, ho, hn, hz⟩ := hS.get 0 rfl
  refine ⟨p, hp, hz, hS.fz, ?_, ?_, ?_⟩
  · intro j o hj
    match j, hj with
    | 0, hj => cases hj; exact hb
    | 1, hj => cases hj; exact ho
    | j + 2, hj => exact hS.inv (j + 1) o hj
  · intro j o hj x hx
    match j, hj with
    | 0, hj => cases hj; exact hS.off 0 _ rfl x (.inl hx)
    | 1, hj => cases hj; exact hS.off 0 _ rfl x (.inr hx)
    | j + 2, hj => exact hS.off (j + 1) o hj x hx
  · intro i j o o' hij hi hj x hx hx'
    match i, hi, j, hj with
    | 0, hi, 0, hj => exact hij rfl
    | 1, hi, 1, hj => exact hij rfl
    | 0, hi, 1, hj => cases hi; cases hj; cases hx; exact hn hx'
    | 1, hi, 0, hj => cases hi; cases hj; cases hx'; exact hn hx
    | 0, hi, j + 2, hj => cases hi; exact hS.apart 0 (j + 1) _ o' (by omega) rfl hj x (.inl hx) hx'
    | 1, hi, j + 2, hj => cases hi; exact hS.apart 0 (j + 1) _ o' (by omega) rfl hj x (.inr hx) hx'
    | i + 2, hi, 0, hj => cases hj; exact hS.apart (i + 1) 0 o _ (by omega) hi rfl x hx (.inl hx')
    | i + 2, hi, 1, hj => cases hj; exact hS.apart (i + 1) 0 o _ (by omega) hi rfl x hx (.inr hx')
    | i + 2, hi, j + 2, hj => exact hS.apart (i + 1) (j + 1) o o' (by omega) hi hj x hx hx'
theorem St.bldShut {p : Value} (hS : St F (Ow.box b T #[p, v] :: Ow.own E 1 enc8 v l :: os) h) (hp : p = .pointer none ∨ p = .pointer (some ⟨b, 0, none⟩)) (hz : l = [] → v = .slice none 0 0) : St F (Ow.bld T E b v l :: os) h := by
  have hb : Blk h b (.cells #[p, v] T (0, 0)) := hS.get 0 rfl
  have ho : OwnIs h 0 E 1 enc8 v l := hS.get 1 rfl
  refine ⟨hS.fz, ?_, ?_, ?_⟩
  · intro j o hj
    match j, hj with
    | 0, hj => cases hj; exact ⟨p, hp, hb, ho, fun e => hS.apart 0 1 _ _ (by omega) rfl rfl b rfl e, hz⟩
    | j + 1, hj => exact hS.inv (j + 2) o hj
  · intro j o hj x hx
    match j, hj with
    | 0, hj =>
      cases hj
      rcases hx with hx | hx
      · exact hS.off 0 _ rfl x hx
      · exact hS.off 1 _ rfl x hx
    | j + 1, hj => exact hS.off (j + 2) o hj x hx
  · intro i j o o' hij hi hj x hx hx'
    match i, hi, j, hj with
    | 0, hi, 0, hj => exact hij rfl
    | 0, hi, j + 1, hj =>
      cases hi
      rcases hx with hx | hx
      · exact hS.apart 0 (j + 2) _ o' (by omega) rfl hj x hx hx'
      · exact hS.apart 1 (j + 2) _ o' (by omega) rfl hj x hx hx'
    | i + 1, hi, 0, hj =>
      cases hj
      rcases hx' with hx' | hx'
      · exact hS.apart (i + 2) 0 o _ (by omega) hi rfl x hx hx'
      · exact hS.apart (i + 2) 1 o _ (by omega) hi rfl x hx hx'
    | i + 1, hi, j + 1, hj => exact hS.apart (i + 2) (j + 2) o o' (by omega) hi hj x hx hx'
/-- A builder begins. -/
theorem st_bld {z : Value} (hS : St F os h) (hz : TZero P T z) (hc : z.cells = #[.pointer none, .slice none 0 0]) :
    EV P (.alloc T) ty f h (fun u h' => ∃ b, u = .pointer (some ⟨b, 0, none⟩) ∧ St F (Ow.bld T E b (.slice none 0 0) [] :: os) h' ∧ Kp F h F h') :=
  EV.imp (st_alloc hS hz hc) fun u h' ⟨b, hu, hS, hk⟩ => by
    refine ⟨b, hu, St.bldShut (p := .pointer none) ?_ (.inl rfl) (fun _ => rfl), hk⟩
    have h2 := hS.nilOwn E 1 enc8
    exact St.perm (front := [Ow.own E 1 enc8 (.slice none 0 0) ([] : Str), Ow.box b T #[.pointer none, .slice none 0 0]]) (fr := os) h2 [1, 0] 2 rfl (by decide) [Ow.box b T #[.pointer none, .slice none 0 0], Ow.own E 1 enc8 (.slice none 0 0) ([] : Str)] rfl
theorem cells8 (s : Str) : Go.Lib.strCells (bs s) = s.flatMap enc8 := by
  have : ∀ l : List UInt8, l.map (fun b => Value.int .u8 (b.toNat : Int)) = l.flatMap enc8 := by
    intro l; induction l with
    | nil => rfl
    | cons a l ih => rw [List.map_cons, List.flatMap_cons, ih]; rfl
  rw [← this]; simp [Go.Lib.strCells, bs]
/-- 'append(v, s...)', s a text. -/
theorem e_appendT {x y : Operand} {S : TypeId} (s : Str) {Ts : TypeId} {ts : Array TypeId} (hT : TElem P T E 1 1) (hz8 : ∃ i, P.info? E = some i ∧ i.zero = some (.int .u8 0)) (hU : P.underlying Ts = some .string) (hown : OwnIs h 0 E 1 enc8 v l)
    (hx : ev f x = v) (hy : ev f y = .string (bs s)) (ht : ts = #[T, Ts]) (hsz : l.length + s.length ≤ 140737488355328) :
    EV P (.call ⟨.builtin .append, #[x, y], ts⟩) ty f h (fun v' h' => OwnIs h' 0 E 1 enc8 v' (l ++ s) ∧ Grown h h' v v' ∧ (l = [] → v = .slice none 0 0 → s = [] → v' = .slice none 0 0)) := by
  intro dst pos after guard w hw
  subst hw; subst ht
  obtain ⟨i, z, hi, hz, hik, hib, hzk⟩ := hT.info
  obtain ⟨i', hi', hz'⟩ := hz8
  rw [hi] at hi'; injection hi' with hi'; subst hi'
  have hargs : (#[x, y].map (ev f)) = #[v, .string (bs s)] := by simp [hx, hy]
  have hrun : ∀ {r : Value} {w' : World}, (Builtin.append_ #[T, Ts] ty #[v, .string (bs s)]).run P w = .ok r w' →
      (execOp (ev f) (Oper.mk dst (.call ⟨.builtin .append, #[x, y], #[T, Ts]⟩) ty pos after guard)).run P w = .ok (.value r) w' := by
    intro r w' hr
    simp only [execOp, resolve, invoke, builtin, hargs, Sem.run_bind, pure, Sem.run, Result.andThen_ok, hr]
  obtain ⟨v', w', hr, ho, hg, hnil⟩ := Go.Lib.run_append_own_string (P := P) w 0 T Ts ty E i hT.und hU hi hz' hik hib v l.length (l.flatMap enc8) hown.row (bs s) (by rw [bs_size]; unfold maxLen; omega) (by rw [bs_size]; exact hsz) (Nat.zero_le _)
  rw [bs_size, cells8] at ho
  rw [bs_size] at hnil
  have hlc : (blockOf v' = blockOf v ∧ w'.drawn = w.drawn) ∨ ((∃ cap, v' = .slice (some ⟨w.heap.size, 0, none⟩) (l.length + s.length) cap) ∧ w.drawn ≤ w'.drawn) := by
    rcases hown.row.2 with ⟨f1, f2⟩ | ⟨g2, cap2, cur2, f1, f2, f3, f4, f5, f6, f7⟩
    · by_cases hs0 : s.length = 0
      · left
        have e1 : v' = .slice none 0 0 := hnil.2 ⟨f1, hs0⟩
        refine ⟨by rw [e1, f1], ?_⟩
        have hn : Go.Lib.strCells (bs s) = [] := List.eq_nil_of_length_eq_zero (by rw [Go.Lib.strCells_length, bs_size]; exact hs0)
        have hf := Go.Lib.run_firstCells_string (P := P) w 1 (bs s)
        rw [bs_size, hs0, hn] at hf
        have hr2 : (Builtin.append_ #[T, Ts] ty #[.slice none 0 0, .string (bs s)]).run P w = .ok (.slice none 0 0) w := by
          simp [Builtin.append_, run_underlying hT.und, run_underlying hU, sizeOf, typeInfo, hi, hik, Builtin.lenOf, bs_size, hs0, hf]
        rw [f1] at hr; rw [hr] at hr2; injection hr2 with q qw; rw [qw]
      · right
        have hr' := Go.run_append_nil_string (P := P) w T Ts ty E i (.int .u8 0) hT.und hU hi hz' (bs s) (by rw [bs_size]; omega) (by rw [bs_size]; omega) (by rw [hib, bs_size]; omega)
        rw [f1] at hr; rw [hr] at hr'
        injection hr' with q qw
        rw [bs_size] at q
        refine ⟨⟨grownCap w s.length 0 E, by rw [q, f2, Nat.zero_add]⟩, by rw [qw]; exact Nat.le_succ _⟩
    · by_cases hroom : l.length + s.length ≤ cap2
      · left
        have hr' := Go.Lib.run_append_room_string (P := P) w T Ts ty E i hT.und hU hi hik g2 l.length cap2 cur2 f3 (bs s) (by rw [bs_size]; exact hroom) (by rw [bs_size]; omega)
        rw [f1] at hr; rw [hr] at hr'
        injection hr' with q qw
        exact ⟨by rw [q, f1]; rfl, by rw [qw]; rfl⟩
      · right
        have holds : ∀ j u, (l.flatMap enc8)[j]? = some u → w.cell? ((⟨g2, 0, none⟩ : Addr).add j) = some u :=
          World.ownsRow.cells (w := w) (base := 0) (e := E) (size := 1) (v := v) (n := l.length) (xs := l.flatMap enc8) hown.row (by rw [f1]; rfl)
        have hr' := Go.Lib.run_append_grow_string (P := P) w T Ts ty E i (.int .u8 0) hT.und hU hi hz' ⟨g2, 0, none⟩ l.length cap2 (l.flatMap enc8) (by rw [hik]; exact hown.row.1) holds (bs s) (by rw [bs_size]; omega) (by rw [bs_size]; omega) (by rw [hib, bs_size]; exact growslice_fits (by omega) (by omega))
        rw [f1] at hr; rw [hr] at hr'
        injection hr' with q qw
        rw [bs_size] at q
        exact ⟨⟨_, q⟩, by rw [qw]; exact Nat.le_succ _⟩
  refine ⟨v', w', hrun hr, ⟨hg.os, hg.tape, hg.output, fun _ => by rcases hlc with ⟨_, e⟩ | ⟨_, e⟩ <;> omega⟩, ⟨?_, ?_⟩, ⟨hg.size, ?_, ?_⟩, ?_⟩
  · rw [List.length_append, List.flatMap_append]; exact ho
  · intro a _; rfl
  · intro c hc hne
    refine hg.block c hc fun e => hne ?_
    rcases hown.row.2 with ⟨e1, _⟩ | ⟨g', cap', cur, e1, _⟩
    · rw [e1] at e; cases e
    · rw [e1] at e ⊢; simpa [Value.ownBlock, blockOf] using e.symm
  · intro c hc
    rcases hlc with ⟨e, _⟩ | ⟨⟨cap, rfl⟩, _⟩
    · exact .inl (e ▸ hc)
    · simp only [blockOf, Option.some.injEq] at hc; right; omega
  · intro _ hv hs; exact hnil.2 ⟨hv, by rw [hs]; rfl⟩
theorem st_appendT {x y : Operand} (s : Str) {Ts : TypeId} {ts : Array TypeId} {i : Nat} (hT : TElem P T E 1 1) (hz8 : ∃ i, P.info? E = some i ∧ i.zero = some (.int .u8 0)) (hU : P.underlying Ts = some .string) (hS : St F os h) (hi : os[i]? = some (Ow.own E 1 enc8 v l))
    (hx : ev f x = v) (hy : ev f y = .string (bs s)) (ht : ts = #[T, Ts]) (hsz : l.length + s.length ≤ 140737488355328) :
    EV P (.call ⟨.builtin .append, #[x, y], ts⟩) ty f h (fun v' h' => St F (os.set i (Ow.own E 1 enc8 v' (l ++ s))) h' ∧ Kp F h F h' ∧ (l = [] → v = .slice none 0 0 → s = [] → v' = .slice none 0 0)) :=
  EV.imp (e_appendT (S := 0) s hT hz8 hU (hS.get i hi : OwnIs h 0 E 1 enc8 v l) hx hy ht hsz) fun v' h' ⟨ho, g, hn⟩ => ⟨(hS.grown hi ho g).1, (hS.grown hi ho g).2, hn⟩
/-! ### copyCheck -/
theorem q_neqPsame {t t2 te : TypeId} {x y : Operand} {a : Addr} {j : TypeInfo} (hp : P.underlying t = some (.pointer te)) (hte : P.info? te = some j) (hx : ev f x = .pointer (some a)) (hy : ev f y = .pointer (some a)) :
    QV P (.binOp .neq t x y t2) ty f h (.bool false) :=
  run_eq hx hy (fun w => by simp [eqGuard, go_sem]) (fun w _ => Go.Lib.run_neq_ptr_same w a hp hte)
theorem q_conv {s d : TypeId} {x : Operand} {u u' : Value} (hx : ev f x = u) (hr : ∀ w : World, w.heap = h → (convert s d u).run P w = .ok u' w) : QV P (.convert s d x) ty f h u' := by
  intro dst pos after guard w hw
  simp [execOp, hx, hr w hw, go_sem]
theorem q_callX {K : Nat} {fo x : Operand} {tys : Array TypeId} {u u' : Value} (hc : ∀ w, (callFunc K #[u]).run P w = .ok (.value u') w) (hf : ev f fo = .func (.func K) #[] #[]) (hx : ev f x = u) : QV P (.call ⟨.value fo, #[x], tys⟩) ty f h u' := by
  intro dst pos after guard w _
  have : (#[] : Array Value) ++ Array.map (ev f) #[x] ++ #[] = #[u] := by simp [hx]
  simp only [execOp, resolve, Deferred.ofValue, hf]
  rw [Sem.run_bind]
  simp only [pure, Sem.run, Result.andThen_ok, invoke]
  rw [this]; exact hc w
theorem q_usd {x : Operand} {ts : Array TypeId} {u u' : Value} (hx : ev f x = u) (hr : ∀ w, (Builtin.unsafeSliceData_ ts ty #[u]).run P w = .ok u' w) : QV P (.call ⟨.builtin .unsafeSliceData, #[x], ts⟩) ty f h u' := by
  intro dst pos after guard w _
  have hargs : (#[x].map (ev f)) = #[u] := by simp [hx]
  simp only [execOp, resolve, invoke, builtin, hargs, Sem.run_bind, pure, Sem.run, Result.andThen_ok, hr w]
theorem shape_of {w : World} {c : Array Value} (hb : Blk w.heap b (.cells c T (0, 0))) : w.shape? b = some (T, c.size) := by
  have : w.heap[b]? = some (.cells c T (0, 0)) := hb
  simp [World.shape?, this]
end
/-! ### At this program -/
theorem bto_p : TOne Tryz.prog 78 := ⟨Tryz.isAgg78, Tryz.sizeOf78⟩
theorem bto_s : TOne Tryz.prog 79 := ⟨Tryz.isAgg79, Tryz.sizeOf79⟩
theorem bts : TSlice Tryz.prog 79 5 1 := ⟨Tryz.underlying79, Tryz.sizeOf5⟩
theorem bte : TElem Tryz.prog 79 5 1 1 := ⟨Tryz.underlying79, ⟨Tryz.t5, .int .u8 0, by kernel_rfl, by kernel_rfl, by kernel_rfl, by kernel_rfl, by kernel_rfl⟩, by decide⟩
theorem bfa0 : FieldAt Tryz.prog 81 0 0 := fun a w => by kernel_rfl
theorem bfa1 : FieldAt Tryz.prog 81 1 1 := fun a w => by kernel_rfl
theorem btz : TZero Tryz.prog 81 (.agg #[.pointer none, .slice none 0 0]) := Tryz.zeroValue81
theorem ben_cc (args : Array Value) (w : World) : (callFunc 92 args).run Tryz.prog w = .ok (.enter 92 args) w := by kernel_rfl
theorem ben_ne (u : Value) (w : World) : (callFunc 107 #[u]).run Tryz.prog w = .ok (.value u) w := by
  rw [run_callFunc_extern Tryz.func107 (by kernel_rfl) (by kernel_rfl) (by kernel_rfl) (e := Extern.AbiNoEscape.same) (by kernel_rfl), Go.Lib.run_noEscape]; rfl
theorem bmixed : Tryz.prog.follows .mixedOrders = true := by kernel_rfl
section
variable {F : Fz} {os : List Ow} {h : Heap} {b : Nat} {v p : Value} {l : Str}
theorem bcc_hc (hp : p = .pointer none ∨ p = .pointer (some ⟨b, 0, none⟩)) (hS : St F (Ow.box b 81 #[p, v] :: os) h) :
    HC Tryz.prog 92 #[.pointer (some ⟨b, 0, none⟩)] h fun u h' => u = .tuple #[] ∧ St F (Ow.box b 81 #[.pointer (some ⟨b, 0, none⟩), v] :: os) h' ∧ Kp F h F h' := by
  refine HC.of_HW (n := 20) Tryz.func92 rfl rfl (Nat.le_of_ble_eq_true rfl) ?_
  have hB : Blk h b (.cells #[p, v] 81 (0, 0)) := hS.box 0 rfl
  refine HW.seq ?_
  refine HW.region ?_
  refine HO.val (v := .pointer (some ⟨b, 0, none⟩)) (want_none) rfl (q_move rfl) ?_
  refine HO.val (v := .pointer (some ⟨b, 0, none⟩)) (want_none) rfl (q_nilCheck rfl) ?_
  refine HO.val (v := .pointer (some ⟨b, 0, none⟩)) (want_none) rfl (q_fieldAddr bfa0 rfl rfl) ?_
  refine HO.val (v := p) (want_none) rfl (q_load bto_p rfl (Blk.cell hB rfl)) ?_
  rcases hp with rfl | rfl
  · refine HO.val (v := .bool true) (want_none) rfl (q_eqlPnil Tryz.underlying78 rfl rfl rfl) ?_
    refine HO.nil (thenQ_normal (?_))
    refine HW.condT rfl ?_
    refine HW.region ?_
    refine HO.val (v := .pointer (some ⟨b, 0, none⟩)) (want_none) rfl (q_move rfl) ?_
    refine HO.val (v := .pointer (some ⟨b, 0, none⟩)) (want_none) rfl (q_move rfl) ?_
    refine HO.val (v := .pointer (some ⟨b, 0, none⟩)) (want_none) rfl (q_conv rfl (fun w hw => Go.Lib.run_to_unsafe (j := Tryz.t81) (t := 81) (e := 81) (cells := 2) w ⟨b, 0, none⟩ Tryz.underlying78 Tryz.underlying119 (by kernel_rfl) (by decide) (by subst hw; exact shape_of hB) (Nat.zero_lt_succ 1))) ?_
    refine HO.val (v := .pointer (some ⟨b, 0, none⟩)) (want_none) rfl (q_callX (ben_ne _) rfl rfl) ?_
    refine HO.val (v := .pointer (some ⟨b, 0, none⟩)) (want_none) rfl (q_conv rfl (fun w hw => Go.Lib.run_from_unsafe (j := Tryz.t81) (u := 81) (e := 81) (cells := 2) w ⟨b, 0, none⟩ Tryz.underlying119 Tryz.underlying78 (by kernel_rfl) (by subst hw; exact shape_of hB) (by kernel_rfl))) ?_
    refine HO.val (v := .pointer (some ⟨b, 0, none⟩)) (want_none) rfl (q_nilCheck rfl) ?_
    refine HO.val (v := .pointer (some ⟨b, 0, none⟩)) (want_none) rfl (q_fieldAddr bfa0 rfl rfl) ?_
    refine HO.sto (want_none) rfl (st_store (c' := #[.pointer (some ⟨b, 0, none⟩), v]) hS (i := 0) rfl bto_p rfl rfl rfl rfl (Nat.le_of_ble_eq_true rfl) rfl) ?_
    rintro h_1 ⟨hS, hk⟩
    refine HO.nil ?_
    exact ⟨.inl rfl, .tuple #[], res0 rfl, rfl, hS, hk⟩
  · refine HO.val (v := .bool false) (want_none) rfl (q_eqlPnil Tryz.underlying78 rfl rfl rfl) ?_
    refine HO.nil (thenQ_normal (?_))
    refine HW.condF rfl ?_
    refine HW.seq ?_
    refine HW.region ?_
    refine HO.val (v := .pointer (some ⟨b, 0, none⟩)) (want_none) rfl (q_move rfl) ?_
    refine HO.val (v := .pointer (some ⟨b, 0, none⟩)) (want_none) rfl (q_nilCheck rfl) ?_
    refine HO.val (v := .pointer (some ⟨b, 0, none⟩)) (want_none) rfl (q_fieldAddr bfa0 rfl rfl) ?_
    refine HO.val (v := .pointer (some ⟨b, 0, none⟩)) (want_none) rfl (q_load bto_p rfl (Blk.cell hB rfl)) ?_
    refine HO.val (v := .pointer (some ⟨b, 0, none⟩)) (want_none) rfl (q_move rfl) ?_
    refine HO.val (v := .bool false) (want_none) rfl (q_neqPsame (j := Tryz.t81) Tryz.underlying78 (by kernel_rfl) rfl rfl) ?_
    refine HO.nil (thenQ_normal (?_))
    refine HW.condF rfl ?_
    refine HW.skip ?_
    exact ⟨.inl rfl, .tuple #[], res0 rfl, rfl, hS, Kp.refl _ _⟩
theorem bldWrite_hc (s : Str) (hS : St F (Ow.bld 81 5 b v l :: os) h) (hlen : l.length + s.length ≤ 140737488355328) :
    HC Tryz.prog 67 #[.pointer (some ⟨b, 0, none⟩), .string (bs s)] h fun u h' => ∃ v', u = .tuple #[.int .i64 (s.length : Int), .nilIface] ∧ St F (Ow.bld 81 5 b v' (l ++ s) :: os) h' ∧ Kp F h F h' := by
  obtain ⟨p, hp, hz, hS⟩ := hS.bldOpen
  have hK := Kp.refl F h
  refine HC.of_HW (n := 19) Tryz.func67 rfl rfl (Nat.le_of_ble_eq_true rfl) ?_
  refine HW.seq ?_
  refine HW.region ?_
  refine HO.val (v := .int .i64 0) (want_none) rfl (q_assign rfl) ?_
  refine HO.val (v := .nilIface) (want_none) rfl (q_assign rfl) ?_
  refine HO.nil (thenQ_normal (?_))
  refine HW.seq ?_
  refine HW.region ?_
  refine HO.val (v := .pointer (some ⟨b, 0, none⟩)) (want_none) rfl (q_move rfl) ?_
  refine HO.call (want_none) rfl (ec ben_cc rfl rfl) (bcc_hc hp hS) ?_
  rintro _ h_1 ⟨rfl, hS, hk⟩
  replace hK := hK.trans hk
  refine HO.nil (thenQ_normal (?_))
  refine HW.seq ?_
  refine HW.region ?_
  refine HO.val (v := .pointer (some ⟨b, 0, none⟩)) (want_none) rfl (q_move rfl) ?_
  refine HO.val (v := .pointer (some ⟨b, 0, none⟩)) (want_none) rfl (q_move rfl) ?_
  refine HO.val (v := .pointer (some ⟨b, 0, none⟩)) (want_none) rfl (q_nilCheck rfl) ?_
  refine HO.val (v := .pointer (some ⟨b, 1, none⟩)) (want_none) rfl (q_fieldAddr bfa1 rfl rfl) ?_
  refine HO.val (v := v) (want_none) rfl (q_load bto_s rfl (Blk.cell (hS.box 0 rfl) rfl)) ?_
  refine HO.val (v := .string (bs s)) (want_none) rfl (q_move rfl) ?_
  refine HO.eff (want_none) rfl (st_appendT s bte ⟨Tryz.t5, by kernel_rfl, by kernel_rfl⟩ Tryz.underlying9 hS (i := 1) rfl rfl rfl rfl hlen) ?_
  rintro v2 h_2 ⟨hS, hk, hn⟩
  replace hS : St F (Ow.box b 81 #[.pointer (some ⟨b, 0, none⟩), v] :: Ow.own 5 1 enc8 v2 (l ++ s) :: os) h_2 := hS
  replace hK := hK.trans hk
  refine HO.val (v := .pointer (some ⟨b, 0, none⟩)) (want_none) rfl (q_nilCheck rfl) ?_
  refine HO.val (v := .pointer (some ⟨b, 1, none⟩)) (want_none) rfl (q_fieldAddr bfa1 rfl rfl) ?_
  refine HO.sto (want_none) rfl (st_store (c' := #[.pointer (some ⟨b, 0, none⟩), v2]) hS (i := 0) rfl bto_s rfl rfl (shp (hS.own 1 rfl).slice).cells (shp (hS.own 1 rfl).slice).one (Nat.le_of_ble_eq_true rfl) rfl) ?_
  rintro h_3 ⟨hS, hk⟩
  replace hS : St F (Ow.box b 81 #[.pointer (some ⟨b, 0, none⟩), v2] :: Ow.own 5 1 enc8 v2 (l ++ s) :: os) h_3 := hS
  replace hK := hK.trans hk
  refine HO.nil (thenQ_normal (?_))
  refine HW.seq ?_
  refine HW.region ?_
  refine HO.val (v := .string (bs s)) (want_none) rfl (q_move rfl) ?_
  refine HO.val (v := .int .i64 (s.length : Int)) (want_none) rfl ((q_lenStr Tryz.underlying9 rfl rfl).of_eq (by rw [bs_size])) ?_
  refine HO.val (v := .int .i64 (s.length : Int)) (want_none) rfl (q_assign rfl) ?_
  refine HO.val (v := .nilIface) (want_none) rfl (q_assign rfl) ?_
  refine HO.nil (thenQ_normal (?_))
  refine HW.ret ?_
  refine ⟨.inr rfl, .tuple #[.int .i64 (s.length : Int), .nilIface], res2 rfl (rt rfl) (rt rfl), v2, rfl, St.bldShut hS (.inr rfl) ?_, hK⟩
  intro e
  obtain ⟨e1, e2⟩ := List.append_eq_nil_iff.1 e
  exact hn e1 (hz e1) e2
theorem e_ustr {P : Program} {f : Slots} {ty : TypeId} {x y : Operand} {ts : Array TypeId} {u u' : Value} {R : Value → Heap → Prop} (hx : ev f x = u) (hy : ev f y = u')
    (hr : ∀ w : World, w.heap = h → ∃ r w', (Builtin.unsafeString_ ts ty #[u, u']).run P w = .ok r w' ∧ Kept w w' ∧ R r w'.heap) : EV P (.call ⟨.builtin .unsafeString, #[x, y], ts⟩) ty f h R := by
  intro dst pos after guard w hw
  obtain ⟨r, w', h1, h2, h3⟩ := hr w hw
  refine ⟨r, w', ?_, h2, h3⟩
  have hargs : (#[x, y].map (ev f)) = #[u, u'] := by simp [hx, hy]
  simp only [execOp, resolve, invoke, builtin, hargs, Sem.run_bind, pure, Sem.run, Result.andThen_ok, h1]
theorem usd_run (hz : l = [] → v = .slice none 0 0) (ho : OwnIs h 0 5 1 enc8 v l) : ∃ q, (∀ w, (Builtin.unsafeSliceData_ #[79] 101 #[v]).run Tryz.prog w = .ok (.pointer q) w) ∧
    ∀ w : World, w.heap = h → ∃ r w', (Builtin.unsafeString_ #[101, 3] 9 #[.pointer q, .int .i64 (l.length : Int)]).run Tryz.prog w = .ok r w' ∧ Kept w w' ∧ (r = .string (bs l) ∧ w'.heap.size = h.size ∧ ∀ c, blockOf v ≠ some c → w'.heap[c]? = h[c]?) := by
  by_cases h0 : l = []
  · subst h0
    rw [hz rfl]
    refine ⟨none, fun w => Go.Lib.run_unsafeSliceData_nil w _ _ _ _, fun w hw => ⟨_, _, Go.Lib.run_unsafeString_none w _ _ _ _, Kept.refl _, rfl, by rw [hw], fun c _ => by rw [hw]⟩⟩
  · obtain ⟨g, cap, cur, rfl, hbg, hg, hnc, hcm, hcs, htake⟩ : ∃ g cap cur, v = .slice (some ⟨g, 0, none⟩) l.length cap ∧ 0 ≤ g ∧ h[g]? = some (.cells cur 5 (0, 0)) ∧ l.length ≤ cap ∧ cap ≤ maxLen ∧ cur.size = cap * 1 ∧ cur.toList.take (l.length * 1) = l.flatMap enc8 := by
      rcases ho.row.2 with ⟨_, hz⟩ | ⟨g, cap, cur, hv, r⟩
      · exact absurd (List.eq_nil_of_length_eq_zero hz) h0
      · exact ⟨g, cap, cur, hv, r⟩
    have hl : 0 < l.length := List.length_pos_iff.2 h0
    refine ⟨some ⟨g, 0, none⟩, fun w => Go.Lib.run_unsafeSliceData_row w _ _ _ _ _ (by omega), fun w hw => ?_⟩
    subst hw
    refine ⟨_, _, Go.Lib.run_unsafeString_row w 101 3 9 5 Tryz.underlying101 (by kernel_rfl) g cur.size (by simp [World.shape?, hg]) l h0 (by omega) (by unfold maxLen at hcm; omega) ?_, ⟨by unfold World.freeze; split <;> rfl, by unfold World.freeze; split <;> rfl, by unfold World.freeze; split <;> rfl, fun _ => by unfold World.freeze; split <;> exact Nat.le_refl _⟩, rfl, ?_, ?_⟩
    · intro j x hx
      have := World.ownsRow.cells (w := w) (base := 0) (e := 5) (size := 1) (n := l.length) (xs := l.flatMap enc8) ho.row (g := g) rfl j (.int .u8 x.toNat) ?_
      · exact this
      · rw [← cells8]
        simp [Go.Lib.strCells, bs, hx]
    · unfold World.freeze; split
      · rfl
      · simp
    · intro c hc
      have hne : g ≠ c := fun e => hc (by rw [e]; rfl)
      unfold World.freeze; split
      · rfl
      · simp [Array.getElem?_modify, hne]
theorem bldString_hc (hS : St F (Ow.bld 81 5 b v l :: os) h) :
    HC Tryz.prog 69 #[.pointer (some ⟨b, 0, none⟩)] h fun u h' => u = .string (bs l) ∧ St F os h' ∧ Kp F h F h' := by
  obtain ⟨p, hp, hb, ho, hn, hz⟩ := hS.get 0 rfl
  obtain ⟨q, hq, hstr⟩ := usd_run hz ho
  refine HC.of_HW (n := 14) Tryz.func69 rfl rfl (Nat.le_of_ble_eq_true rfl) ?_
  refine HW.seq ?_
  refine HW.region ?_
  refine HO.val (v := .string (bs [])) (want_none) rfl (q_assign rfl) ?_
  refine HO.nil (thenQ_normal (?_))
  refine HW.seq ?_
  refine HW.regionA 12 bmixed (fun h => Blk h b (.cells #[p, v] 81 (0, 0))) [] (by kernel_rfl) ?_
  refine HA.val (k := 0) (v := .pointer (some ⟨b, 0, none⟩)) rfl rfl (by kernel_rfl) (by kernel_rfl) (want_none) rfl (fun _ c => q_move rfl) ?_
  refine HA.val (k := 1) (v := .pointer (some ⟨b, 0, none⟩)) rfl rfl (by kernel_rfl) (by kernel_rfl) (want_none) rfl (fun _ c => q_nilCheck rfl) ?_
  refine HA.val (k := 2) (v := .pointer (some ⟨b, 1, none⟩)) rfl rfl (by kernel_rfl) (by kernel_rfl) (want_none) rfl (fun _ c => q_fieldAddr bfa1 rfl rfl) ?_
  refine HA.val (k := 3) (v := v) rfl rfl (by kernel_rfl) (by kernel_rfl) (want_none) rfl (fun _ c => q_load bto_s rfl (Blk.cell c rfl)) ?_
  refine HA.val (k := 4) (v := .pointer q) rfl rfl (by kernel_rfl) (by kernel_rfl) (want_none) rfl (fun _ c => q_usd rfl hq) ?_
  refine HA.val (k := 5) (v := .pointer (some ⟨b, 0, none⟩)) rfl rfl (by kernel_rfl) (by kernel_rfl) (want_none) rfl (fun _ c => q_move rfl) ?_
  refine HA.val (k := 6) (v := .pointer (some ⟨b, 0, none⟩)) rfl rfl (by kernel_rfl) (by kernel_rfl) (want_none) rfl (fun _ c => q_nilCheck rfl) ?_
  refine HA.val (k := 7) (v := .pointer (some ⟨b, 1, none⟩)) rfl rfl (by kernel_rfl) (by kernel_rfl) (want_none) rfl (fun _ c => q_fieldAddr bfa1 rfl rfl) ?_
  refine HA.val (k := 8) (v := v) rfl rfl (by kernel_rfl) (by kernel_rfl) (want_none) rfl (fun _ c => q_load bto_s rfl (Blk.cell c rfl)) ?_
  refine HA.val (k := 9) (v := .int .i64 (l.length : Int)) rfl rfl (by kernel_rfl) (by kernel_rfl) (want_none) rfl (fun _ c => Go.Wk.q_len bts (shp ho.slice) rfl rfl) ?_
  refine HA.one (k := 10) ⟨hb, (Go.Wk.at_nil _ _)⟩ (by kernel_rfl) ?_
  refine HS.eff rfl (want_none) rfl (e_ustr (u := .pointer q) (u' := .int .i64 (l.length : Int)) (R := fun r h' => r = .string (bs l) ∧ h'.size = h.size ∧ ∀ c, blockOf v ≠ some c → h'[c]? = h[c]?) rfl rfl hstr) ?_
  rintro _ h_1 ⟨rfl, hsz, hold⟩
  have hb' : Blk h_1 b (.cells #[p, v] 81 (0, 0)) := (hold b hn).trans hb
  refine HA.val (k := 11) (v := .string (bs l)) rfl rfl (by kernel_rfl) (by kernel_rfl) (want_none) rfl (fun _ c => q_assign rfl) ?_
  refine HA.nil ⟨hb', (Go.Wk.at_nil _ _)⟩ (by kernel_rfl) (thenQ_normal (?_))
  refine HW.ret ?_
  refine ⟨.inr rfl, .string (bs l), res1 rfl (rt rfl), rfl, St.drop1 hS hsz ?_⟩
  intro c hc
  exact hold c fun e => hc (.inr e)
end
end Go.Wk
