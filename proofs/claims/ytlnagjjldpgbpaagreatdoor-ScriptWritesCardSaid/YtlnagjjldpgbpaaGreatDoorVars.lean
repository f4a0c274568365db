/- aeU variables at a row's first world: some number; a table of the library's; an error of the library's. -/
import Derived.Test.YtlnagjjldpgbpaaGreatDoorStrs
import Derived.Handed
import Derived.LaidHandle
import Derived.Shelf.Vars
import Derived.Lib.LaidTab
import Derived.Stop.LaidErr
set_option linter.unusedSimpArgs false
set_option linter.unusedVariables false
set_option linter.unusedSectionVars false
namespace Go.Wk
open Go Go.HL
variable [DM]
section
variable {P : Program} {W : World} {g : Nat} {z : Array Value} {T : TypeId}
theorem YY (hsh : W.ShapedOpen P) (hg : g < P.globals.size) (h0 : ((begin P (fun _ _ => 0) default).world.heap[g]?).bind Obj.row? = some (z, T)) :
    ∃ cs, W.heap[g]? = some (.cells cs T (0, 0)) /\ cs.size = z.size := by
  obtain ⟨cs, a, b, _⟩ := hsh.1 g z T hg h0; exact ⟨cs, a, b⟩
theorem aa5 {cs : Array Value} (h : W.heap[g]? = some (.cells cs T (0, 0))) : fK (Ow.box g T cs) (J6 W.heap) W.heap := by
  refine ⟨h, fun b hb => ?_⟩
  have hb' : b = g := hb
  subst hb'
  show b < W.heap.size
  rcases Nat.lt_or_ge b W.heap.size with q | q
  · exact q
  · rw [Array.getElem?_eq_none q] at h; cases h
theorem aca {k : IntKind} (hsh : W.ShapedOpen P) (hg : g < P.globals.size) (h0 : ((begin P (fun _ _ => 0) default).world.heap[g]?).bind Obj.row? = some (z, T)) (hz : z.size = 1)
    (hb : P.buildable T = true) (hc : P.cellTypes P.depth T = some [T]) (hu : P.underlying T = some (.int k)) :
    ∃ m, fK (Ow.box g T #[.int k m]) (J6 W.heap) W.heap := by
  obtain ⟨m, hm⟩ := Go.Proofs.cell_of_shapedOpen_int hsh hg h0 hz hb hc hu
  obtain ⟨cs, h1, h2⟩ := YY hsh hg h0
  refine ⟨m, ?_⟩
  have : cs = #[.int k m] := by
    obtain ⟨l⟩ := cs
    match l, h2.trans hz with
    | [v], _ => simp [World.cell?, h1] at hm; rw [hm]
  exact aa5 (by rw [h1, this])
theorem YV {cs : Array Value} {n : String} (hsh : W.ShapedOpen P) (hg : g < P.globals.size) (h0 : ((begin P (fun _ _ => 0) default).world.heap[g]?).bind Obj.row? = some (z, T)) (hn : P.globalNamed n = some g) (hv : W.var? P n = some cs) :
    fK (Ow.box g T cs) (J6 W.heap) W.heap := by
  obtain ⟨cs', h1, h2⟩ := YY hsh hg h0
  have : cs' = cs := by simpa [World.var?, hn, h1] using hv
  exact aa5 (by rw [h1, this])
theorem YW {n : String} {k : IntKind} {zs : List Int} {rest : List (String × DataW Unit)} {e : TypeId} {N : Nat} (hsh : W.ShapedOpen P) (hg : g < P.globals.size) (h0 : ((begin P (fun _ _ => 0) default).world.heap[g]?).bind Obj.row? = some (z, T)) (hn : P.globalNamed n = some g)
    (hty : (P.globals[g]?).map (·.type) = some T) (ht : P.underlying T = some (.array N e)) (he : P.underlying e = some (.int k)) (hce : P.cellsOf e = 1) (hct : P.cellsOf T = N)
    (hL : laidMet P ((n, Lib.tabData k zs) :: rest) W) : fK (Ow.box g T (zs.map fun z => Value.int k z).toArray) (J6 W.heap) W.heap :=
  YV hsh hg h0 hn (Lib.tabIs_of_head hn hty ht he hce hct hL)
theorem YX {n nm : String} {d : DataW Unit} {rest : List (String × DataW Unit)} {ms : Array (String × TypeId)} (hsh : W.ShapedOpen P) (hg : g < P.globals.size) (h0 : ((begin P (fun _ _ => 0) default).world.heap[g]?).bind Obj.row? = some (z, T)) (hn : P.globalNamed n = some g)
    (hty : (P.globals[g]?).map (·.type) = some T) (hi : P.underlying T = some (.interface ms)) (hL : laidMet P ((n, .iface nm d) :: rest) W) :
    ∃ v, F9 true v /\ fK (Ow.box g T #[v]) (J6 W.heap) W.heap := by
  obtain ⟨ps, ⟨g0, t0, cs0, f0, p0, q0, hg0, ht0, hv0, hd0, _, e0⟩, _, hrows⟩ := hL
  obtain rfl := Option.some.inj (hn.symm.trans hg0)
  obtain rfl := Option.some.inj (hty.symm.trans ht0)
  obtain ⟨l0⟩ := cs0
  obtain ⟨f1, u, v, hl, _, _⟩ := iface_of_trod hi hd0
  simp only at hl
  subst hl
  exact ⟨.iface u v, by simp [F9], YV hsh hg h0 hn hv0⟩
theorem U1 {L : List (String × DataW Unit)} (hf : (L.filter fun x => x.2.handleName?.isSome) = []) (h : laidMetH P L W) : laidMet P L W := by
  unfold laidMetH at h; rw [hf] at h; exact h
end
theorem OX {H : Type} {enc : TypeId × Value -> H} {a : Assume} {C : Checked} {os : Os} {f : FuncId} {fn : Func} {s : ChangeSpec} {conds : List PathCond} {apart fresh handsOn again : Bool} {X : World -> Array Value -> Prop}
    (hX : ∀ (w w' : World) (args : Array Value), w.heap = w'.heap -> X w args -> X w' args)
    (own : ownKnob C.prog.godebug = none) (started : os.Started) (noInit : C.prog.inits.idxOf? f = none) (hfn : C.prog.funcs[f]? = some fn)
    (witness : ∃ (w : World) (tape : Tape) (i : Input), w.os = os /\ (w.forCall tape i).Shaped C.prog /\ i.vars = [] /\ Input.okWide C.prog (w.forCall tape i) .any w.heap.size f i /\
      ((s.pre enc C.prog fn conds apart (w.forCall tape i).memory i.args /\ X (w.forCall tape i).memory i.args) /\ sizedMet enc C.prog fn (OpenSpec.ofChange s) apart (w.forCall tape i).memory i.args) /\ a.holds C.prog (lone (Frame.enter C.prog f i.args .normal) [] (w.forCall tape i)))
    (contract : ∀ (W : World) (base : Nat) (args : Array Value) (ds gs : List (DataW H)) (before : List MemPlace),
      (∀ (j : Nat) t v, fn.params[j]? = some t -> args[j]? = some v -> Value.okWide C.prog W .any base t v) ->
      DataW.Whole enc C.prog fn.params.toList s.vars apart W args.toList ds gs before ->
      X W args -> W.ShapedOpen C.prog ->
      Calls C.prog f args W fun e W' => ∃ v, e = .returned v /\ s.post enc C.prog fn apart fresh handsOn again W args v W') :
    ReturnsInHanded a C os f .any (fun w args => (s.pre enc C.prog fn conds apart w args /\ X w args) /\ sizedMet enc C.prog fn (OpenSpec.ofChange s) apart w args) (s.post enc C.prog fn apart fresh handsOn again) := by
  refine returnsInHanded_of_calls own started noInit witness ?_
  intro w tape i _ hsh _ hok hpre hholds
  obtain ⟨_, _, _, fn', hfn', _, _, _, _, hval⟩ := hok
  have e : fn' = fn := Option.some.inj (hfn'.symm.trans hfn)
  subst e
  obtain ⟨⟨⟨ds, gs, before, hw, hc⟩, hx⟩, hz⟩ := hpre
  have hw' := DataW.Whole.of_heap (w' := w.forCall tape i) (by rfl) hw
  refine (contract (w.forCall tape i) w.heap.size i.args ds gs before hval hw' (hX _ _ _ (by rfl) hx) hsh).mono fun e W' ⟨v, he, hp⟩ => ?_
  subst he
  exact ChangeSpec.post_blind hp
end Go.Wk
