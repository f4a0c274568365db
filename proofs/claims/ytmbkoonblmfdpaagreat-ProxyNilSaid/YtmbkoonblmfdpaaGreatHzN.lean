/- Plain words: a proxy lives; the law ProxyNil. -/
import Derived.Test.YtmbkoonblmfdpaaGreatHzG
set_option linter.unusedSimpArgs false
set_option linter.unusedVariables false
set_option linter.unusedSectionVars false
namespace Go.Wk
open Go.HL
variable [DM]
theorem tb_recs {v6 : Bool} {t : Tk} {c : List Rb} (h : tb t = mkT v6 c) : t.2.2.2.2.2.2.2.2.2.2.map rk = c := congrArg (fun z : Tb => z.2.2.2.2.2.2.2.2.2) h
theorem idxW_ok {l : List Wt} {p : Wt → Bool} {Q : Int → Prop} (hl : l.length ≤ 1000) (h0 : (∀ x ∈ l, p x = false) → Q (-1)) (h1 : ∀ i : Nat, (∃ x ∈ l, p x = true) → Q (i : Int)) : slices_IndexFunc_s_api_Want_api_Want_W l p Q := by
  refine loop_up1 l.length (fun i => ∀ x ∈ l.take i, p x = false) (by simp) fun K i hi hI hK => ?_
  show slices_IndexFunc_s_api_Want_api_Want_l1 l p Q _ (i : Int)
  unfold slices_IndexFunc_s_api_Want_api_Want_l1
  refine ⟨fun d => ?_, fun d => ?_⟩
  · have i1 : i < l.length := by omega
    rw [gi_nat i1]
    show _ ∧ (p l[i] = true → _) ∧ (p l[i] = false → _)
    refine ⟨by (first | omega | (unfold I64; omega) | (simp only [List.length_append, List.length_cons, List.length_nil, List.length_take, List.length_drop] at *; omega) | (unfold I64; simp only [List.length_append, List.length_cons, List.length_nil, List.length_take, List.length_drop] at *; omega)), fun c => h1 i ⟨_, List.getElem_mem i1, c⟩, fun c => ⟨by (first | omega | (unfold I64; omega) | (simp only [List.length_append, List.length_cons, List.length_nil, List.length_take, List.length_drop] at *; omega) | (unfold I64; simp only [List.length_append, List.length_cons, List.length_nil, List.length_take, List.length_drop] at *; omega)), hK (i + 1) (by omega) (by omega) ?_⟩⟩
    intro x hx; rw [List.take_succ_eq_append_getElem i1] at hx
    rcases List.mem_append.1 hx with e | e
    · exact hI x e
    · rw [List.mem_singleton.1 e]; exact c
  · have i1 : i = l.length := by omega
    subst i1
    rw [List.take_length] at hI; exact h0 hI
theorem wanted_ok {g : Ad} {l : List Wt} {Q : Bool → List Wt → Prop} (hl : l.length ≤ 1000) (h : ∀ b, (b = true ↔ ∃ w ∈ l, w.1 = g) → Q b l) : proxy_Proxy_Update_1_W g l Q := by
  refine ⟨fun w => decide ((w.1 : Ad) = (g.1, g.2)), fun x => rfl, idxW_ok hl (fun q => h _ ?_) (fun i q => h _ ?_)⟩
  · rw [show decide ((0 : Int) ≤ -1) = false from rfl]
    refine ⟨fun c => (by cases c), fun ⟨w, hw, e⟩ => ?_⟩
    have := of_decide_eq_false (q w hw); exact absurd e this
  · rw [show decide ((0 : Int) ≤ (i : Int)) = true from decide_eq_true (by omega)]
    obtain ⟨w, hw, e⟩ := q
    exact ⟨fun _ => ⟨w, hw, of_decide_eq_true e⟩, fun _ => rfl⟩
theorem flat_take {α : Type} (cs : List (List α)) (i : Nat) : (cs.take i).flatten.length ≤ cs.flatten.length := by
  have e : cs.flatten = (cs.take i).flatten ++ (cs.drop i).flatten := by rw [← List.flatten_append, List.take_append_drop]
  rw [e, List.length_append]; omega
theorem packed_ok {v6 hv : Bool} {now one two lost : Int} {m : Wm} {l : List Tk} {cs : List (List Rb)} {Q : List Tk → Bool → Bool → Int → Wm → Int → Int → Int → Prop} (hl : l.map tb = cs.map (mkT v6)) (hn : l.length ≤ 1000) (hc : cs.flatten.length ≤ 1000) (hs : ∀ r ∈ cs.flatten, r.2.2.length ≤ 1000)
    (h : ∀ r : List Tk, r.map tb = (packL v6 cs.flatten).map (mkT v6) → Q r v6 hv now m one two lost) : proxy_Proxy_packed_W v6 hv now m one two lost l Q := by
  have hlen : l.length = cs.length := by have := congrArg List.length hl; simpa using this
  refine loop_by (fun s => s.2.2) l.length (fun i s => s.1 = [] ∧ s.2.1.map rk = (cs.take i).flatten) rfl ⟨rfl, rfl⟩ ?_
  rintro K i ⟨out, recs, _⟩ rfl hi ⟨x1, x2⟩ hK
  replace x1 : out = [] := x1
  subst x1
  replace x2 : recs.map rk = (cs.take i).flatten := x2
  have rl : recs.length ≤ 1000 := by have e := congrArg List.length x2; rw [List.length_map] at e; have := flat_take cs i; omega
  show proxy_Proxy_packed_l1 v6 hv now m one two lost l Q _ [] recs (i : Int)
  unfold proxy_Proxy_packed_l1
  refine ⟨fun d => ?_, fun d => ?_⟩
  · have i1 : i < l.length := by omega
    have i2 : i < cs.length := by omega
    rw [gi_nat i1]
    have e : tb l[i] = mkT v6 cs[i] := by
      have := congrArg (fun z => z[i]?) hl
      simp only [List.getElem?_map, List.getElem?_eq_getElem i1, List.getElem?_eq_getElem i2, Option.map_some, Option.some.injEq] at this
      exact this
    have hr := tb_recs e
    have e1 : l[i].2.1 = lastV v6 := congrArg (fun z : Tb => z.2.1) e
    have e2 : l[i].2.2.1 = 2 := congrArg (fun z : Tb => z.2.2.1) e
    have cl : cs[i].length ≤ 1000 := by
      have : (cs[i]).length ≤ cs.flatten.length := by
        have h1 := flat_take cs (i + 1)
        rw [List.take_succ_eq_append_getElem i2, List.flatten_append, List.length_append] at h1
        have e3 : ([cs[i]] : List (List Rb)).flatten = cs[i] := by simp
        rw [e3] at h1; omega
      omega
    have tl : l[i].2.2.2.2.2.2.2.2.2.2.length ≤ 1000 := by rw [← List.length_map (f := rk), hr]; exact cl
    refine ⟨by (first | omega | (unfold I64; omega) | (simp only [List.length_append, List.length_cons, List.length_nil, List.length_take, List.length_drop] at *; omega) | (unfold I64; simp only [List.length_append, List.length_cons, List.length_nil, List.length_take, List.length_drop] at *; omega)), fun _ => lastP_ok ?_, fun q => absurd e2 q⟩
    rw [e1, show decide (lastV v6 = lastV v6) = true by simp]
    refine ⟨fun _ => ⟨by omega, by (first | omega | (unfold I64; omega) | (simp only [List.length_append, List.length_cons, List.length_nil, List.length_take, List.length_drop] at *; omega) | (unfold I64; simp only [List.length_append, List.length_cons, List.length_nil, List.length_take, List.length_drop] at *; omega)), hK (i + 1) _ (by simp) (by omega) (by omega) ⟨rfl, ?_⟩⟩, fun q => (by cases q)⟩
    show (recs ++ _).map rk = _
    rw [List.map_append, x2, hr, List.take_succ_eq_append_getElem i2, List.flatten_append]; simp
  · have i1 : i = l.length := by omega
    have x3 : recs.map rk = cs.flatten := by rw [x2, List.take_of_length_le (by omega)]
    unfold host_Pack_W
    refine packP_ok (by omega) (fun r hr => ?_) fun out ho => ⟨?_, h _ (by rw [List.nil_append, ho, x3])⟩
    · have : rk r ∈ cs.flatten := by rw [← x3]; exact List.mem_map_of_mem hr
      have := hs _ this
      show (rk r).2.2.length ≤ 100000
      omega
    · have e := congrArg List.length ho; rw [List.length_map, List.length_map] at e
      have := packL_len v6 (recs.map rk); rw [List.length_map] at this
      rw [List.length_nil]; omega
theorem four24_ok {n : Int} {Q : Ad → Prop} (hn : 0 ≤ n ∧ n < 256) (h : Q (fourA 239 n)) : law24_four_W n Q := ⟨hn, h⟩
theorem all24_ok {n : Int} {Q : List Wt → Prop} (hn : 0 ≤ n ∧ n < 256) (h : Q [(fourA 239 n, (true, (.slice none 0 0, [])))]) : law24_all_W n Q := four24_ok hn h
theorem gatherL_one {w : Wt} (hg : aGood w.1 = true) (h1 : w.2.1 = true) (h2 : w.2.2.2 = []) : gatherL [w] = [(w.1, true, [])] := by
  have e1 : ofL ([w].map fun w => w.1) = [w.1] := by
    show ins [] w.1 = [w.1]
    rw [ins_new (by simp) hg]; simp
  have e2 : flt [w] w.1 = [w.2] := by unfold flt; simp
  have e3 : gth [w] w.1 = (w.1, true, []) := by
    unfold gth; rw [e2]
    have a1 : exB ([w.2].map bare) = true := by unfold exB bare; simp [h1]
    have a2 : allS [w.2] = [] := by unfold allS; rw [List.flatMap_cons, h2]; rfl
    rw [a1, a2]
  unfold gatherL; rw [e1, List.map_cons, e3]; simp [nn, noneB]
theorem tail24 {n : Int} {next : List Wt} {out : List Tk} {cs : List (List Rb)} {lost : Int} {Q : List Tk → Bool → Bool → Int → Wm → Int → Int → Int → Prop} (hnx : next.map bw = [(fourA 239 n, true, [])]) (hout : out.map tb = cs.map (mkT false)) (ho : out.length ≤ 10) (hc : cs.flatten.length ≤ 10) (hs : ∀ r ∈ cs.flatten, r.2.2.length ≤ 10)
    (h : ∀ (r : List Tk) (v : Value), r.map tb = (packL false (cs.flatten ++ [(4, fourA 239 n, [])])).map (mkT false) → Q r false false 0 [(fourA 239 n, (true, (v, [])))] 0 0 lost) :
    loopW (fun (K_2 : (Bool × Int × (List (T_api_Addr × T_api_Filter)) × Int × Int × Int × List T_api_Talk × Int) → Prop) (s : Bool × Int × (List (T_api_Addr × T_api_Filter)) × Int × Int × Int × List T_api_Talk × Int) => proxy_Proxy_Update_l3 false 0 Q next (fun p_1_0_3 p_1_1_3 p_1_2_3 p_1_3_3 p_1_4_3 p_2_2 out_2 n_2 => K_2 (p_1_0_3, p_1_1_3, p_1_2_3, p_1_3_3, p_1_4_3, p_2_2, out_2, n_2)) s.1 s.2.1 s.2.2.1 s.2.2.2.1 s.2.2.2.2.1 s.2.2.2.2.2.1 s.2.2.2.2.2.2.1 s.2.2.2.2.2.2.2) (false, 0, [], 0, 0, lost, out, 0) := by
  obtain ⟨w, rfl, hw⟩ : ∃ w, next = [w] ∧ bw w = (fourA 239 n, true, []) := by
    match next, hnx with
    | [w], hnx => exact ⟨w, rfl, by simpa using hnx⟩
    | [], hnx => simp at hnx
    | _ :: _ :: _, hnx => simp at hnx
  have w1 : w.1 = fourA 239 n := congrArg (fun z : Wb => z.1) hw
  have w2 : w.2.1 = true := congrArg (fun z : Wb => z.2.1) hw
  have w3 : w.2.2.2 = [] := congrArg (fun z : Wb => z.2.2) hw
  refine loop_by (fun s => s.2.2.2.2.2.2.2) 1 (fun i s => s.1 = false ∧ s.2.1 = 0 ∧ s.2.2.2.1 = 0 ∧ s.2.2.2.2.1 = 0 ∧ s.2.2.2.2.2.1 = lost ∧ ((i = 0 ∧ s.2.2.1 = [] ∧ s.2.2.2.2.2.2.1 = out) ∨ (i = 1 ∧ ∃ (v : Value) (r : List Tk), s.2.2.1 = [(fourA 239 n, (true, (v, [])))] ∧ s.2.2.2.2.2.2.1 = out ++ r ∧ r.map tb = [mkT false [(4, fourA 239 n, [])]]))) rfl ⟨rfl, rfl, rfl, rfl, rfl, .inl ⟨rfl, rfl, rfl⟩⟩ ?_
  rintro K i ⟨a, b, m, d, e, ls, o2, _⟩ rfl hi ⟨x1, x2, x3, x4, x5, x6⟩ hK
  replace x1 : a = false := x1
  replace x2 : b = 0 := x2
  replace x3 : d = 0 := x3
  replace x4 : e = 0 := x4
  replace x5 : ls = lost := x5
  subst x1; subst x2; subst x3; subst x4; subst x5
  show proxy_Proxy_Update_l3 false 0 Q [w] _ false 0 m 0 0 ls o2 (i : Int)
  unfold proxy_Proxy_Update_l3
  rcases x6 with ⟨rfl, y1, y2⟩ | ⟨rfl, v, r, y1, y2, y3⟩
  · replace y1 : m = [] := y1
    replace y2 : o2 = out := y2
    subst y1; subst y2
    refine ⟨fun _ => ⟨by simp, ?_⟩, fun q => absurd (by simp) q⟩
    have g0 : gi [w] ((0 : Nat) : Int) = w := rfl
    rw [g0, w1, w2, w3]
    refine setH_ok (fourA_good _ _) (fourA_grp _) fourA_loc rfl (by simp) (fun _ => ASet.nil) (by simp) (wantOk_of (by simp)) (by decide) (by decide) (fun c => absurd c (by simp)) (fun _ _ _ c => absurd c (by simp)) ?_
    intro _ _ r m' _ hm hr
    obtain ⟨v, rfl⟩ := hm rfl
    have hr' : r.map tb = [mkT false [(4, fourA 239 n, [])]] := hr
    have rl : r.length = 1 := by have := congrArg List.length hr'; simpa using this
    refine ⟨fun q => absurd rfl q, fun _ => ⟨by omega, by (first | omega | (unfold I64; omega) | (simp only [List.length_append, List.length_cons, List.length_nil, List.length_take, List.length_drop] at *; omega) | (unfold I64; simp only [List.length_append, List.length_cons, List.length_nil, List.length_take, List.length_drop] at *; omega)), hK 1 _ rfl (by omega) (by omega) ⟨rfl, rfl, rfl, rfl, rfl, .inr ⟨rfl, v, r, rfl, rfl, hr'⟩⟩⟩⟩
  · replace y1 : m = [(fourA 239 n, (true, (v, [])))] := y1
    replace y2 : o2 = out ++ r := y2
    subst y1; subst y2
    have rl : r.length = 1 := by have := congrArg List.length y3; simpa using this
    refine ⟨fun q => absurd q (by simp), fun _ => ?_⟩
    refine packed_ok (cs := cs ++ [[(4, fourA 239 n, [])]]) (by rw [List.map_append, List.map_append, hout, y3]; rfl) (by rw [List.length_append]; omega) (by rw [List.flatten_append, List.length_append]; have e3 : ([[(4, fourA 239 n, [])]] : List (List Rb)).flatten.length = 1 := rfl; omega) (fun x hx => ?_) fun q hq => h q v ?_
    · rw [List.flatten_append] at hx
      rcases List.mem_append.1 hx with z | z
      · have := hs x z; omega
      · simp at z; subst z; simp
    · rw [hq, List.flatten_append]; rfl
theorem sl_one {v : Value} {l : List Wt} : ([(v, l)] : List T_s_api_Want).flatMap (fun x => x.2) = l := by simp
theorem goodW_one {n : Int} {v : Value} : GoodW [(fourA 239 n, (true, (v, [])))] := ⟨fun w hw => by rw [List.mem_singleton.1 hw]; exact ⟨ASet.nil, by simp⟩, fun w hw => by rw [List.mem_singleton.1 hw]; exact fourA_good _ _, by simp⟩
theorem upd24a {n lost : Int} {Q : List Tk → Bool → Bool → Int → Wm → Int → Int → Int → Prop} (h : ∀ (r : List Tk) (v : Value), r.map tb = [mkT false [(4, fourA 239 n, [])]] → Q r false false 0 [(fourA 239 n, (true, (v, [])))] 0 0 lost) :
    proxy_Proxy_Update_W false false 0 [] 0 0 lost 0 [(fourA 239 n, (true, (.slice none 0 0, [])))] Q := by
  intro vl
  refine gather_ok (by simp) (by intro x hx; rw [List.mem_singleton.1 hx]; simp) (by rw [sl_one]; exact goodW_one) fun next hnx => ?_
  rw [sl_one, gatherL_one (fourA_good _ _) rfl rfl] at hnx
  unfold host_Host_Groups_W
  refine groupsH_ok (by simp) fun ks hp _ => ?_
  have hks : ks = [] := List.Perm.eq_nil hp
  subst hks
  refine loop_by (fun s => s.2.2.2.2.2.2.2) 0 (fun i s => s = (false, 0, [], 0, 0, [], next, 0)) rfl rfl ?_
  rintro K i s hx hi rfl hK
  show proxy_Proxy_Update_l2 false lost 0 Q [] _ false 0 [] 0 0 [] next 0
  unfold proxy_Proxy_Update_l2
  refine ⟨fun q => absurd q (by simp), fun _ => ?_⟩
  exact tail24 (cs := []) hnx rfl (by simp) (by simp) (by simp) fun r v hr => h r v hr
theorem upd24b {n k lost : Int} {v0 : Value} {Q : List Tk → Bool → Bool → Int → Wm → Int → Int → Int → Prop} (hne : fourA 239 n ≠ fourA 239 k) (h : ∀ (r : List Tk) (v : Value), r.map tb = [mkT false [(3, fourA 239 k, []), (4, fourA 239 n, [])]] → Q r false false 0 [(fourA 239 n, (true, (v, [])))] 0 0 lost) :
    proxy_Proxy_Update_W false false 0 [(fourA 239 k, (true, (v0, [])))] 0 0 lost 0 [(fourA 239 n, (true, (.slice none 0 0, [])))] Q := by
  intro vl
  refine gather_ok (by simp) (by intro x hx; rw [List.mem_singleton.1 hx]; simp) (by rw [sl_one]; exact goodW_one) fun next hnx => ?_
  rw [sl_one, gatherL_one (fourA_good _ _) rfl rfl] at hnx
  have nl : next.length = 1 := by have := congrArg List.length hnx; simpa using this
  unfold host_Host_Groups_W
  refine groupsH_ok (by simp) fun ks hp _ => ?_
  have hks : ks = [fourA 239 k] := perm_one hp
  subst hks
  refine loop_by (fun s => s.2.2.2.2.2.2.2) 1 (fun i s => s.1 = false ∧ s.2.1 = 0 ∧ s.2.2.2.1 = 0 ∧ s.2.2.2.2.1 = 0 ∧ s.2.2.2.2.2.2.1 = next ∧ ((i = 0 ∧ s.2.2.1 = [(fourA 239 k, (true, (v0, [])))] ∧ s.2.2.2.2.2.1 = []) ∨ (i = 1 ∧ s.2.2.1 = [] ∧ s.2.2.2.2.2.1.map tb = [mkT false [(3, fourA 239 k, [])]]))) rfl ⟨rfl, rfl, rfl, rfl, rfl, .inl ⟨rfl, rfl, rfl⟩⟩ ?_
  rintro K i ⟨a, b, m, d, e, o, nx, _⟩ rfl hi ⟨x1, x2, x3, x4, x5, x6⟩ hK
  replace x1 : a = false := x1
  replace x2 : b = 0 := x2
  replace x3 : d = 0 := x3
  replace x4 : e = 0 := x4
  replace x5 : nx = next := x5
  subst x1; subst x2; subst x3; subst x4; subst x5
  show proxy_Proxy_Update_l2 false lost 0 Q [fourA 239 k] _ false 0 m 0 0 o nx (i : Int)
  unfold proxy_Proxy_Update_l2
  rcases x6 with ⟨rfl, y1, y2⟩ | ⟨rfl, y1, y2⟩
  · replace y1 : m = [(fourA 239 k, (true, (v0, [])))] := y1
    replace y2 : o = [] := y2
    subst y1; subst y2
    refine ⟨fun _ => ⟨by simp, ?_⟩, fun q => absurd (by simp) q⟩
    have g0 : gi [fourA 239 k] ((0 : Nat) : Int) = fourA 239 k := rfl
    rw [g0]
    refine wanted_ok (by omega) fun bb hb => ?_
    have hbf : bb = false := by
      cases bb with
      | false => rfl
      | true =>
        obtain ⟨w, hw, e⟩ := hb.1 rfl
        have : bw w ∈ nx.map bw := List.mem_map_of_mem hw
        rw [hnx, List.mem_singleton] at this
        have w1 : w.1 = fourA 239 n := congrArg (fun z : Wb => z.1) this
        exact absurd (w1.symm.trans e) hne
    subst hbf
    refine ⟨fun _ => ?_, fun q => (by cases q)⟩
    have hget : mget ([(fourA 239 k, (true, (v0, [])))] : Wm) (fourA 239 k) = some (true, (v0, [])) := by rw [mget_cons, if_pos rfl]
    have hgd : mgetD z_api_Filter ([(fourA 239 k, (true, (v0, [])))] : Wm) (fourA 239 k) = (true, (v0, [])) := by unfold mgetD; rw [hget]; rfl
    refine setH_ok (fourA_good _ _) (fourA_grp _) fourA_loc rfl (by simp) (fun _ => ASet.nil) (by simp) (wantOk_of (by intro p hp; rw [List.mem_singleton.1 hp]; exact ⟨ASet.nil, by simp⟩)) (by decide) (by decide) (fun c => absurd c (by simp)) (fun _ _ _ c => absurd c (by simp)) ?_
    intro _ _ r m' hm _ hr
    have hm' := hm rfl
    rw [hgd] at hr
    have hr' : r.map tb = [mkT false [(3, fourA 239 k, [])]] := hr
    have rl : r.length = 1 := by have := congrArg List.length hr'; simpa using this
    refine ⟨by simp; omega, by (first | omega | (unfold I64; omega) | (simp only [List.length_append, List.length_cons, List.length_nil, List.length_take, List.length_drop] at *; omega) | (unfold I64; simp only [List.length_append, List.length_cons, List.length_nil, List.length_take, List.length_drop] at *; omega)), hK 1 _ rfl (by omega) (by omega) ⟨rfl, rfl, rfl, rfl, rfl, .inr ⟨rfl, ?_, ?_⟩⟩⟩
    · show m' = []
      rw [hm']; unfold mdel; simp
    · exact hr'
  · replace y1 : m = [] := y1
    replace y2 : o.map tb = [mkT false [(3, fourA 239 k, [])]] := y2
    subst y1
    have ol : o.length = 1 := by have := congrArg List.length y2; simpa using this
    refine ⟨fun q => absurd q (by simp), fun _ => ?_⟩
    exact tail24 (cs := [[(3, fourA 239 k, [])]]) hnx y2 (by omega) (by simp) (by simp) fun r v hr => h r v hr
theorem two_rep {r : List Tk} {v6 : Bool} {x y : Rb} (h : r.map tb = [mkT v6 [x, y]]) : ∃ (t : Tk) (c d : Rec), r = [t] ∧ t.2.2.2.2.2.2.2.2.2.2 = [c, d] ∧ rk c = x := by
  match r, h with
  | [t], h =>
    have h1 : tb t = mkT v6 [x, y] := by simpa using h
    have h2 : t.2.2.2.2.2.2.2.2.2.2.map rk = [x, y] := congrArg (fun z : Tb => z.2.2.2.2.2.2.2.2.2) h1
    match e : t.2.2.2.2.2.2.2.2.2.2, h2 with
    | [c, d], h2 => exact ⟨t, c, d, rfl, e, by simp at h2; exact h2.1⟩
  | [], h => simp at h
  | _ :: _ :: _, h => simp at h
theorem filterH_ok {v6 : Bool} {now one two : Int} {m : Wm} {g : Ad} {Q : Bool → List Ad → Prop} (hl : (mgetD z_api_Filter m g).2.2.length ≤ 1000) (h : Q (mgetD z_api_Filter m g).1 (mgetD z_api_Filter m g).2.2) : host_Host_Filter_W v6 now m one two g Q := clone_Ad (by omega) h
theorem lives24_ok {Q : Bool → Prop} (h : Q true) : law24_lives_W Q := by
  unfold law24_lives_W proxy_New_W host_New_W
  refine all24_ok (by decide) (upd24a fun r v hr => all24_ok (by decide) (upd24b (fun q => absurd (fourA_inj (by decide) (by decide) q) (by decide)) fun r2 v2 hr2 => ?_))
  obtain ⟨t, c, rfl, ht, hc⟩ := one_rep hr
  obtain ⟨t2, c2, d2, rfl, ht2, hc2⟩ := two_rep hr2
  have g1 : gi [t] 0 = t := rfl
  have g2 : gi [t2] 0 = t2 := rfl
  refine ⟨fun _ => ⟨by simp, ?_⟩, fun q => absurd rfl q⟩
  rw [g1, ht]
  refine ⟨fun _ => ⟨fun _ => ⟨by simp, ?_⟩, fun q => absurd rfl q⟩, fun q => absurd rfl q⟩
  rw [g2, ht2]
  refine ⟨fun _ => ⟨by simp, fun _ => ?_, fun q => absurd ?_ q⟩, fun q => absurd rfl q⟩
  · unfold proxy_Proxy_Wants_W host_Host_Groups_W
    refine groupsH_ok (by simp) fun ks hp _ => ?_
    have hks : ks = [fourA 239 2] := perm_one hp
    subst hks
    refine loop_up 1 (fun i s => s.length = i) rfl fun K i s hi hs hK => ?_
    show proxy_Proxy_Wants_l1 _ _ _ _ _ _ _ _ [fourA 239 2] _ s (i : Int)
    unfold proxy_Proxy_Wants_l1
    have e1 : ([fourA 239 2] : List Ad).length = 1 := rfl
    rw [e1]
    refine ⟨fun q => ⟨by (first | omega | (unfold I64; omega) | (simp only [List.length_append, List.length_cons, List.length_nil, List.length_take, List.length_drop] at *; omega) | (unfold I64; simp only [List.length_append, List.length_cons, List.length_nil, List.length_take, List.length_drop] at *; omega)), filterH_ok ?_ fun v => ⟨by simp only [List.length_cons, List.length_nil]; omega, by (first | omega | (unfold I64; omega) | (simp only [List.length_append, List.length_cons, List.length_nil, List.length_take, List.length_drop] at *; omega) | (unfold I64; simp only [List.length_append, List.length_cons, List.length_nil, List.length_take, List.length_drop] at *; omega)), hK (i + 1) _ (by omega) (by omega) (by simp [hs])⟩⟩, fun q => ?_⟩
    · rcases mgetD_cases (m := ([(fourA 239 2, (true, (v2, [])))] : Wm)) (g := gi [fourA 239 2] (i : Int)) with e | ⟨p, hp, e⟩
      · rw [e]; decide
      · rw [← e, List.mem_singleton.1 hp]; simp
    · have : s.length = 1 := by omega
      show Q (decide ((s.length : Int) = 1))
      rw [this]; exact h
  · exact congrArg (fun z : Rb => z.1) hc2
theorem addrs_any {l : List Ad} {Q : List Ad → Prop} (h : ∀ r, Q r) : law08_Addrs_W l 6 Q := addrs_ok (h _)
theorem recs_any {l : List Rec} {Q : List Rec → Prop} (h : ∀ r, Q r) : law08_Records_W l 6 Q := by
  refine loop_up l.length (fun i s => s.length = i ∧ i ≤ 6) ⟨rfl, by omega⟩ fun K i s hi ⟨hs, h6⟩ hK => ?_
  show law08_Records_l1 l 6 Q _ s (i : Int)
  unfold law08_Records_l1 law08_Records_j1
  refine ⟨fun d => ⟨fun c => ⟨by (first | omega | (unfold I64; omega) | (simp only [List.length_append, List.length_cons, List.length_nil, List.length_take, List.length_drop] at *; omega) | (unfold I64; simp only [List.length_append, List.length_cons, List.length_nil, List.length_take, List.length_drop] at *; omega)), addrs_any fun r v => ⟨by simp only [List.length_cons, List.length_nil]; omega, by (first | omega | (unfold I64; omega) | (simp only [List.length_append, List.length_cons, List.length_nil, List.length_take, List.length_drop] at *; omega) | (unfold I64; simp only [List.length_append, List.length_cons, List.length_nil, List.length_take, List.length_drop] at *; omega)), ?_⟩⟩, fun c => h _⟩, fun d => ⟨fun c => (by cases c), fun _ => h _⟩⟩
  have := of_decide_eq_true c
  exact hK (i + 1) _ (by omega) (by omega) ⟨by simp [hs], by omega⟩
def fewW (w : Wt) : Wb := (w.1, w.2.1, ofL (w.2.2.2.take 6))
theorem wants_ok {l : List Wt} {n : Nat} {Q : List Wt → Prop} (hn : n ≤ 100) (h : ∀ r, r.map bw = (l.take n).map fewW → Q r) : law24_Wants_W l (n : Int) Q := by
  refine loop_up l.length (fun i s => s.map bw = (l.take i).map fewW ∧ i ≤ n) ⟨rfl, by omega⟩ fun K i s hi ⟨hs, h6⟩ hK => ?_
  have e : s.length = i := by have := congrArg List.length hs; simp at this; omega
  have fin : ¬ (i < l.length ∧ i < n) → Q s := fun q => h s (by
    rw [hs]
    by_cases c : i = n
    · rw [c]
    · rw [List.take_of_length_le (by omega), List.take_of_length_le (by omega)])
  show law24_Wants_l1 l (n : Int) Q _ s (i : Int)
  unfold law24_Wants_l1 law24_Wants_j1
  refine ⟨fun h1 => ⟨fun h2 => ⟨by (first | omega | (unfold I64; omega) | (simp only [List.length_append, List.length_cons, List.length_nil, List.length_take, List.length_drop] at *; omega) | (unfold I64; simp only [List.length_append, List.length_cons, List.length_nil, List.length_take, List.length_drop] at *; omega)), ?_⟩, fun h2 => ?_⟩, fun h1 => ⟨fun h => (by cases h), fun _ => fin (by omega)⟩⟩
  · have i1 : i < l.length := by omega
    have := of_decide_eq_true h2
    rw [gi_nat i1]
    refine fewP_ok fun v => ⟨by simp only [List.length_cons, List.length_nil]; omega, by (first | omega | (unfold I64; omega) | (simp only [List.length_append, List.length_cons, List.length_nil, List.length_take, List.length_drop] at *; omega) | (unfold I64; simp only [List.length_append, List.length_cons, List.length_nil, List.length_take, List.length_drop] at *; omega)), hK (i + 1) _ (by omega) (by omega) ⟨?_, by omega⟩⟩
    rw [List.map_append, hs, List.take_succ_eq_append_getElem i1, List.map_append]; rfl
  · have := of_decide_eq_false h2; exact fin (by omega)
theorem proxyNil_ok {now : Int} {l : List Wt} {a : Bool} {b c d : Int} {e : Ad} {f : Bool} {i j : Int} {k : List Ad} {m : List Rec} {Q : Bool → Prop} (h : Q true) : law24_ProxyNil_W now l a b c d e f i j k m Q := by
  refine wants_ok (n := 4) (by decide) fun r _ => ⟨fun _ => addrs_any fun _ => recs_any fun _ => ?_, fun q => absurd rfl q⟩
  exact ⟨fun _ => ⟨fun _ => ⟨fun _ => lives24_ok h, fun q => absurd rfl q⟩, fun q => absurd rfl q⟩, fun q => absurd rfl q⟩
end Go.Wk
